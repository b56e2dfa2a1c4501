/- The abstract machine, 13: all operations that make or write memory. -/
import Derived.Test.YtblmoikhfmkfnaaM12
namespace Go.Proofs.Ytblmoikhfmkfnaa
set_option linter.unusedSimpArgs false
set_option linter.unusedVariables false
open Go.RowKit Go

section
variable {P : Program} {L : List (Option Row)} {w : World} {S0 : Nat → Prop} {n0 : Nat} {φ : Phi} {s : XS} {a : Act}

theorem zeros_flat {S : Nat → Prop} {zs : List D} {z : Array Value} (hz : z.toList = zs.map dstat) (h : ∀ x, x ∈ zs → dstatic x = true) (n : Nat) :
    V.repL w S φ (List.replicate n (zs.map V.d)).flatten (madeCells z (n * z.size)).toList := by
  have hzl : zs.length = z.size := by have := congrArg List.length hz; simpa using this.symm
  have key : (madeCells z (n * z.size)).toList = (List.replicate n z.toList).flatten := by
    apply List.ext_getElem?
    intro i
    by_cases hi : i < n * z.size
    · have hpos : 0 < z.size := Nat.pos_of_ne_zero fun h0 => by simp [h0] at hi
      obtain ⟨k, j, rfl, hj, hk⟩ : ∃ k j, i = k * z.size + j ∧ j < z.size ∧ k < n := ⟨i / z.size, i % z.size, by rw [Nat.mul_comm]; exact (Nat.div_add_mod i z.size).symm, Nat.mod_lt _ hpos, (Nat.div_lt_iff_lt_mul hpos).2 hi⟩
      have h1 := made_get z n k j hk hj
      rw [Array.getElem?_toList, h1]
      have : ∀ (n k : Nat), k < n → (List.replicate n z.toList).flatten[k * z.size + j]? = z[j]? := by
        intro n
        induction n with
        | zero => intro k hk; omega
        | succ n ih =>
          intro k hk
          rw [List.replicate_succ, List.flatten_cons]
          cases k with
          | zero => rw [List.getElem?_append_left (by simp; omega)]; simp
          | succ k =>
            rw [List.getElem?_append_right (by simp [Nat.add_mul]; omega)]
            rw [show (k + 1) * z.size + j - z.toList.length = k * z.size + j from by simp [Nat.add_mul]; omega]
            exact ih k (by omega)
      exact (this n k hk).symm
    · rw [List.getElem?_eq_none (by simp [size_madeCells]; omega), List.getElem?_eq_none (by simp; omega)]
  rw [key, hz]
  clear key
  induction n with
  | zero => rfl
  | succ n ih =>
    rw [List.replicate_succ, List.flatten_cons, List.replicate_succ, List.flatten_cons]
    exact V.repL_append ((V.repL_mapD _ _).2 (zeros_rep h)) ih

theorem run_xbuildSlice (hL : LayOk P L) (hn : n0 ≤ w.heap.size) (H : Sim w (SS S0 n0 φ) φ s a) {t e n : Nat} {r re : Row} (hr : (rowAt L t) = some r) (hrt : r.td = .sl e) (hre : (rowAt L e) = some re) {parts : Array (Nat × Operand)} {cs : List V}
    (hsm : n * re.size ≤ 16777216) (hf : fill (fun i => some (i * re.size, re)) (List.replicate n (re.zero.map V.d)).flatten (evParts s parts.toList) = some cs) (hn' : n ≤ 16777216) :
    ∃ u w2 φ2, (Instr.buildSlice t n (parts.map fun (i, x) => (i, a.eval x))).run P w = .ok u w2 ∧ V.rep w2 (SS S0 n0 φ2) φ2 (.own re.size s.mem.length 0 n true) u ∧ Sim w2 (SS S0 n0 φ2) φ2 ⟨s.sl, s.mem ++ [some (.box cs)]⟩ a ∧ FrameTo φ w φ2 w2 ∧ (∃ ob, w2 = w.alloc ob) ∧ ∃ x, φ2 = φ ++ [x] := by
  have hro := hL t r hr
  have hreo := hL e re hre
  obtain ⟨d, hd, htd⟩ := hro.und
  rw [hrt] at htd
  simp only [tdOk] at htd
  subst htd
  obtain ⟨i, hi, hs, hb, zv, hzv, hzc, _⟩ := hreo.info
  have hzs : zv.cells.size = re.size := by
    have := congrArg List.length hzc
    simpa [hreo.zlen] using this
  have hz := zeros_flat (w := w) (S := SS S0 n0 φ) (φ := φ) hzc hreo.zero n
  rw [hzs] at hz
  obtain ⟨ys, h1, h2, h3⟩ := fill_rep (place' := fun i => some (i * re.size, re.size)) (fun i o rr hx => by simp only [Option.some.injEq, Prod.mk.injEq] at hx; obtain ⟨rfl, rfl⟩ := hx; rfl) _ _ (evParts_rep H parts.toList) _ _ _ hf hz
  have hrun : (Instr.buildSlice t n (parts.map fun (i, x) => (i, a.eval x))).run P w = .ok (.slice (some ⟨w.heap.size, 0, none⟩) n n) (w.alloc (.cells ys.toArray e)) := by
    have h2' : Instr.fill (fun i => some (i * re.size, re.size)) (madeCells zv.cells (n * re.size)) (parts.map fun (i, x) => (i, a.eval x)).toList = some ys.toArray := by
      rw [← h2]; simp
    by_cases hpos : n * i.size = 0
    · have he : (madeCells zv.cells (n * re.size)) = #[] := by rw [← hs, hpos]; simp [madeCells]
      rw [he] at h2'
      have hzero : n * re.size = 0 := by rw [← hs]; exact hpos
      have hr0 : Array.range 0 = #[] := rfl
      simp only [Instr.buildSlice, Sem.run_bind, run_underlying hd, Result.andThen_ok, hreo.run_size, hzero]
      simp [hr0, newRow] at h2' ⊢
      rw [h2']
      simp
    · exact run_buildSlice w t e n _ ys.toArray i zv hd hi hzv (by rw [hs]; omega) hpos (by rw [hs]; exact h2')
  refine ⟨_, _, φ ++ [some (w.heap.size, 0)], hrun, .inr ⟨w.heap.size, 0, n, _, _, _, by rw [phi_append, if_neg (by rw [H.mem.len]; omega), if_pos H.mem.len.symm], by simp, Nat.le_refl _, by simp [maxLen]; omega, fun _ => rfl, heap_alloc_at _ _, ?_⟩, sim_alloc hn H _ _ _ (box_new hn H h1 e), frame_alloc _ _ _ _, ⟨_, rfl⟩, ⟨_, rfl⟩⟩
  have hl := V.repL_length h1
  have : cs.length = n * re.size := by
    rw [h3]
    simp [hreo.zlen]
  simp; omega

theorem rep_zero {t : Nat} {r : Row} (hr : RowOk P t r) {S : Nat → Prop} {z : Value} (hz : z.cells.toList = r.zero.map dstat) : V.repL w S φ (r.zero.map .d) z.cells.toList := by
  rw [V.repL_mapD, hz]; exact zeros_rep hr.zero

theorem run_newVar {t : Nat} (v : Value) (w : World) : (newVar t v).run P w = .ok ⟨w.heap.size, 0, none⟩ (w.alloc (.cells v.cells t)) := by
  simp [newVar, newRow]

theorem run_xeff (hL : LayOk P L) (hn : n0 ≤ w.heap.size) (H : Sim w (SS S0 n0 φ) φ s a) {o : Oper} {x : V} {s2 : XS} (h : xeff L o.op s = some (x, s2)) :
    ∃ u w2 φ2, ((execOp a.eval o).run P w = .ok (.value u) w2 ∨ (u = undef ∧ (execOp a.eval o).run P w = .ok .skip w2)) ∧ V.rep w2 (SS S0 n0 φ2) φ2 x u ∧ Sim w2 (SS S0 n0 φ2) φ2 s2 a ∧ FrameTo φ w φ2 w2 := by
  have V1 : ∀ (m : Sem Value) (u : Value) (w2 : World), m.run P w = .ok u w2 → ((do pure (.value (← m)) : Sem Next)).run P w = .ok (.value u) w2 := fun m u w2 h => by simp [Sem.run_bind, h]
  have U1 : ∀ (m : Sem Unit) (w2 : World), m.run P w = .ok () w2 → ((do m; pure .skip : Sem Next)).run P w = .ok .skip w2 := fun m w2 h => by simp [Sem.run_bind, h]
  cases ho : o.op <;> rw [ho] at h <;> simp only [xeff] at h <;> first | (cases h; done) | skip
  case alloc t =>
    split at h
    · rename_i r hr
      simp only [Option.some.injEq, Prod.mk.injEq] at h
      obtain ⟨rfl, rfl⟩ := h
      obtain ⟨z, hz1, hz2, _⟩ := (hL t r hr).run_zero w
      have hb := box_new (s := s) hn H (rep_zero (hL t r hr) hz2) t
      simp only [Array.toArray_toList] at hb
      refine ⟨_, _, φ ++ [some (w.heap.size, 0)], .inl (by rw [execOp, ho]; refine V1 _ (.pointer (some ⟨w.heap.size, 0, none⟩)) (w.alloc (.cells z.cells t)) ?_; simp [Instr.alloc, Sem.run_bind, hz1, run_newVar]), ⟨w.heap.size, 0, by rw [phi_append, if_neg (by rw [H.mem.len]; omega), if_pos H.mem.len.symm], rfl⟩, sim_alloc hn H _ _ _ hb, frame_alloc _ _ _ _⟩
    · cases h
  case box t y =>
    split at h
    · rename_i r hr
      split at h
      · rename_i cs hcs
        simp only [Option.some.injEq, Prod.mk.injEq] at h
        obtain ⟨rfl, rfl⟩ := h
        have hv := (vcells_rep hcs (ev_rep H y)).1
        have hb := box_new (s := s) hn H hv t
        simp only [Array.toArray_toList] at hb
        refine ⟨_, _, φ ++ [some (w.heap.size, 0)], .inl (by rw [execOp, ho]; refine V1 _ (.pointer (some ⟨w.heap.size, 0, none⟩)) (w.alloc (.cells (a.eval y).cells t)) ?_; simp [Instr.box, Sem.run_bind, run_newVar]), ⟨w.heap.size, 0, by rw [phi_append, if_neg (by rw [H.mem.len]; omega), if_pos H.mem.len.symm], rfl⟩, sim_alloc hn H _ _ _ hb, frame_alloc _ _ _ _⟩
      · cases h
    · cases h
  case buildSlice t n parts =>
    split at h
    · rename_i r hr
      split at h
      · rename_i e hrt
        split at h
        · rename_i re hre
          split at h
          · rename_i cs hble hf
            simp only [Option.some.injEq, Prod.mk.injEq] at h
            obtain ⟨rfl, rfl⟩ := h
            simp only [Bool.and_eq_true] at hble
            obtain ⟨u, w2, φ2, h1, h2, h3, h4, _⟩ := run_xbuildSlice hL hn H hr hrt hre (Nat.le_of_ble_eq_true hble.1) hf (Nat.le_of_ble_eq_true hble.2)
            exact ⟨u, w2, φ2, .inl (by rw [execOp, ho]; exact V1 _ _ _ h1), h2, h3, h4⟩
          · cases h
        · cases h
      · cases h
    · cases h
  case store t p y =>
    split at h
    · rename_i r hr
      split at h
      · rename_i id off hp
        have hpr := ev_rep H p
        rw [hp] at hpr
        split at h
        · rename_i cells vs hb hvs
          split at h
          · rename_i h1 h2
            simp only [Option.some.injEq, Prod.mk.injEq] at h
            obtain ⟨rfl, rfl⟩ := h
            simp only [Bool.and_eq_true] at h1
            have h0 : 1 ≤ r.size := Nat.le_of_ble_eq_true h1.2
            obtain ⟨w2, k1, k2, k3, _⟩ := run_store_box (p := .undef) hL H hr hpr (ev_rep H y) hb hvs (Nat.eq_of_beq_eq_true h1.1) (Nat.le_of_ble_eq_true h2) (by omega)
            exact ⟨undef, w2, φ, .inr ⟨rfl, by rw [execOp, ho]; exact U1 _ _ k1⟩, ⟨[], rfl, rfl⟩, k2, k3⟩
          · cases h
        · cases h
      · rename_i es id k off hp
        have hpr := ev_rep H p
        rw [hp] at hpr
        split at h
        · rename_i es' xs v hb hv
          have hvr := ev_rep H y
          rw [hv] at hvr
          split at h
          · rename_i x0 hes hg
            obtain rfl : es = es' := Nat.eq_of_beq_eq_true hes
            split at h
            · rename_i x1 hd
              simp only [Option.some.injEq, Prod.mk.injEq] at h
              obtain ⟨rfl, rfl⟩ := h
              unfold lget at hg
              obtain ⟨w2, k1, k2, k3, _⟩ := run_store_arr (p := .undef) hL H hr hpr hvr hb hg hd
              unfold lset
              exact ⟨undef, w2, φ, .inr ⟨rfl, by rw [execOp, ho]; exact U1 _ _ k1⟩, ⟨[], rfl, rfl⟩, k2, k3⟩
            · cases h
          · cases h
        · cases h
      · cases h
    · cases h
  case makeSlice t l c =>
    split at h
    · rename_i r hr
      split at h
      · rename_i e kl n kc m hrt hl hc
        have hlr := ev_rep H l
        have hcr := ev_rep H c
        rw [hl] at hlr
        rw [hc] at hcr
        simp only [V.rep, D.rep] at hlr hcr
        split at h
        · rename_i re hre
          split at h
          · rename_i n' m' z hmk hz
            simp only [Option.some.injEq, Prod.mk.injEq] at h
            obtain ⟨rfl, rfl⟩ := h
            have hcl : sameOp l c = true → n = m := fun hs => by
              cases l <;> cases c <;> simp only [sameOp] at hs <;> first | (cases hs; done) | skip
              rename_i a1 a2
              have := Nat.eq_of_beq_eq_true hs
              subst this
              rw [hl] at hc
              simp only [V.d.injEq, D.int.injEq] at hc
              exact hc.2
            obtain ⟨u, w2, φ2, h1, h2, h3, h4, _⟩ := run_xmake (kl := kl) (kc := kc) hL hn H hr hrt hre _ hcl hmk hz
            exact ⟨u, w2, φ2, .inl (by rw [execOp, ho]; refine V1 _ _ _ ?_; rw [hlr, hcr]; exact h1), h2, h3, h4⟩
          · cases h
        · cases h
      · cases h
    · cases h
  case call c =>
    split at h
    · rename_i p q t t' hc1 hc2 hc3
      have e2 : c.args = #[p, q] := by rw [← Array.toArray_toList (xs := c.args), hc2]
      have e3 : c.argTypes = #[t, t'] := by rw [← Array.toArray_toList (xs := c.argTypes), hc3]
      split at h
      · rename_i r r' hr hr'
        split at h
        · rename_i e hrt htt
          obtain rfl : t = t' := Nat.eq_of_beq_eq_true htt
          have ex : ∀ (u : Value) (w2 : World), (Builtin.append_ #[t, t] o.type #[a.eval p, a.eval q]).run P w = .ok u w2 → (execOp a.eval o).run P w = .ok (.value u) w2 := by
            intro u w2 hh
            simp [execOp, ho, resolve, hc1, invoke, builtin, e2, e3, hh]
          split at h
          · rename_i re hre
            split at h
            · rename_i ys hys
              have hy := xcontent_rep H (hL e re hre) hys (ev_rep H q)
              have hpr := ev_rep H p
              split at h
              · -- nothing to append to
                rename_i es hp
                rw [hp] at hpr
                split at h
                · rename_i n hap
                  simp only [Option.some.injEq, Prod.mk.injEq] at h
                  obtain ⟨rfl, rfl⟩ := h
                  have hanil : D.rep w (SS S0 n0 φ) (.sl 0 true []) (a.eval p) := by
                    rcases hpr with h1 | ⟨b, o', cap, h1, h2, h3, h4, h5, h6, _⟩
                    · exact .inl h1
                    · exact .inr ⟨b, o', cap, h1, h2, h3, h4, h5, h6, trivial⟩
                  have hnil : ∃ a0, a.eval p = .slice a0 0 0 := by
                    rcases hpr with ⟨_, h1⟩ | ⟨b, o', cap, h1, _, _, hcl, _⟩
                    · exact h1
                    · rw [hcl rfl] at h1; exact ⟨_, h1⟩
                  obtain ⟨a0, ha0⟩ := hnil
                  obtain ⟨hv1, hv2⟩ := sim_virtual H re.size
                  have hblk : blkAt (s.mem ++ [some (.arr re.size [])]) s.mem.length = some (.arr re.size []) := by simp [blkAt]
                  have C : CarryV w (SS S0 n0 φ) φ w (SS S0 n0 (φ ++ [none])) (φ ++ [none]) := by
                    have hhas : ∀ b, Phi.has (φ ++ [none]) b → φ.has b := fun b => by
                      rintro ⟨i, o, hi⟩
                      rw [phi_append] at hi
                      split at hi
                      · exact ⟨i, o, hi⟩
                      · split at hi <;> cases hi
                    exact ⟨⟨fun b hb _ => ⟨hb.1, fun hh => hb.2 (hhas b hh)⟩, fun _ _ _ => rfl, Nat.le_refl _⟩, fun i b o h => by rw [phi_append, if_pos (List.getElem?_eq_some_iff.1 h).1]; exact h, fun i b o c T fz _ hb => ⟨c, T, fz, hb, Nat.le_refl _⟩⟩
                  obtain ⟨yb, ycap, yc, hy1, hy2, hy3, hy4⟩ := hy
                  obtain ⟨u, w2, φ2, k1, k2, k3, k4⟩ := run_xappend_own (clip := false) (v := a.eval p) (y := a.eval q) (ty := o.type) (xs := []) hL hn hv1 hr hrt hre (.inl ⟨rfl, rfl, a0, ha0, D.rep_mono C.toCarry (.sl 0 true []) _ hanil⟩) hap hblk ⟨a0, 0, [], ha0, rfl, fun _ => rfl, fun _ _ j u hj => by simp at hj⟩ rfl (fun _ => rfl)
                    ⟨yb, ycap, yc, hy1, D.repF_mono C.toCarry hy2, hy3, hy4⟩
                  refine ⟨u, w2, φ2, .inl (ex _ _ k1), k2, ?_, hv2.trans k4⟩
                  have hk : (killMem s.mem.length (s.mem ++ [some (Blk.arr re.size [])])).set s.mem.length (some (Blk.arr re.size ([] ++ ys))) = killMem s.mem.length s.mem ++ [some (.arr re.size ys)] := by
                    have : ∀ (l : List (Option Blk)) (id : Nat), killMem id (l ++ [some (Blk.arr re.size [])]) = killMem id l ++ [some (.arr re.size [])] := by
                      intro l id
                      induction l with
                      | nil => rfl
                      | cons x l ih => cases x <;> simp [killMem, ih]
                    rw [this, List.set_append_right _ _ (by rw [killMem_length]; exact Nat.le_refl _), killMem_length]
                    simp
                  have k3' := k3
                  rw [hk] at k3'
                  exact k3'
                · cases h
              · rename_i es id off len clip hp
                rw [hp] at hpr
                split at h
                · rename_i n hes hap
                  obtain rfl : es = re.size := Nat.eq_of_beq_eq_true hes
                  have virt : ∀ blk, blkAt s.mem id = some blk → φ[id]? = some none → ∃ es', blk = .arr es' [] := by
                    intro blk hb h0
                    rcases H.mem.ent id blk (blkAt_eq hb) with ⟨_, h2⟩ | ⟨b, o', h1, _⟩
                    · exact h2
                    · rw [h0] at h1; cases h1
                  split at h
                  · rename_i es' xs hb
                    split at h
                    · rename_i hes' hlen
                      obtain rfl : re.size = es' := Nat.eq_of_beq_eq_true hes'
                      simp only [Option.some.injEq, Prod.mk.injEq] at h
                      obtain ⟨rfl, rfl⟩ := h
                      have hlen' : len = xs.length := by unfold nateq llen at hlen; simpa using hlen
                      have hx := xcontent_rep (q := .own re.size id 0 len clip) (ys := xs) H (hL e re hre) (by
                        have hb1 : Nat.beq re.size re.size = true := by simp
                        simp only [xcontent, hb1, hb]
                        unfold lsubc; rw [hlen']; simp) hpr
                      obtain ⟨u, w2, φ2, k1, k2, k3, k4⟩ := run_xappend_own (ty := o.type) hL hn H hr hrt hre hpr hap hb hx hlen' (fun h0 => by
                        obtain ⟨es', h1⟩ := virt _ hb h0
                        injection h1) hy
                      unfold lapp
                      exact ⟨u, w2, φ2, .inl (ex _ _ k1), k2, k3, k4⟩
                    · cases h
                  · rename_i cells hb
                    split at h
                    · rename_i xs hch hlen
                      simp only [Option.some.injEq, Prod.mk.injEq] at h
                      obtain ⟨rfl, rfl⟩ := h
                      have hx := xcontent_rep (q := .own re.size id 0 len clip) (ys := xs) H (hL e re hre) (by
                        have hb1 : Nat.beq re.size re.size = true := by simp
                        simp only [xcontent, hb1, hb, Nat.zero_mul, List.drop_zero]
                        exact hch) hpr
                      have hlen' : len = xs.length := by
                        obtain ⟨base, cap, cs, h1, _⟩ := hx
                        rcases hpr with ⟨h2, _, a0, h3, _⟩ | ⟨b, o', cap', cs', T, fz, _, h3, _⟩
                        · rw [h1] at h3; simp only [Value.slice.injEq] at h3; omega
                        · rw [h1] at h3; simp only [Value.slice.injEq] at h3; omega
                      obtain ⟨u, w2, φ2, k1, k2, k3, k4⟩ := run_xappend_own (ty := o.type) hL hn H hr hrt hre hpr hap hb hx hlen' (fun h0 => by
                        obtain ⟨es', h1⟩ := virt _ hb h0
                        cases h1) hy
                      unfold lapp
                      exact ⟨u, w2, φ2, .inl (ex _ _ k1), k2, k3, k4⟩
                    · cases h
                  · cases h
                · cases h
              · cases h
            · cases h
          · cases h
        · cases h
      · cases h
    · cases h
end
end Go.Proofs.Ytblmoikhfmkfnaa
