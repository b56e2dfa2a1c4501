/- The abstract machine, 6: the last of the operations that leave memory alone, and all of them in one. -/
import Derived.Test.YtblmoikhfmkfnaaM5
namespace Go.Proofs.Ytblmoikhfmkfnaa
set_option linter.unusedSimpArgs false
set_option linter.unusedVariables false
open Go.RowKit Go

section
variable {P : Program} {L : List (Option Row)} (hL : LayOk P L) {w : World} {S : Nat → Prop} {φ : Phi} {s : XS} {a : Act}

theorem run_xun {op : UnOp} {q x : V} (h : xun op q = some x) {v : Value} (hv : V.rep w S φ q v) : ∃ u, V.rep w S φ x u ∧ ∀ w', (Op.unary op v).run P w' = .ok u w' := by
  unfold xun at h
  split at h
  · simp only [V.rep, D.rep] at hv; subst hv
    simp only [Option.some.injEq] at h; subst h
    exact ⟨_, rfl, fun w' => by simp [Op.unary, bnot_eq]⟩
  · simp only [V.rep, D.rep] at hv; subst hv
    simp only [Option.some.injEq] at h; subst h
    exact ⟨_, rfl, fun w' => by simp [Op.unary, Op.intArith, isub]⟩
  · cases h

theorem run_xconv {t1 t2 : Nat} {r1 r : Row} (h1 : RowOk P t1 r1) (hr : RowOk P t2 r) {q x : V} (h : xconv r q = some x) {v : Value} (hv : V.rep w S φ q v) : ∃ u, V.rep w S φ x u ∧ ∀ w', (convert t1 t2 v).run P w' = .ok u w' := by
  obtain ⟨d1, hd1, _⟩ := h1.und
  obtain ⟨d, hd, htd⟩ := hr.und
  unfold xconv at h
  split at h
  · rename_i hrt
    simp only [V.rep, D.rep] at hv; subst hv
    simp only [Option.some.injEq] at h; subst h
    rw [hrt] at htd; simp only [tdOk] at htd; subst htd
    exact ⟨_, rfl, fun w' => by simp [convert, run_underlying hd1, run_underlying hd, Conv.intToInt, iconv]⟩
  · rename_i hrt
    simp only [V.rep, D.rep] at hv; subst hv
    simp only [Option.some.injEq] at h; subst h
    rw [hrt] at htd; simp only [tdOk] at htd; subst htd
    exact ⟨_, rfl, fun w' => by cases d1 <;> simp [convert, run_underlying hd1, run_underlying hd]⟩
  · cases h

theorem extract_str (l : List UInt8) (i j : Nat) : (⟨l.toArray⟩ : ByteArray).extract i j = ⟨((l.drop i).take (j - i)).toArray⟩ := by
  apply ByteArray.ext
  apply Array.ext'
  simp [ByteArray.data_extract, Array.toList_extract, List.extract_eq_take_drop]

theorem run_xsliceStr (H : Sim w S φ s a) {t : Nat} {r : Row} (hr : RowOk P t r) (hrt : r.td = .str) {l : List UInt8} {lo hi : Option Operand} {x : V} (h : xsliceStr l (xbound s 0 lo) (xbound s (slen l) hi) = some x) :
    ∃ u, V.rep w S φ x u ∧ ∀ w', (Instr.sliceAt t (.string ⟨l.toArray⟩) (lo.map a.eval) (hi.map a.eval) none).run P w' = .ok u w' := by
  obtain ⟨d, hd, htd⟩ := hr.und
  rw [hrt] at htd; simp only [tdOk] at htd; subst htd
  have bound : ∀ (o : Option Operand) (df n : Int), xbound s df o = some n → (o = none ∧ n = df) ∨ ∃ k, o.map a.eval = some (.int k n) := by
    intro o df n ho
    cases o with
    | none => simp only [xbound, Option.some.injEq] at ho; exact .inl ⟨rfl, ho.symm⟩
    | some o =>
      simp only [xbound] at ho
      split at ho
      · rename_i k m hm
        simp only [Option.some.injEq] at ho
        subst ho
        have := ev_rep H o
        rw [hm] at this
        simp only [V.rep, D.rep] at this
        exact .inr ⟨k, by simp [this]⟩
      · cases ho
  unfold xsliceStr at h
  split at h
  · rename_i n m hn hm
    split at h
    · rename_i i j hb
      simp only [Option.some.injEq] at h
      subst h
      unfold sbnd slenN at hb
      split at hb
      · rename_i hle
        simp only [Option.some.injEq, Prod.mk.injEq] at hb
        obtain ⟨rfl, rfl⟩ := hb
        refine ⟨_, rfl, fun w' => ?_⟩
        rw [run_sliceAt_string w' t _ _ _ _ hd]
        have hsz : (⟨l.toArray⟩ : ByteArray).size = l.length := by show l.toArray.size = _; simp
        have hbounds : (Instr.sliceBounds false l.length l.length (lo.map a.eval) (hi.map a.eval) none).run P w' = .ok (n.toNat, m.toNat, l.length) w' := by
          have e1 : (m.toNat : Int) = m := Int.toNat_of_nonneg (by omega)
          rcases bound hi _ m hm with ⟨rfl, rfl⟩ | ⟨k, hk⟩
          · rcases bound lo _ n hn with ⟨rfl, rfl⟩ | ⟨k', hk'⟩
            · simp [Instr.sliceBounds, slen]
            · have := run_sliceBound (P := P) w' k' n l.length .sliceB (by omega) (by simpa [slen] using hle.2.1)
              simp [Instr.sliceBounds, hk', this, slen]
          · have h2 := run_sliceBound (P := P) w' k m l.length .sliceAlen (by omega) (by omega)
            rcases bound lo _ n hn with ⟨rfl, rfl⟩ | ⟨k', hk'⟩
            · simp [Instr.sliceBounds, hk, h2]
            · have := run_sliceBound (P := P) w' k' n m.toNat .sliceB (by omega) (by omega)
              simp [Instr.sliceBounds, hk, h2, hk', this]
        simp only [Instr.slice, Sem.run_bind, run_underlying hd, Result.andThen_ok, hsz]
        simp only [Option.isSome_none, Bool.false_eq_true, if_false, Sem.run_bind, Sem.run_pure, Result.andThen_ok, hbounds, extract_str, ssub]
      · cases hb
    · cases h
  · cases h

theorem field_of {d : TypeDesc} {td : TD} {fs : List (Nat × Nat)} (hrt : td = .struct fs) (htd : tdOk td d) {f fo ft : Nat} (hf : fs[f]? = some (fo, ft)) : ∃ (fields : Array Field) (fd : Field), d = .struct fields ∧ fields[f]? = some fd ∧ fd.offset = fo ∧ fd.type = ft := by
  rw [hrt] at htd
  obtain ⟨fields, rfl, hfm⟩ := htd
  rw [← hfm, List.getElem?_map] at hf
  cases hx : fields.toList[f]? with
  | none => simp [hx] at hf
  | some fd => simp only [hx, Option.map_some, Option.some.injEq, Prod.mk.injEq] at hf; exact ⟨fields, fd, rfl, by simpa using hx, hf.1, hf.2⟩

include hL in
theorem run_xfieldAddr {t : Nat} {r : Row} (hr : RowOk P t r) {q x : V} {f : Nat} (h : xfieldAddr L r q f = some x) {v : Value} (hv : V.rep w S φ q v) : ∃ u, V.rep w S φ x u ∧ ∀ w', (Instr.fieldAt t v f).run P w' = .ok u w' := by
  obtain ⟨d, hd, htd⟩ := hr.und
  unfold xfieldAddr at h
  split at h
  · rename_i fs hrt
    split at h
    · rename_i fo ft hf
      obtain ⟨fields, fd, rfl, hfd, rfl, rfl⟩ := field_of hrt htd hf
      split at h
      · rename_i fr hfr
        split at h
        · rename_i hble
          have hpos : 1 ≤ fr.size := Nat.le_of_ble_eq_true hble
          have go : ∀ (b o : Nat) (w' : World), (Instr.fieldAt t (.pointer (some ⟨b, o, none⟩)) f).run P w' = .ok (.pointer (some ⟨b, o + fd.offset, none⟩)) w' := by
            intro b o w'
            simp only [Instr.fieldAt, Sem.run_bind, run_underlying hd, Result.andThen_ok, hfd, Instr.sureAddr, Sem.run_pure, fieldPlace, (hL _ _ hfr).run_size, addr_add]
            rw [if_neg (by omega)]
            simp
          split at h
          · simp only [Option.some.injEq] at h; subst h
            obtain ⟨b, o, h1, rfl⟩ := hv
            exact ⟨_, ⟨b, o, h1, rfl⟩, fun w' => by rw [go, Nat.add_assoc]⟩
          · simp only [Option.some.injEq] at h; subst h
            obtain ⟨b, o, h1, rfl⟩ := hv
            exact ⟨_, ⟨b, o, h1, rfl⟩, fun w' => by rw [go, Nat.add_assoc]⟩
          · simp only [Option.some.injEq] at h; subst h
            obtain ⟨b, o, rfl, h1⟩ := hv
            exact ⟨_, ⟨b, o, rfl, h1⟩, fun w' => by rw [go, Nat.add_assoc]⟩
          · cases h
        · cases h
      · cases h
    · cases h
  · cases h

include hL in
theorem run_xfield {t : Nat} {r : Row} (hr : RowOk P t r) {q x : V} {f : Nat} (h : xfield L r q f = some x) {v : Value} (hv : V.rep w S φ q v) : ∃ u, V.rep w S φ x u ∧ ∀ w', (Instr.field t v f).run P w' = .ok u w' := by
  obtain ⟨d, hd, htd⟩ := hr.und
  unfold xfield at h
  split at h
  · rename_i fs cs hrt
    split at h
    · rename_i fo ft hf
      obtain ⟨fields, fd, rfl, hfd, rfl, rfl⟩ := field_of hrt htd hf
      split at h
      · rename_i fr hfr
        split at h
        · rename_i y hy
          simp only [Option.some.injEq] at h; subst h
          have hfro := hL _ _ hfr
          obtain ⟨u, h1, h2, h3⟩ := dpart_rep hfro.nagg hy hv
          obtain ⟨xs, rfl, _⟩ := hv
          refine ⟨u, h1, fun w' => ?_⟩
          simp only [Instr.field, Sem.run_bind, run_underlying hd, Result.andThen_ok, hfd, asAgg, Sem.run_pure]
          exact run_part hfro w' (fun hg => by simpa [Value.cells] using (h2 hg).2) (fun hg => by simpa [Value.cells] using h3 hg)
        · cases h
      · cases h
    · cases h
  · cases h

theorem idx_eq {i : Int} {n k : Nat} (h : idx i n = some k) : 0 ≤ i ∧ i < n ∧ i.toNat = k ∧ k < n := by
  rw [idx_iff] at h
  split at h
  · rename_i hh
    simp only [Option.some.injEq] at h
    exact ⟨hh.1, hh.2, h, by omega⟩
  · cases h

include hL in
theorem run_xindexAddr (H : Sim w S φ s a) {t : Nat} {r : Row} (hr : RowOk P t r) {q x : V} {k : IntKind} {i : Int} (h : xindexAddr L s r q i = some x) {v : Value} (hv : V.rep w S φ q v) :
    ∃ u, V.rep w S φ x u ∧ ∀ w', (Instr.indexAt t v (.int k i)).run P w' = .ok u w' := by
  obtain ⟨d, hd, htd⟩ := hr.und
  have goSl : ∀ {e : Nat} {re : Row} (b o len cap n : Nat), d = .slice e → (rowAt L e) = some re → 0 ≤ i → i < len → i.toNat = n → ∀ w', (Instr.indexAt t (.slice (some ⟨b, o, none⟩) len cap) (.int k i)).run P w' = .ok (.pointer (some ⟨b, o + n * re.size, none⟩)) w' := by
    intro e re b o len cap n hde hre h0 h1 h2 w'
    subst hde h2
    simp [Instr.indexAt, asIntOf, Sem.run_bind, run_underlying hd, h0, h1, (hL _ _ hre).run_size, addr_add]
  unfold xindexAddr at h
  split at h
  · rename_i e es c xs hrt
    rw [hrt] at htd; simp only [tdOk] at htd
    split at h
    · rename_i n re hn hre
      split at h
      · rename_i hes
        obtain rfl : re.size = es := Nat.eq_of_beq_eq_true hes
        simp only [Option.some.injEq] at h; subst h
        obtain ⟨h0, h1, h2, h3⟩ := idx_eq hn
        unfold llen at h1 h3
        rcases hv with ⟨rfl, _⟩ | ⟨b, o, cap, rfl, hl, _, _, hS, hb, hE⟩
        · simp at h3
        · exact ⟨_, ⟨b, o, rfl, hS, hb, hE⟩, fun w' => by rw [goSl b o xs.length cap n htd hre h0 h1 h2, Nat.add_zero]⟩
      · cases h
    · cases h
  · rename_i e es id off len c hrt
    rw [hrt] at htd; simp only [tdOk] at htd
    split at h
    · rename_i n re hn hre
      obtain ⟨h0, h1, h2, h3⟩ := idx_eq hn
      rcases hv with ⟨rfl, _⟩ | ⟨b, o, cap, cs, T, fz, hphi, rfl, _⟩
      · omega
      · split at h
        · rename_i hes _
          obtain rfl : re.size = es := Nat.eq_of_beq_eq_true hes
          simp only [Option.some.injEq] at h; subst h
          exact ⟨_, ⟨b, o, hphi, rfl⟩, fun w' => by rw [goSl b _ len cap n htd hre h0 h1 h2, Nat.add_mul, Nat.add_assoc]⟩
        · rename_i hes _
          obtain rfl : re.size = es := Nat.eq_of_beq_eq_true hes
          simp only [Option.some.injEq] at h; subst h
          exact ⟨_, ⟨b, o, hphi, rfl⟩, fun w' => by rw [goSl b _ len cap n htd hre h0 h1 h2]; simp only [nadd_def, Nat.add_mul, Nat.add_zero, Nat.add_assoc]⟩
        · cases h
    · cases h
  · rename_i m e id off hrt
    rw [hrt] at htd; simp only [tdOk] at htd; subst htd
    split at h
    · rename_i n re hn hre
      obtain ⟨h0, h1, h2, h3⟩ := idx_eq hn
      simp only [Option.some.injEq] at h; subst h
      obtain ⟨b, o, hphi, rfl⟩ := hv
      refine ⟨_, ⟨b, o, hphi, rfl⟩, fun w' => ?_⟩
      subst h2
      simp [Instr.indexAt, asIntOf, Sem.run_bind, run_underlying hd, h0, h1, (hL _ _ hre).run_size, addr_add, Instr.sureAddr, Nat.add_assoc]
    · cases h
  · cases h

include hL in
theorem run_xindex {t : Nat} {r : Row} (hr : RowOk P t r) {q x : V} {k : IntKind} {i : Int} (h : xindex L r q i = some x) {v : Value} (hv : V.rep w S φ q v) :
    ∃ u, V.rep w S φ x u ∧ ∀ w', (Instr.index t v (.int k i)).run P w' = .ok u w' := by
  obtain ⟨d, hd, htd⟩ := hr.und
  unfold xindex at h
  split at h
  · rename_i m e cs hrt
    rw [hrt] at htd; simp only [tdOk] at htd; subst htd
    split at h
    · rename_i n re hn hre
      obtain ⟨h0, h1, h2, h3⟩ := idx_eq hn
      split at h
      · rename_i y hy
        simp only [Option.some.injEq] at h; subst h
        have hro := hL _ _ hre
        obtain ⟨u, h4, h5, h6⟩ := dpart_rep hro.nagg hy hv
        obtain ⟨xs, rfl, _⟩ := hv
        refine ⟨u, h4, fun w' => ?_⟩
        subst h2
        simp only [Instr.index, asIntOf, Sem.run_bind, Sem.run_pure, Result.andThen_ok, run_underlying hd, h0, h1, and_self, if_true, hro.run_size]
        exact run_part hro w' (fun hg => by simpa [Value.cells] using (h5 hg).2) (fun hg => by simpa [Value.cells] using h6 hg)
      · cases h
    · cases h
  · rename_i l hrt
    rw [hrt] at htd; simp only [tdOk] at htd; subst htd
    split at h
    · rename_i n hn
      simp only [Option.some.injEq] at h; subst h
      simp only [V.rep, D.rep] at hv; subst hv
      unfold sget at hn
      split at hn
      · rename_i h0
        cases hg : l[i.toNat]? with
        | none => simp [hg] at hn
        | some b =>
          simp only [hg, Option.map_some, Option.some.injEq] at hn; subst hn
          refine ⟨_, rfl, fun w' => ?_⟩
          have hb : (⟨l.toArray⟩ : ByteArray)[i.toNat]? = some b := by
            have hlt := (List.getElem?_eq_some_iff.1 hg).1
            have hlt' : i.toNat < (⟨l.toArray⟩ : ByteArray).size := by show i.toNat < l.toArray.size; simpa using hlt
            rw [getElem?_pos (⟨l.toArray⟩ : ByteArray) i.toNat hlt']
            congr 1
            exact (List.getElem?_eq_some_iff.1 hg).2
          simp only [Instr.index, asIntOf, Sem.run_bind, Sem.run_pure, Result.andThen_ok, run_underlying hd, h0, if_true, hb]
      · cases hn
    · cases h
  · cases h

theorem run_xlen {t ty : Nat} {r : Row} (hr : RowOk P t r) {q x : V} (h : xlen r q = some x) {v : Value} (hv : V.rep w S φ q v) : ∃ u, V.rep w S φ x u ∧ ∀ w', (Builtin.len_ #[t] ty #[v]).run P w' = .ok u w' := by
  obtain ⟨d, hd, htd⟩ := hr.und
  unfold xlen at h
  split at h
  · rename_i e es c xs hrt
    rw [hrt] at htd; simp only [tdOk] at htd; subst htd
    simp only [Option.some.injEq] at h; subst h
    rcases hv with ⟨rfl, _, rfl⟩ | ⟨b, o, cap, rfl, _⟩
    · exact ⟨_, rfl, fun w' => by simp [Builtin.len_, run_underlying hd, goInt, nint, llen]⟩
    · exact ⟨_, rfl, fun w' => by simp [Builtin.len_, run_underlying hd, goInt, nint, llen]⟩
  · rename_i e es id off len c hrt
    rw [hrt] at htd; simp only [tdOk] at htd; subst htd
    simp only [Option.some.injEq] at h; subst h
    rcases hv with ⟨rfl, rfl, a, rfl, _⟩ | ⟨b, o, cap, cs, T, fz, _, rfl, _⟩
    · exact ⟨_, rfl, fun w' => by simp [Builtin.len_, run_underlying hd, goInt, nint]⟩
    · exact ⟨_, rfl, fun w' => by simp [Builtin.len_, run_underlying hd, goInt, nint]⟩
  · rename_i l hrt
    rw [hrt] at htd; simp only [tdOk] at htd; subst htd
    simp only [Option.some.injEq] at h; subst h
    simp only [V.rep, D.rep] at hv; subst hv
    exact ⟨_, rfl, fun w' => by simp only [Builtin.len_, Sem.run_bind, run_underlying hd, Result.andThen_ok]; simp [Builtin.len_, run_underlying hd, goInt, slen]; rfl⟩
  · cases h
end
end Go.Proofs.Ytblmoikhfmkfnaa
