/- The abstract machine, 5: the other operations that leave memory alone. -/
import Derived.Test.YtblmoikhfmkfnaaM4
import Derived.Laws.StructEq
namespace Go.Proofs.Ytblmoikhfmkfnaa
set_option linter.unusedSimpArgs false
set_option linter.unusedVariables false
open Go.RowKit Go

section
variable {P : Program} {L : List (Option Row)} (hL : LayOk P L) {w : World} {S : Nat → Prop} {φ : Phi} {s : XS} {a : Act}

theorem run_part {t : Nat} {r : Row} (hr : RowOk P t r) (w : World) {cs : Array Value} {off : Nat} {u : Value} (h1 : r.agg = true → u = .agg ((cs.toList.drop off).take r.size).toArray) (h2 : r.agg = false → cs[off]? = some u) :
    (part t cs off).run P w = .ok u w := by
  unfold part
  rw [Sem.run_bind, hr.run_isAgg]
  simp only [Result.andThen_ok]
  cases hg : r.agg with
  | true =>
    rw [h1 hg]
    simp only [if_true, Sem.run_bind, hr.run_size, Result.andThen_ok, Sem.run_pure]
    congr 2
    apply Array.ext'
    simp [Array.toList_extract, List.extract_eq_take_drop]
  | false =>
    simp [h2 hg]

theorem str_beq (x y : List UInt8) : ((⟨x.toArray⟩ : ByteArray).toList == (⟨y.toArray⟩ : ByteArray).toList) = (x == y) := by
  rw [ByteArray.toList_eq, ByteArray.toList_eq]

theorem run_xint {op : BinOp} {k : IntKind} {m n : Int} {x : V} (h : xint op k m n = some x) (w : World) (t : Nat) (ox oy : Operand) :
    ∃ u, V.rep w S φ x u ∧ ∀ w', ((do eqGuard op t ox oy (.int k m) (.int k n); binOp op t (.int k m) (.int k n) : Sem Value)).run P w' = .ok u w' := by
  have hg : ∀ w' : World, (eqGuard op t ox oy (.int k m) (.int k n)).run P w' = .ok () w' := fun w' => by cases op <;> simp [eqGuard]
  cases op <;> simp only [xint] at h
  all_goals first
    | (cases h; done)
    | (split at h
       · rename_i hz
         simp only [Option.some.injEq] at h
         subst h
         unfold nz at hz
         refine ⟨_, rfl, fun w' => ?_⟩
         have hz' : n ≠ 0 := by simpa using hz
         simp [Sem.run_bind, hg, binOp, Op.intDiv, hz', iquo, irem]
       · cases h)
    | (simp only [Option.some.injEq] at h
       subst h
       refine ⟨_, rfl, fun w' => ?_⟩
       simp [Sem.run_bind, hg, binOp, Op.intArith, Op.intCmp, iadd, isub, imul, ieq, bnot_eq, ilt, ile, bne])

theorem run_xstr {op : BinOp} {m n : List UInt8} {x : V} (h : xstr op m n = some x) (w : World) (t : Nat) (ox oy : Operand) :
    ∃ u, V.rep w S φ x u ∧ ∀ w', ((do eqGuard op t ox oy (.string ⟨m.toArray⟩) (.string ⟨n.toArray⟩); binOp op t (.string ⟨m.toArray⟩) (.string ⟨n.toArray⟩) : Sem Value)).run P w' = .ok u w' := by
  have hg : ∀ w' : World, (eqGuard op t ox oy (.string ⟨m.toArray⟩) (.string ⟨n.toArray⟩)).run P w' = .ok () w' := fun w' => by cases op <;> simp [eqGuard]
  cases op <;> simp only [xstr] at h
  all_goals first
    | (cases h; done)
    | (split at h
       · rename_i c hc
         simp only [Option.some.injEq] at h
         subst h
         unfold scat at hc
         split at hc
         · rename_i hlen
           simp only [Option.some.injEq] at hc
           subst hc
           refine ⟨_, rfl, fun w' => ?_⟩
           have h1 : ¬ (((⟨m.toArray⟩ : ByteArray).size + (⟨n.toArray⟩ : ByteArray).size : Nat) : Int) > IntKind.i64.max := by
             show ¬ ((m.toArray.size + n.toArray.size : Nat) : Int) > 9223372036854775807
             simp; omega
           have h2 : (⟨m.toArray⟩ : ByteArray) ++ ⟨n.toArray⟩ = ⟨(m ++ n).toArray⟩ := by
             apply ByteArray.ext; simp
           simp only [Sem.run_bind, hg, Result.andThen_ok, binOp, Op.stringOp, if_neg h1, h2, Sem.run_pure]
         · cases hc
       · cases h)
    | (simp only [Option.some.injEq] at h
       subst h
       refine ⟨_, rfl, fun w' => ?_⟩
       simp only [Sem.run_bind, hg, Result.andThen_ok, binOp, Op.stringOp, str_beq, seq, bnot_eq, Sem.run_pure])

/-- what equality by type needs of a value: its cells -/
def ofCells (w : World) (S : Nat → Prop) (r : Row) (as : List D) (x : Value) : Prop :=
  (r.agg = true → ∃ xs : List Value, x = .agg xs.toArray ∧ D.repL w S as xs) ∧ (r.agg = false → ∃ d, as = [d] ∧ D.rep w S d x)

include hL in
theorem ofCells_part {t : Nat} {r : Row} (hr : (rowAt L t) = some r) {as : List D} {xs : List Value} (hx : D.repL w S as xs) {o : Nat} (hle : o + r.size ≤ as.length) :
    ∃ u, ofCells w S r ((as.drop o).take r.size) u ∧ ∀ w', (part t xs.toArray o).run P w' = .ok u w' := by
  have hro := hL t r hr
  have hlen := D.repL_length hx
  cases hg : r.agg with
  | true =>
    refine ⟨.agg ((xs.drop o).take r.size).toArray, ⟨fun _ => ⟨_, rfl, D.repL_take _ (D.repL_drop o hx)⟩, fun h => by rw [hg] at h; cases h⟩, fun w' => ?_⟩
    exact run_part hro w' (fun _ => rfl) (fun h => by rw [hg] at h; cases h)
  | false =>
    have h1 := hro.nagg hg
    have hlt : o < as.length := by omega
    obtain ⟨u, hu, h2, _⟩ := ((D.repL_iff _ _).1 hx).2 o _ (List.getElem?_eq_getElem hlt)
    refine ⟨u, ⟨fun h => by (rw [hg] at h; cases h), fun _ => ⟨_, ?_, h2⟩⟩, fun w' => ?_⟩
    · rw [h1, List.drop_eq_getElem_cons hlt]; rfl
    · exact run_part hro w' (fun h => by rw [hg] at h; cases h) (fun _ => by simpa using hu)

include hL in
theorem run_eqT : ∀ (n d t : Nat) (r : Row) (as bs : List D) (b : Bool) (x y : Value), n ≤ d → (rowAt L t) = some r → eqT L n t as bs = some b → ofCells w S r as x → ofCells w S r bs y →
    ∀ w', (Op.equalIn d t x y).run P w' = .ok b w' := by
  intro n
  induction n with
  | zero => intro d t r as bs b x y _ _ h; simp [eqT] at h
  | succ n ih =>
    intro d t r as bs b x y hd hr h hx hy w'
    obtain ⟨d, rfl⟩ : ∃ d', d = d' + 1 := ⟨d - 1, by omega⟩
    have hro := hL t r hr
    simp only [eqT, hr] at h
    split at h
    · rename_i fs hfs
      split at h
      · rename_i heq hlen
        obtain ⟨hs1, hs2, hs3⟩ := hro.eqs heq
        obtain ⟨dd, hu, htd⟩ := hro.und
        rw [hfs] at htd
        obtain ⟨fields, rfl, hfm⟩ := htd
        have hg : r.agg = true := by rw [hro.agg, hfs]; rfl
        obtain ⟨xs, rfl, hxs⟩ := hx.1 hg
        obtain ⟨ys, rfl, hys⟩ := hy.1 hg
        have hfo : P.fieldsOf t = fields := by simp [Program.fieldsOf, hu]
        rw [run_equalIn_struct w' d t _ _ (by rw [hfo]; exact hu) hs1, hfo]
        have hnames := hs3 fields hu
        have hlen' : as.length = bs.length := Nat.eq_of_beq_eq_true hlen
        clear hfo hs3 hu
        generalize fields.toList = fl at *
        subst hfm
        clear hfs
        have main : ∀ (fl : List Field) (c : Bool), (∀ f, f ∈ fl → f.name ≠ "_") → eqFs L (eqT L n) as bs (fl.map fun f => (f.offset, f.type)) = some c → ∀ w', (Op.eqFields d xs.toArray ys.toArray fl).run P w' = .ok c w' := by
          intro fl
          induction fl with
          | nil => intro c _ hc w'; simp only [List.map_nil, eqFs, Option.some.injEq] at hc; subst hc; rfl
          | cons f fl ihf =>
            intro c hn hc w'
            simp only [List.map_cons, eqFs] at hc
            split at hc
            · rename_i fr hfr
              split at hc
              · rename_i a1 b1 hble ha hb
                simp only [Option.some.injEq] at hc
                subst hc
                have hle : f.offset + fr.size ≤ as.length := Nat.le_of_ble_eq_true hble
                obtain ⟨u, hu1, hu2⟩ := ofCells_part hL hfr hxs hle
                obtain ⟨v, hv1, hv2⟩ := ofCells_part hL hfr (o := f.offset) hys (by omega)
                have he := ih d f.type fr _ _ _ u v (by omega) hfr ha hu1 hv1
                have hf := ihf b1 (fun g hg => hn g (by simp [hg])) hb
                unfold Op.eqFields
                rw [if_pos (hn f (by simp))]
                simp only [Sem.run_bind, hu2, hv2, he, Result.andThen_ok]
                cases a1
                · simp [band]
                · simp [band, hf]
              · cases hc
            · cases hc
        exact main fl b hnames h w'
      · cases h
    · rename_i hnot
      split at h
      case h_2 => cases h
      rename_i a1 b1
      have hg : r.agg = false := by
        cases hg : r.agg with
        | false => rfl
        | true =>
          rw [hro.agg] at hg
          cases hrt : r.td <;> rw [hrt] at hg h <;> first | (cases hg; done) | skip
          all_goals (cases a1 <;> cases b1 <;> simp [deq] at h)
      obtain ⟨da, hda, hxa⟩ := hx.2 hg
      obtain ⟨db, hdb, hyb⟩ := hy.2 hg
      simp only [List.cons.injEq, and_true] at hda hdb
      subst hda hdb
      obtain ⟨dd, hu, htd⟩ := hro.und
      cases hrt : r.td <;> rw [hrt] at h htd <;> cases a1 <;> simp only [deq] at h <;> first | (cases h; done) | skip
      all_goals (cases b1 <;> simp only [deq] at h <;> first | (cases h; done) | skip)
      all_goals (simp only [tdOk] at htd; subst htd; simp only [D.rep] at hxa hyb; subst hxa hyb)
      · simp only [Option.some.injEq] at h
        subst h
        rw [run_equalIn_bool' w' d t _ _ hu]; simp [beq]
      · split at h
        · rename_i hk
          simp only [decide_eq_true_eq] at hk
          subst hk
          simp only [Option.some.injEq] at h
          subst h
          rw [run_equalIn_int w' d t _ _ _ _ hu]; simp [ieq]
        · cases h
      · simp only [Option.some.injEq] at h
        subst h
        rw [run_equalIn_string w' d t _ _ hu, str_beq]; simp [seq]

include hL in
theorem run_xbin {op : BinOp} {t : Nat} {p q x : V} (h : xbin L op t p q = some x) {pv qv : Value} (hp : V.rep w S φ p pv) (hq : V.rep w S φ q qv) (ox oy : Operand) :
    ∃ u, V.rep w S φ x u ∧ ∀ w', ((do eqGuard op t ox oy pv qv; binOp op t pv qv : Sem Value)).run P w' = .ok u w' := by
  unfold xbin at h
  split at h
  · rename_i k m k' n
    simp only [V.rep, D.rep] at hp hq
    subst hp hq
    split at h
    · rename_i hk
      simp only [decide_eq_true_eq] at hk
      subst hk
      exact run_xint h w t ox oy
    · cases h
  · rename_i m n
    simp only [V.rep, D.rep] at hp hq
    subst hp hq
    split at h
    · rename_i r hr
      obtain ⟨dd, hu, htd⟩ := (hL t r hr).und
      have hg : ∀ w' : World, (eqGuard op t ox oy (.bool m) (.bool n)).run P w' = .ok () w' := fun w' => by cases op <;> simp [eqGuard]
      split at h
      · rename_i hrt
        rw [hrt] at htd
        simp only [tdOk] at htd
        subst htd
        simp only [Option.some.injEq] at h
        subst h
        exact ⟨_, rfl, fun w' => by simp only [Sem.run_bind, hg, Result.andThen_ok, run_eql_bool w' t m n hu, beq]⟩
      · rename_i hrt
        rw [hrt] at htd
        simp only [tdOk] at htd
        subst htd
        simp only [Option.some.injEq] at h
        subst h
        exact ⟨_, rfl, fun w' => by simp only [Sem.run_bind, hg, Result.andThen_ok, run_neq_bool w' t m n hu, beq, bnot_eq]⟩
      · cases h
    · cases h
  · simp only [V.rep, D.rep] at hp hq
    subst hp hq
    exact run_xstr h w t ox oy
  · rename_i as bs
    obtain ⟨xs, rfl, hxs⟩ := hp
    obtain ⟨ys, rfl, hys⟩ := hq
    split at h
    · rename_i r hr
      have key : ∀ b, r.agg = true → r.eq = true → eqT L 6 t as bs = some b → (∀ w', (Op.equalIn 10000 t (.agg xs.toArray) (.agg ys.toArray)).run P w' = .ok b w') ∧ ∀ w', (eqGuard op t ox oy (.agg xs.toArray) (.agg ys.toArray)).run P w' = .ok () w' := by
        intro b hg he hb
        refine ⟨run_eqT hL 6 10000 t r as bs b _ _ (by decide) hr hb ⟨fun _ => ⟨xs, rfl, hxs⟩, fun h => by rw [hg] at h; cases h⟩ ⟨fun _ => ⟨ys, rfl, hys⟩, fun h => by rw [hg] at h; cases h⟩, fun w' => ?_⟩
        exact run_eqGuard_agg w' op t ox oy _ _ ((hL t r hr).eqs he).2.1
      split at h
      · rename_i b hg he hb
        obtain ⟨k1, k2⟩ := key b hg he hb
        simp only [Option.some.injEq] at h
        subst h
        exact ⟨_, rfl, fun w' => by simp only [Sem.run_bind, k2, Result.andThen_ok, run_eql_struct, k1]⟩
      · rename_i b hg he hb
        obtain ⟨k1, k2⟩ := key b hg he hb
        simp only [Option.some.injEq] at h
        subst h
        exact ⟨_, rfl, fun w' => by simp only [Sem.run_bind, k2, Result.andThen_ok, run_neq_struct, k1, bnot_eq]⟩
      · cases h
    · cases h
  · cases h
end
end Go.Proofs.Ytblmoikhfmkfnaa
