/- A region whose order is open, with stores in it: what may be taken first, is; what is left stands in one order. -/
import Derived.Test.YtblmoikhfmkfnaaBase
import Derived.Test.YtblmoikhfmkfnaaM2
import Derived.StillTail
import Derived.Deep.RegionHeld3
namespace Go.Proofs.Ytblmoikhfmkfnaa
set_option linter.unusedSimpArgs false
set_option linter.unusedVariables false
open Go.RowKit Go

/-- the text's order -/
def upto : Nat → List Oper → List Nat
  | _, [] => []
  | i, _ :: r => i :: upto (i + 1) r
section
variable {P : Program} {md : Region.Mode} {ops : Array Oper} {Q : Exit → Act → World → Prop}
def mixOp (P : Program) (ops : Array Oper) (Q : Exit → Act → World → Prop) (i : Nat) (K : Act → World → Prop) (a : Act) (w : World) : Prop := match ops[i]? with
  | none => K a w
  | some o => if opClass o.op = 2 then wpOp P ops Q i K a w else stOp P ops w i (fun a' => K a' w) a
def wpMix (P : Program) (md : Region.Mode) (ops : Array Oper) (Q : Exit → Act → World → Prop) : Nat → Array Bool → Act → World → Prop
  | 0, listed, a, w => Region.ready md ops listed = [] ∧ Q .normal a w
  | f + 1, listed, a, w => (Region.ready md ops listed = [] → Q .normal a w) ∧ ∀ i ∈ Region.ready md ops listed, mixOp P ops Q i (wpMix P md ops Q f (listed.setIfInBounds i true)) a w
theorem wpOp_of_mixOp {i : Nat} {K K' : Act → World → Prop} {a : Act} {w : World} (h : ∀ a w, K a w → K' a w) (hh : mixOp P ops Q i K a w) : wpOp P ops Q i K' a w := by
  unfold mixOp at hh
  split at hh
  · rename_i ho; unfold wpOp; simp only [ho]; exact h _ _ hh
  · split at hh
    · exact wpOp_mono h hh
    · exact wpOp_of_stOp (fun a' h' => h _ _ h') hh
theorem mixOp_mono {i : Nat} {K K' : Act → World → Prop} {a : Act} {w : World} (h : ∀ a w, K a w → K' a w) (hh : mixOp P ops Q i K a w) : mixOp P ops Q i K' a w := by
  unfold mixOp at *
  split
  · rename_i ho; simp only [ho] at hh; exact h _ _ hh
  · rename_i o ho
    simp only [ho] at hh
    split
    · rename_i hc; rw [if_pos hc] at hh; exact wpOp_mono h hh
    · rename_i hc; rw [if_neg hc] at hh; exact stOp_mono (fun a' h' => h _ _ h') hh
theorem wpAny_of_mix : ∀ (f : Nat) (listed : Array Bool) (a : Act) (w : World), wpMix P md ops Q f listed a w → wpAny P md ops Q f listed a w
  | 0, _, _, _, h => h
  | f + 1, _, _, _, h => ⟨h.1, fun i hi => wpOp_of_mixOp (fun a' w' h' => wpAny_of_mix f _ a' w' h') (h.2 i hi)⟩
theorem mixOp_put {j : Nat} {oi oj : Oper} {v : Value} (hj : ops[j]? = some oj) (hap : oi.apart ops oj = true)
    (hsi : ∀ cs b, oi.op ≠ .select cs b) (hsj : ∀ cs b, oj.op ≠ .select cs b)
    (hQ : ∀ c a w, Q (.panic c) (a.put oi.dst v) w → Q (.panic c) a w) {K : Act → World → Prop} {a : Act} {w : World}
    (hy : Yields P ops oi v a) (h : mixOp P ops Q j K (a.put oi.dst v) w) :
    mixOp P ops Q j (fun a' w' => Yields P ops oi v a' ∧ K (a'.put oi.dst v) w') a w := by
  unfold mixOp at h ⊢
  simp only [hj] at h ⊢
  split
  · rename_i hc
    rw [if_pos hc] at h
    exact wpOp_put hj hap hsi hsj hQ hy h
  · rename_i hc
    rw [if_neg hc] at h
    obtain ⟨h1, h2, h3⟩ := Oper.apart_spec hap
    have keep : ∀ (a : Act), Yields P ops oi v a → ∀ u, Yields P ops oi v (a.put oj.dst u) := fun a hy u =>
      hy.of_same (execOp_put oi hsi a oj.dst u h3) (wanted_put oi a oj.dst u h3)
    obtain ⟨u, hu, hK⟩ := yieldsAt_of_stOp hj h
    refine YieldsAt.stOp hj (hu.of_same (execOp_put oj hsj a oi.dst v h1).symm (wanted_put oj a oi.dst v h1).symm) ⟨keep a hy u, ?_⟩
    rw [← Act.put_comm a v u h2]; exact hK
theorem mix_first {i : Nat} {oi : Oper} {v : Value} (hi : ops[i]? = some oi) (hsel : ∀ (j : Nat) (o : Oper) cs b, ops[j]? = some o → o.op ≠ .select cs b)
    (hQ : ∀ c a w, Q (.panic c) (a.put oi.dst v) w → Q (.panic c) a w) (hci : opClass oi.op ≠ 2) :
    ∀ (fuel : Nat) (listed : Array Bool) (a : Act) (w : World),
      (∀ j oj, ops[j]? = some oj → j ≠ i → listed.getD j true = false → (∀ e ∈ oj.after, Region.binds md e = true → e.on ≠ i) → oi.apart ops oj = true) →
      i ∈ Region.ready md ops listed → Yields P ops oi v a →
      wpMix P md ops Q fuel (listed.setIfInBounds i true) (a.put oi.dst v) w → wpMix P md ops Q (fuel + 1) listed a w := by
  have here : ∀ {K : Act → World → Prop} {a : Act} {w : World}, Yields P ops oi v a → K (a.put oi.dst v) w → mixOp P ops Q i K a w := fun {K a w} hy h => by
    unfold mixOp
    simp only [hi]
    rw [if_neg hci]
    refine YieldsAt.stOp hi ?_ h
    rcases hy with ⟨h1, h2⟩ | h1
    · exact .inl ⟨h1, .inl (h2 w)⟩
    · exact .inr h1
  intro fuel
  induction fuel with
  | zero =>
    intro listed a w _ hr hy H
    refine ⟨fun h => (by rw [h] at hr; cases hr), fun j hj => ?_⟩
    by_cases hji : j = i
    · subst hji; exact here hy H
    · have := ready_mono hj hji
      rw [H.1] at this
      cases this
  | succ fuel ih =>
    intro listed a w hfree hr hy H
    refine ⟨fun h => (by rw [h] at hr; cases hr), fun j hj => ?_⟩
    by_cases hji : j = i
    · subst hji; exact here hy H
    · have h1 := H.2 j (ready_mono hj hji)
      obtain ⟨hjun, oj, hoj, hall⟩ := mem_ready.1 hj
      have hnot : ∀ e ∈ oj.after, Region.binds md e = true → e.on ≠ i := fun e he hb heq => by
        have h1 := hall e he hb
        rw [heq, getD_both (mem_ready.1 hr).1] at h1
        cases h1
      have h2 := mixOp_put hoj (hfree j oj hoj hji hjun hnot) (fun cs b => hsel i oi cs b hi) (fun cs b => hsel j oj cs b hoj) hQ hy h1
      have hfree' : ∀ k ok, ops[k]? = some ok → k ≠ i → (listed.setIfInBounds j true).getD k true = false →
          (∀ e ∈ ok.after, Region.binds md e = true → e.on ≠ i) → oi.apart ops ok = true := fun k ok hk hki hun hno => by
        refine hfree k ok hk hki ?_ hno
        by_cases hjk : j = k
        · subst hjk; exact hjun
        · rw [getD_set_ne true hjk] at hun; exact hun
      refine mixOp_mono (fun a' w' h3 => ih (listed.setIfInBounds j true) a' w' hfree' (ready_mono hr (Ne.symm hji)) h3.1 ?_) h2
      rw [Array.setIfInBounds_comm _ _ hji]
      exact h3.2
theorem mix_still {i : Nat} {oi : Oper} {v : Value} {w : World} (hi : ops[i]? = some oi) (hsel : ∀ (j : Nat) (o : Oper) cs b, ops[j]? = some o → o.op ≠ .select cs b) (hci : opClass oi.op ≠ 2) :
    ∀ (fuel : Nat) (listed : Array Bool) (a : Act),
      (∀ j oj, ops[j]? = some oj → j ≠ i → listed.getD j true = false → (∀ e ∈ oj.after, Region.binds md e = true → e.on ≠ i) → oi.apart ops oj = true ∧ opClass oj.op ≠ 2) →
      i ∈ Region.ready md ops listed → YieldsAt P ops w oi v a →
      wpMix P md ops Q fuel (listed.setIfInBounds i true) (a.put oi.dst v) w → wpMix P md ops Q (fuel + 1) listed a w := by
  have here : ∀ {K : Act → World → Prop} {a : Act}, YieldsAt P ops w oi v a → K (a.put oi.dst v) w → mixOp P ops Q i K a w := fun {K a} hy h => by
    unfold mixOp
    simp only [hi]
    rw [if_neg hci]
    exact YieldsAt.stOp hi hy h
  intro fuel
  induction fuel with
  | zero =>
    intro listed a _ hr hy H
    refine ⟨fun h => (by rw [h] at hr; cases hr), fun j hj => ?_⟩
    by_cases hji : j = i
    · subst hji; exact here hy H
    · have := ready_mono hj hji
      rw [H.1] at this
      cases this
  | succ fuel ih =>
    intro listed a hfree hr hy H
    refine ⟨fun h => (by rw [h] at hr; cases hr), fun j hj => ?_⟩
    by_cases hji : j = i
    · subst hji; exact here hy H
    · have h1 := H.2 j (ready_mono hj hji)
      obtain ⟨hjun, oj, hoj, hall⟩ := mem_ready.1 hj
      have hnot : ∀ e ∈ oj.after, Region.binds md e = true → e.on ≠ i := fun e he hb heq => by
        have h1 := hall e he hb
        rw [heq, getD_both (mem_ready.1 hr).1] at h1
        cases h1
      obtain ⟨hap, hcj⟩ := hfree j oj hoj hji hjun hnot
      have hfree' : ∀ k ok, ops[k]? = some ok → k ≠ i → (listed.setIfInBounds j true).getD k true = false →
          (∀ e ∈ ok.after, Region.binds md e = true → e.on ≠ i) → oi.apart ops ok = true ∧ opClass ok.op ≠ 2 := fun k ok hk hki hun hno => by
        refine hfree k ok hk hki ?_ hno
        by_cases hjk : j = k
        · subst hjk; exact hjun
        · rw [getD_set_ne true hjk] at hun; exact hun
      unfold mixOp at h1 ⊢
      simp only [hoj] at h1 ⊢
      rw [if_neg hcj] at h1 ⊢
      have h2 := stOp_put hoj hap (fun cs b => hsel i oi cs b hi) (fun cs b => hsel j oj cs b hoj) hy h1
      refine stOp_mono (fun a' h3 => ih (listed.setIfInBounds j true) a' hfree' (ready_mono hr (Ne.symm hji)) h3.1 ?_) h2
      rw [Array.setIfInBounds_comm _ _ hji]
      exact h3.2

/-- is this an order in which each operation may be taken? -/
def mixFrom (md : Region.Mode) (ops : Array Oper) : List Nat → Array Bool → Bool
  | [], listed => (Region.ready md ops listed).isEmpty
  | i :: r, listed => (Region.ready md ops listed).contains i && (match ops[i]? with
    | some o => match opClass o.op with
      | 0 => Region.free md ops listed i
      | 1 => Region.free md ops listed i && ((List.range ops.size).all fun j => j == i || listed.getD j true || match ops[j]? with
          | some oj => oj.after.any (fun e => Region.binds md e && e.on == i) || !(opClass oj.op == 2)
          | none => true)
      | _ => (Region.ready md ops listed) == [i]
    | none => false) && mixFrom md ops r (listed.setIfInBounds i true)
def mixB (md : Region.Mode) (ops : Array Oper) (l : List Nat) : Bool := Region.noSelect ops && l.length == ops.size && mixFrom md ops l (Array.replicate ops.size false)

/-- the operations one by one, in the order told -/
def wpSeq (P : Program) (ops : Array Oper) (N : Act → World → Prop) : List Nat → Act → World → Prop
  | [], a, w => N a w
  | i :: r, a, w => ∃ o, ops[i]? = some o ∧ (if Region.wanted o (yielded ops a.tmps) = true then
      ∃ v w', ((execOp a.eval o).run P w = .ok (.value v) w' ∨ ((execOp a.eval o).run P w = .ok .skip w' ∧ v = undef)) ∧
        (opClass o.op = 0 → ∀ w1, (execOp a.eval o).run P w1 = .ok (.value v) w1) ∧ (opClass o.op ≠ 2 → w' = w ∧ (execOp a.eval o).run P w = .ok (.value v) w) ∧ wpSeq P ops N r (a.put o.dst v) w'
    else wpSeq P ops N r (a.put o.dst undef) w)
theorem mix_of_seq {N : Act → World → Prop} (hN : ∀ a w, N a w → Q .normal a w) (hQ : ∀ c a w, ¬ Q (.panic c) a w) (hsel : Region.noSelect ops = true) :
    ∀ (l : List Nat) (listed : Array Bool) (a : Act) (w : World), mixFrom md ops l listed = true → wpSeq P ops N l a w → wpMix P md ops Q l.length listed a w
  | [], listed, a, w, hB, h => ⟨by simpa [mixFrom] using hB, hN a w h⟩
  | i :: r, listed, a, w, hB, h => by
    simp only [mixFrom, Bool.and_eq_true] at hB
    obtain ⟨⟨hr, hc⟩, hB'⟩ := hB
    obtain ⟨o, ho, h⟩ := h
    simp only [ho] at hc
    have hr' : i ∈ Region.ready md ops listed := by simpa using hr
    have hs := Region.noSelect_spec hsel
    have hq : ∀ v c (a : Act) w, Q (.panic c) (a.put o.dst v) w → Q (.panic c) a w := fun v c a w h => (hQ _ _ _ h).elim
    by_cases hw : Region.wanted o (yielded ops a.tmps) = true
    · rw [if_pos hw] at h
      obtain ⟨v, w', h1, h2, h3, h4⟩ := h
      split at hc
      · rename_i hcl
        obtain ⟨rfl, _⟩ := h3 (by omega)
        exact mix_first ho (fun j o cs b hj => hs j o cs b hj) (hq v) (by omega) r.length listed a _ (Region.free_spec ho hc) hr' (.inl ⟨hw, h2 hcl⟩) (mix_of_seq hN hQ hsel r _ _ _ hB' h4)
      · rename_i hcl
        obtain ⟨rfl, h5⟩ := h3 (by omega)
        simp only [Bool.and_eq_true, List.all_eq_true, List.mem_range] at hc
        refine mix_still ho (fun j o cs b hj => hs j o cs b hj) (by omega) r.length listed a (fun j oj hj hne hun hno => ⟨Region.free_spec ho hc.1 j oj hj hne hun hno, ?_⟩) hr' (.inl ⟨hw, .inl h5⟩) (mix_of_seq hN hQ hsel r _ _ _ hB' h4)
        have h6 := hc.2 j (Array.getElem?_eq_some_iff.1 hj).1
        simp only [hj, Bool.or_eq_true, beq_iff_eq, hne, false_or, hun, Bool.false_eq_true] at h6
        rcases h6 with h6 | h6
        · obtain ⟨e, he, hb⟩ := Array.any_eq_true'.1 h6
          simp only [Bool.and_eq_true, beq_iff_eq] at hb
          exact absurd hb.2 (hno e he hb.1)
        · simpa using h6
      · have hrd : Region.ready md ops listed = [i] := eq_of_beq hc
        refine ⟨fun h => (by rw [hrd] at h; cases h), fun j hj => ?_⟩
        rw [hrd] at hj
        have hji : j = i := by simpa using hj
        subst hji
        have hk := mix_of_seq hN hQ hsel r _ _ _ hB' h4
        unfold mixOp
        simp only [ho]
        split
        · unfold wpOp
          simp only [ho]
          rw [if_pos hw]
          left
          unfold Oper.wp
          rcases h1 with h1 | ⟨h1, rfl⟩
          · rw [h1]; exact hk
          · rw [h1]; exact hk
        · rename_i hn2
          obtain ⟨rfl, h5⟩ := h3 hn2
          exact YieldsAt.stOp ho (.inl ⟨hw, .inl h5⟩) hk
    · rw [if_neg hw] at h
      have hw' : Region.wanted o (yielded ops a.tmps) = false := by simpa using hw
      have hk := mix_of_seq hN hQ hsel r _ _ _ hB' h
      split at hc
      · exact mix_first ho (fun j o cs b hj => hs j o cs b hj) (hq undef) (by omega) r.length listed a w (Region.free_spec ho hc) hr' (.inr ⟨hw', rfl⟩) hk
      · simp only [Bool.and_eq_true, List.all_eq_true, List.mem_range] at hc
        refine mix_still ho (fun j o cs b hj => hs j o cs b hj) (by omega) r.length listed a (fun j oj hj hne hun hno => ⟨Region.free_spec ho hc.1 j oj hj hne hun hno, ?_⟩) hr' (.inr ⟨hw', rfl⟩) hk
        have h6 := hc.2 j (Array.getElem?_eq_some_iff.1 hj).1
        simp only [hj, Bool.or_eq_true, beq_iff_eq, hne, false_or, hun, Bool.false_eq_true] at h6
        rcases h6 with h6 | h6
        · obtain ⟨e, he, hb⟩ := Array.any_eq_true'.1 h6
          simp only [Bool.and_eq_true, beq_iff_eq] at hb
          exact absurd hb.2 (hno e he hb.1)
        · simpa using h6
      · have hrd : Region.ready md ops listed = [i] := eq_of_beq hc
        refine ⟨fun h => (by rw [hrd] at h; cases h), fun j hj => ?_⟩
        rw [hrd] at hj
        have hji : j = i := by simpa using hj
        subst hji
        unfold mixOp
        simp only [ho]
        split
        · unfold wpOp
          simp only [ho]
          rw [if_neg hw]
          exact hk
        · exact YieldsAt.stOp ho (.inr ⟨hw', rfl⟩) hk
/-- a region whose order is open: one order serves -/
theorem wp_region_mix {id : Nat} {a : Act} {w : World} (hm : P.follows .mixedOrders = true) (l : List Nat) (hB : mixB .any ops l = true)
    (h : wpSeq P ops (fun a w => Q .normal a w) l a { w with drawn := w.drawn + 1 }) : (Code.region id ops true).wp P Q a w := by
  simp only [mixB, Bool.and_eq_true, beq_iff_eq] at hB
  refine wp_region_noPanic (wp_region_any hm ?_)
  rw [← hB.1.2]
  refine wpAny_of_mix _ _ _ _ (mix_of_seq (N := fun a w => Q .normal a w) (fun a w h => ?_) (fun c a w h => ?_) hB.1.1 l _ a _ ?_ h)
  · exact h
  · exact h
  · rw [hB.1.2]; exact hB.2
end
end Go.Proofs.Ytblmoikhfmkfnaa
