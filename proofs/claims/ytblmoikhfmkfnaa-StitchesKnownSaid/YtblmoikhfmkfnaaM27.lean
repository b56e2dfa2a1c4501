/- The abstract machine, 27: a box of the call's own seen as an array of elements. -/
import Derived.Test.YtblmoikhfmkfnaaM26
namespace Go.Proofs.Ytblmoikhfmkfnaa
set_option linter.unusedSimpArgs false
set_option linter.unusedVariables false
open Go.RowKit Go
section
variable {P : Program} {L : List (Option Row)} {C : Cx P L}
theorem box_vals {w : World} {S : Nat → Prop} {φ : Phi} {b : Nat} : ∀ (l : List V) (o : Nat), (∀ (j : Nat) x, l[j]? = some x → ∃ v, w.cell? ⟨b, o + j, none⟩ = some v ∧ one v = true ∧ V.rep w S φ x v) → ∃ us : List Value, V.repL w S φ l us ∧ Cells w b o us
  | [], o, _ => ⟨[], rfl, fun j v hj => by simp at hj⟩
  | z :: l, o, h => by
    obtain ⟨v, hv1, hv2, hv3⟩ := h 0 z rfl
    obtain ⟨us, h1, h2⟩ := box_vals l (o + 1) fun j x hj => by
      have := h (j + 1) x (by simpa using hj)
      rwa [show o + (j + 1) = o + 1 + j by omega] at this
    refine ⟨v :: us, ⟨v, us, rfl, hv3, hv2, h1⟩, fun j u hj => ?_⟩
    cases j with
    | zero => simp only [List.getElem?_cons_zero, Option.some.injEq] at hj; subst hj; exact hv1
    | succ j => have := h2 j u (by simpa using hj); rwa [show o + 1 + j = o + (j + 1) by omega] at this
theorem ok_toArr {k : List It} {s : XS} (id t n : Nat) {re : Row} {cells : List V} {ys : List D} (hre : rowAt L t = some re) (hb : blkAt s.mem id = some (.box cells)) (hc : chunks re.agg re.size n cells = some ys) (hn : n * re.size = cells.length)
    (h : OK C k ⟨s.sl, s.mem.set id (some (.arr re.size ys))⟩) : OK C k s := by
  intro φ a w hg
  have H := hg.sim
  have hm : s.mem[id]? = some (some (.box cells)) := by unfold blkAt at hb; split at hb <;> simp_all
  have hidl : id < s.mem.length := (List.getElem?_eq_some_iff.1 hm).1
  rcases H.mem.ent id _ hm with ⟨h0, es', h1⟩ | ⟨b, o, h0, h1, h2, h3, h4⟩
  · cases h1
  · refine h φ a w ⟨⟨H.slots, H.size, ⟨by simp [H.mem.len], fun i bk hi => ?_, fun i hi => ?_, H.mem.inj⟩, H.defers⟩, hg.frame⟩
    · by_cases hii : i = id
      · subst hii
        rw [List.getElem?_set_self hidl] at hi
        simp only [Option.some.injEq] at hi
        subst hi
        refine .inr ⟨b, o, h0, h1, h2, h3, ?_⟩
        obtain ⟨us, g1, g2⟩ := box_vals cells o (fun j x hj => h4 j x hj)
        obtain ⟨g3, g4⟩ := chunks_rep (fun hg => (C.lay t re hre).nagg hg) n cells ys us hc g1
        have hl := V.repL_length g1
        rw [List.take_of_length_le (by omega)] at g4
        exact D.repE_iff.2 ⟨us, g4, g2⟩
      · rw [List.getElem?_set_ne (Ne.symm hii)] at hi
        exact H.mem.ent i bk hi
    · by_cases hii : i = id
      · subst hii; rw [List.getElem?_set_self hidl] at hi; cases hi
      · rw [List.getElem?_set_ne (Ne.symm hii)] at hi; exact H.mem.dead i hi
theorem ok_toArrT {α : Type} (f : α → D) (ys : List α) {k : List It} {s : XS} (id t n : Nat) {re : Row} {cells : List V} (hre : rowAt L t = some re) (hb : blkAt s.mem id = some (.box cells)) (hc : chunks re.agg re.size n cells = some (ys.map f)) (hn : n * re.size = cells.length)
    (h : OK C k ⟨s.sl, s.mem.set id (some (.arr re.size (ys.map f)))⟩) : OK C k s := ok_toArr id t n hre hb hc hn h
end
end Go.Proofs.Ytblmoikhfmkfnaa
