/- The abstract machine, 24: a nil slice seen as an empty one of the call's own; more operations. -/
import Derived.Test.YtblmoikhfmkfnaaM23
namespace Go.Proofs.Ytblmoikhfmkfnaa
set_option linter.unusedSimpArgs false
set_option linter.unusedVariables false
open Go.RowKit Go

section
variable {P : Program} {L : List (Option Row)} {C : Cx P L}
/-- a block more that is not there yet -/
theorem sim_more {w : World} {S0 : Nat → Prop} {n0 : Nat} {φ : Phi} {s : XS} {a : Act} (H : Sim w (SS S0 n0 φ) φ s a) (es : Nat) :
    Sim w (SS S0 n0 (φ ++ [none])) (φ ++ [none]) ⟨s.sl, s.mem ++ [some (.arr es [])]⟩ a ∧ CarryV w (SS S0 n0 φ) φ w (SS S0 n0 (φ ++ [none])) (φ ++ [none]) ∧ ∀ b, Phi.has (φ ++ [none]) b → φ.has b := by
  have hget : ∀ i, (φ ++ [(none : Option (Nat × Nat))])[i]? = if i = φ.length then some none else φ[i]? := fun i => by
    rcases Nat.lt_trichotomy i φ.length with h | h | h
    · rw [List.getElem?_append_left h, if_neg (by omega)]
    · subst h; simp
    · rw [List.getElem?_append_right (by omega), if_neg (by omega), List.getElem?_eq_none (by simp; omega), List.getElem?_eq_none (by omega)]
  have hback : ∀ b, Phi.has (φ ++ [none]) b → φ.has b := fun b ⟨i, o, hi⟩ => by
    rw [hget] at hi
    split at hi
    · cases hi
    · exact ⟨i, o, hi⟩
  have CV : CarryV w (SS S0 n0 φ) φ w (SS S0 n0 (φ ++ [none])) (φ ++ [none]) :=
    ⟨⟨fun b hb _ => ⟨hb.1, fun hh => hb.2 (hback b hh)⟩, fun _ _ _ => rfl, Nat.le_refl _⟩, fun i b o h => by
      rw [hget, if_neg (fun he => by rw [he, List.getElem?_eq_none (Nat.le_refl _)] at h; cases h)]; exact h, fun i b o c T f _ h => ⟨c, T, f, h, Nat.le_refl _⟩⟩
  refine ⟨⟨fun i => V.rep_mono CV _ _ (H.slots i), H.size, ⟨by simp [H.mem.len], fun i bk hi => ?_, fun i hi => ?_, fun i j b o o' hi hj => ?_⟩, H.defers⟩, CV, hback⟩
  · rcases Nat.lt_trichotomy i s.mem.length with h | h | h
    · rw [List.getElem?_append_left h] at hi
      rcases H.mem.ent i bk hi with ⟨h0, es', h1⟩ | ⟨b, o, h0, h1, h2, h3, h4⟩
      · exact .inl ⟨by rw [hget, if_neg (by rw [H.mem.len]; omega)]; exact h0, es', h1⟩
      · exact .inr ⟨b, o, CV.phi _ _ _ h0, fun hh => hh.2 ⟨i, o, CV.phi _ _ _ h0⟩, h2, h3, Blk.rep_mono CV rfl h4⟩
    · subst h
      simp only [List.getElem?_append_right (Nat.le_refl _), Nat.sub_self, List.getElem?_cons_zero, Option.some.injEq] at hi
      subst hi
      exact .inl ⟨by rw [hget, if_pos (by rw [H.mem.len])], es, rfl⟩
    · rw [List.getElem?_eq_none (by simp; omega)] at hi; cases hi
  · rw [hget]
    split
    · rfl
    · rename_i hne
      rw [List.getElem?_append_left (by
        have := (List.getElem?_eq_some_iff.1 hi).1
        rw [H.mem.len] at hne
        simp only [List.length_append, List.length_singleton] at this
        omega)] at hi
      exact H.mem.dead i hi
  · rw [hget] at hi hj
    split at hi
    · cases hi
    · split at hj
      · cases hj
      · exact H.mem.inj i j b o o' hi hj
/-- slot i, which holds nil, as an empty slice of the call's own -/
theorem ok_adopt {k : List It} {s : XS} (i es : Nat) {es0 : Nat} (hv : getV s.sl i = .d (.sl es0 true [])) (h : OK C k ⟨putV s.sl i (.own es s.mem.length 0 0 false), s.mem ++ [some (.arr es [])]⟩) : OK C k s := by
  intro φ a w hg
  obtain ⟨h1, h2, h3⟩ := sim_more hg.sim es
  have hs := hg.sim.slots i
  rw [hv] at hs
  have hs2 : V.rep w (SS C.S0 C.w0.heap.size (φ ++ [none])) (φ ++ [none]) (.own es s.mem.length 0 0 false) (a.tmps.getD i undef) := by
    refine .inl ⟨rfl, rfl, ?_⟩
    have hs3 := D.rep_mono h2.toCarry _ _ hs
    rcases hs with ⟨_, a0, ha⟩ | ⟨b, o, cap, ha, hc, _, hcl, _⟩
    · exact ⟨a0, ha, .inl ⟨rfl, a0, ha⟩⟩
    · have := hcl rfl
      simp only [List.length_nil] at this
      subst this
      exact ⟨_, ha, .inl ⟨rfl, _, ha⟩⟩
  have h4 := (h1.put (some i) hs2)
  refine h (φ ++ [none]) a w ⟨⟨fun j => ?_, by have := h4.size; simp only [Act.put, Array.size_setIfInBounds] at this; exact this, h4.mem, hg.sim.defers⟩, hg.frame.trans ⟨rfl, rfl, rfl, Nat.le_refl _, fun _ _ _ => rfl, fun b hb => .inl (h3 b hb)⟩⟩
  have h5 := h4.slots j
  have e : (a.put (some i) (a.tmps.getD i undef)).tmps.getD j undef = a.tmps.getD j undef := by
    simp only [Act.put, Array.getD_eq_getD_getElem?, Array.getElem?_setIfInBounds]
    by_cases hij : i = j
    · subst hij
      rw [if_pos rfl]
      split
      · rename_i hlt; simp [hlt]
      · rename_i hlt; rw [Array.getElem?_eq_none (by omega)]
    · rw [if_neg hij]
  rw [e] at h5
  exact h5
end
end Go.Proofs.Ytblmoikhfmkfnaa
