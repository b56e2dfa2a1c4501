/- The abstract machine, 11: append. -/
import Derived.Test.YtblmoikhfmkfnaaM10
namespace Go.Proofs.Ytblmoikhfmkfnaa
set_option linter.unusedSimpArgs false
set_option linter.unusedVariables false
open Go.RowKit Go

/-- all but the own block number id is carried -/
structure CarryK (id : Nat) (w : World) (S : Nat → Prop) (φ : Phi) (w' : World) (S' : Nat → Prop) (φ' : Phi) : Prop extends Carry w S w' S' where
  phi : ∀ i b o : Nat, i ≠ id → φ[i]? = some (some (b, o)) → φ'[i]? = some (some (b, o))
  rows : ∀ (i b o : Nat) (cs : Array Value) (T : TypeId) (fz : Nat × Nat), i ≠ id → φ[i]? = some (some (b, o)) → w.heap[b]? = some (.cells cs T fz) → ∃ cs' T' fz', w'.heap[b]? = some (.cells cs' T' fz') ∧ cs.size ≤ cs'.size

section
variable {w w' : World} {S S' : Nat → Prop} {φ φ' : Phi} {id : Nat}
theorem beq_false_ne {i j : Nat} (h : Nat.beq i j = false) : i ≠ j := fun he => by subst he; simp at h
mutual
theorem V.rep_kill (H : CarryK id w S φ w' S' φ') : ∀ (x : V) (v : Value), V.rep w S φ x v → V.rep w' S' φ' (V.kill id x) v
  | .d x, v, h => D.rep_mono H.toCarry x v h
  | .agg cs, _, ⟨xs, hx, h⟩ => ⟨xs, hx, V.repL_kill H cs xs h⟩
  | .tup vs, _, ⟨xs, hx, h⟩ => ⟨xs, hx, V.repT_kill H vs xs h⟩
  | .ptr i o, v, h => by
    unfold V.kill
    split
    · trivial
    · rename_i hb; obtain ⟨b, o', h1, h2⟩ := h; exact ⟨b, o', H.phi _ _ _ (beq_false_ne hb) h1, h2⟩
  | .own es i o n c, v, h => by
    unfold V.kill
    split
    · trivial
    · rename_i hb
      rcases h with ⟨k1, k2, a, k3, k4⟩ | ⟨b, o', cap, cs, T, fz, h1, h2, h3, h3', h4, h5, h6⟩
      · exact .inl ⟨k1, k2, a, k3, D.rep_mono H.toCarry (.sl 0 true []) _ k4⟩
      · obtain ⟨cs', T', fz', h7, h8⟩ := H.rows _ _ _ _ _ _ (beq_false_ne hb) h1 h5
        exact .inr ⟨b, o', cap, cs', T', fz', H.phi _ _ _ (beq_false_ne hb) h1, h2, h3, h3', h4, h7, Nat.le_trans h6 h8⟩
  | .aptr es i k o, v, h => by
    unfold V.kill
    split
    · trivial
    · rename_i hb; obtain ⟨b, o', h1, h2⟩ := h; exact ⟨b, o', H.phi _ _ _ (beq_false_ne hb) h1, h2⟩
  | .iptr es xs _ _, _, ⟨b, o, h1, h2, h3, h4⟩ => ⟨b, o, h1, H.sub b h2 h3, Nat.lt_of_lt_of_le h3 H.size, D.repE_mono H.toCarry es b (H.same b h2 h3) xs o h4⟩
  | .fn _ cap, _, ⟨xs, hx, h⟩ => ⟨xs, hx, V.repT_kill H cap xs h⟩
  | .undef, _, _ => trivial
theorem V.repL_kill (H : CarryK id w S φ w' S' φ') : ∀ (ds : List V) (xs : List Value), V.repL w S φ ds xs → V.repL w' S' φ' (V.killL id ds) xs
  | [], _, h => h
  | x :: ds, _, ⟨y, ys, e, h1, h2, h3⟩ => ⟨y, ys, e, V.rep_kill H x y h1, h2, V.repL_kill H ds ys h3⟩
theorem V.repT_kill (H : CarryK id w S φ w' S' φ') : ∀ (ds : List V) (xs : List Value), V.repT w S φ ds xs → V.repT w' S' φ' (V.killL id ds) xs
  | [], _, h => h
  | x :: ds, _, ⟨y, ys, e, h1, h3⟩ => ⟨y, ys, e, V.rep_kill H x y h1, V.repT_kill H ds ys h3⟩
end
theorem killL_get : ∀ (l : List V) (i : Nat), (V.killL id l)[i]? = (l[i]?).map (V.kill id)
  | [], i => by simp [V.killL]
  | x :: l, 0 => by simp [V.killL]
  | x :: l, i + 1 => by simp [V.killL, killL_get l i]
theorem getV_eq : ∀ (l : List V) (i : Nat), getV l i = (l[i]?).getD .undef
  | [], i => by simp [getV]
  | x :: l, 0 => by simp [getV]
  | x :: l, i + 1 => by simp [getV, getV_eq l i]
theorem killL_length : ∀ (l : List V), (V.killL id l).length = l.length
  | [] => rfl
  | x :: l => by simp [V.killL, killL_length l]
theorem killMem_get : ∀ (l : List (Option Blk)) (i : Nat), (killMem id l)[i]? = (l[i]?).map (·.map (Blk.kill id))
  | [], i => by simp [killMem]
  | none :: l, 0 => by simp [killMem]
  | some b :: l, 0 => by simp [killMem]
  | none :: l, i + 1 => by simp [killMem, killMem_get l i]
  | some b :: l, i + 1 => by simp [killMem, killMem_get l i]
theorem killMem_length : ∀ (l : List (Option Blk)), (killMem id l).length = l.length
  | [] => rfl
  | none :: l => by simp [killMem, killMem_length l]
  | some b :: l => by simp [killMem, killMem_length l]
theorem Blk.rep_kill (H : CarryK id w S φ w' S' φ') {blk : Blk} {b o : Nat} (hb : w'.heap[b]? = w.heap[b]?) (h : Blk.rep w S φ blk b o) : Blk.rep w' S' φ' (blk.kill id) b o := by
  cases blk with
  | box cells =>
    intro j x hx
    rw [killL_get] at hx
    cases hc : cells[j]? with
    | none => simp [hc] at hx
    | some y =>
      simp only [hc, Option.map_some, Option.some.injEq] at hx
      subst hx
      obtain ⟨v, h1, h2, h3⟩ := h j y hc
      exact ⟨v, by rw [cell_same hb]; exact h1, h2, V.rep_kill H y v h3⟩
  | arr es xs => exact D.repE_mono H.toCarry es b hb xs o h
end

section
variable {P : Program} {L : List (Option Row)} {w : World} {S0 : Nat → Prop} {n0 : Nat} {φ : Phi} {s : XS} {a : Act}

theorem phi_set {φ : Phi} {x : Option (Nat × Nat)} {id i : Nat} (h : id < φ.length) : (φ.set id x)[i]? = if i = id then some x else φ[i]? := by
  by_cases he : i = id
  · subst he; simp [h]
  · rw [List.getElem?_set_ne (Ne.symm he), if_neg he]
theorem has_set {φ : Phi} {id n o b : Nat} (h : id < φ.length) (hb : Phi.has (φ.set id (some (n, o))) b) : φ.has b ∨ b = n := by
  obtain ⟨i, o', hi⟩ := hb
  rw [phi_set h] at hi
  split at hi
  · simp only [Option.some.injEq, Prod.mk.injEq] at hi; exact .inr hi.1.symm
  · exact .inl ⟨i, o', hi⟩

/-- the own block id is given up, and a new one takes its number -/
theorem sim_replace (hn : n0 ≤ w.heap.size) (H : Sim w (SS S0 n0 φ) φ s a) {id : Nat} (hid : id < s.mem.length) (cs : Array Value) (T : TypeId) {es : Nat} {ds : List D} {xs rest : List Value} (h : D.repF w (SS S0 n0 φ) es ds xs) (hcs : cs = (xs ++ rest).toArray) :
    Sim (w.drew.alloc (.cells cs T)) (SS S0 n0 (φ.set id (some (w.heap.size, 0)))) (φ.set id (some (w.heap.size, 0))) ⟨V.killL id s.sl, (killMem id s.mem).set id (some (.arr es ds))⟩ a ∧ FrameTo φ w (φ.set id (some (w.heap.size, 0))) (w.drew.alloc (.cells cs T)) := by
  have hidp : id < φ.length := by rw [H.mem.len]; exact hid
  have hsame : ∀ b, b < w.heap.size → (w.drew.alloc (.cells cs T)).heap[b]? = w.heap[b]? := fun b hb => heap_alloc w.drew _ b hb
  have C : CarryK id w (SS S0 n0 φ) φ (w.drew.alloc (.cells cs T)) (SS S0 n0 (φ.set id (some (w.heap.size, 0)))) (φ.set id (some (w.heap.size, 0))) :=
    { sub := fun b hb hlt => ⟨hb.1, fun hh => by
        rcases has_set hidp hh with h | h
        · exact hb.2 h
        · omega⟩
      same := fun b _ hlt => hsame b hlt
      size := by simp
      phi := fun i b o hi h => by rw [phi_set hidp, if_neg hi]; exact h
      rows := fun i b o c T fz _ h hb => ⟨c, T, fz, by rw [hsame b (H.mem.lt ⟨i, o, h⟩).1]; exact hb, Nat.le_refl _⟩ }
  refine ⟨⟨fun i => ?_, by rw [killL_length]; exact H.size, ?_, H.defers⟩, ⟨rfl, rfl, rfl, by simp, fun b hb _ => hsame b hb, fun b hb => by
    rcases has_set hidp hb with h | h
    · exact .inl h
    · exact .inr (by omega)⟩⟩
  · have := H.slots i
    rw [getV_eq] at this ⊢
    rw [killL_get]
    cases hs : s.sl[i]? with
    | none => trivial
    | some x => rw [hs] at this; exact V.rep_kill C x _ this
  · refine ⟨by simp [killMem_length, H.mem.len], fun i bk hi => ?_, fun i hi => ?_, fun i j b o o' hi hj => ?_⟩
    · by_cases he : i = id
      · subst he
        rw [List.getElem?_set_self (by rw [killMem_length]; exact hid)] at hi
        simp only [Option.some.injEq] at hi
        subst hi
        refine .inr ⟨w.heap.size, 0, by rw [phi_set hidp, if_pos rfl], fun hh => hh.2 ⟨i, 0, by rw [phi_set hidp, if_pos rfl]⟩, by simp, ⟨cs, T, (0, 0), heap_alloc_at w.drew _, fun i _ => by omega⟩, ?_⟩
        refine D.repE_iff.2 ⟨xs, D.repF_mono C.toCarry h, fun j v hj => ?_⟩
        have := cell_new w.drew cs T j
        have hlt := (List.getElem?_eq_some_iff.1 hj).1
        rw [Nat.zero_add]
        refine this.trans ?_
        rw [hcs]
        simp only [List.getElem?_toArray]
        rw [List.getElem?_append_left hlt]; exact hj
      · rw [List.getElem?_set_ne (Ne.symm he), killMem_get] at hi
        cases hm : s.mem[i]? with
        | none => simp [hm] at hi
        | some ob =>
          cases ob with
          | none => simp [hm] at hi
          | some blk =>
            simp only [hm, Option.map_some, Option.some.injEq] at hi
            subst hi
            rcases H.mem.ent i blk hm with ⟨h0, es', h1⟩ | ⟨b, o, h0, h1, h2, h3, h4⟩
            · subst h1
              exact .inl ⟨by rw [phi_set hidp, if_neg he]; exact h0, es', rfl⟩
            · obtain ⟨c, T', fz, h5, h6⟩ := h3
              exact .inr ⟨b, o, C.phi _ _ _ he h0, fun hh => hh.2 ⟨i, o, C.phi _ _ _ he h0⟩, by simp; omega, ⟨c, T', fz, by rw [hsame b h2]; exact h5, h6⟩, Blk.rep_kill C (hsame b h2) h4⟩
    · by_cases he : i = id
      · subst he
        rw [List.getElem?_set_self (by rw [killMem_length]; exact hid)] at hi
        cases hi
      · rw [List.getElem?_set_ne (Ne.symm he), killMem_get] at hi
        rw [phi_set hidp, if_neg he]
        cases hm : s.mem[i]? with
        | none => simp [hm] at hi
        | some ob =>
          cases ob with
          | none => exact H.mem.dead i hm
          | some blk => simp [hm] at hi
    · rw [phi_set hidp] at hi hj
      split at hi <;> split at hj
      · omega
      · simp only [Option.some.injEq, Prod.mk.injEq] at hi
        have := (H.mem.lt ⟨j, o', hj⟩).1
        omega
      · simp only [Option.some.injEq, Prod.mk.injEq] at hj
        have := (H.mem.lt ⟨i, o, hi⟩).1
        omega
      · exact H.mem.inj i j b o o' hi hj

/-- an array that is not there yet: it holds nothing -/
theorem sim_virtual (H : Sim w (SS S0 n0 φ) φ s a) (es : Nat) : Sim w (SS S0 n0 (φ ++ [none])) (φ ++ [none]) ⟨s.sl, s.mem ++ [some (.arr es [])]⟩ a ∧ FrameTo φ w (φ ++ [none]) w := by
  have hhas : ∀ b, Phi.has (φ ++ [none]) b ↔ φ.has b := fun b => by
    constructor
    · rintro ⟨i, o, hi⟩
      rw [phi_append] at hi
      split at hi
      · exact ⟨i, o, hi⟩
      · split at hi <;> cases hi
    · rintro ⟨i, o, hi⟩
      exact ⟨i, o, by rw [phi_append, if_pos (List.getElem?_eq_some_iff.1 hi).1]; exact hi⟩
  have C : CarryV w (SS S0 n0 φ) φ w (SS S0 n0 (φ ++ [none])) (φ ++ [none]) :=
    { sub := fun b hb _ => ⟨hb.1, fun hh => hb.2 ((hhas b).1 hh)⟩
      same := fun _ _ _ => rfl
      size := Nat.le_refl _
      phi := fun i b o h => by rw [phi_append, if_pos (List.getElem?_eq_some_iff.1 h).1]; exact h
      rows := fun i b o c T fz _ hb => ⟨c, T, fz, hb, Nat.le_refl _⟩ }
  refine ⟨⟨fun i => V.rep_mono C _ _ (H.slots i), H.size, ?_, H.defers⟩, ⟨rfl, rfl, rfl, Nat.le_refl _, fun _ _ _ => rfl, fun b hb => .inl ((hhas b).1 hb)⟩⟩
  refine ⟨by simp [H.mem.len], fun i bk hi => ?_, fun i hi => ?_, fun i j b o o' hi hj => ?_⟩
  · by_cases hlt : i < s.mem.length
    · rw [List.getElem?_append_left hlt] at hi
      rcases H.mem.ent i bk hi with ⟨h0, h1⟩ | ⟨b, o, h0, h1, h2, h3, h4⟩
      · exact .inl ⟨by rw [phi_append, if_pos (by rw [H.mem.len]; exact hlt)]; exact h0, h1⟩
      · exact .inr ⟨b, o, C.phi _ _ _ h0, fun hh => hh.2 ⟨i, o, C.phi _ _ _ h0⟩, h2, h3, Blk.rep_mono C rfl h4⟩
    · rw [List.getElem?_append_right (by omega)] at hi
      have he : i = s.mem.length := by
        have := (List.getElem?_eq_some_iff.1 hi).1
        simp at this; omega
      subst he
      simp only [Nat.sub_self, List.getElem?_cons_zero, Option.some.injEq] at hi
      subst hi
      exact .inl ⟨by rw [phi_append, if_neg (by rw [H.mem.len]; omega), if_pos H.mem.len.symm], es, rfl⟩
  · by_cases hlt : i < s.mem.length
    · rw [List.getElem?_append_left hlt] at hi
      rw [phi_append, if_pos (by rw [H.mem.len]; exact hlt)]
      exact H.mem.dead i hi
    · rw [List.getElem?_append_right (by omega)] at hi
      cases hk : i - s.mem.length with
      | zero => rw [hk] at hi; simp at hi
      | succ k => rw [hk] at hi; simp at hi
  · rw [phi_append] at hi hj
    split at hi
    · split at hj
      · exact H.mem.inj i j b o o' hi hj
      · split at hj <;> cases hj
    · split at hi <;> cases hi
end
end Go.Proofs.Ytblmoikhfmkfnaa
