/- The abstract machine, 23: a block of the call's own becomes data (no operation: a step of the proof alone). -/
import Derived.Test.YtblmoikhfmkfnaaM22
namespace Go.Proofs.Ytblmoikhfmkfnaa
set_option linter.unusedSimpArgs false
set_option linter.unusedVariables false
open Go.RowKit Go

mutual
/-- the slices over block id are the datum xs now -/
def V.frz (id : Nat) (xs : List D) : V → V
  | .d x => .d x
  | .agg cs => .agg (V.frzL id xs cs)
  | .tup vs => .tup (V.frzL id xs vs)
  | .ptr i o => match Nat.beq i id with
    | true => .undef
    | false => .ptr i o
  | .own es i off n c => match Nat.beq i id with
    | true => match off with
      | 0 => .d (.sl es c xs)
      | _ + 1 => .undef
    | false => .own es i off n c
  | .aptr es i k o => match Nat.beq i id with
    | true => .undef
    | false => .aptr es i k o
  | .iptr es ys k o => .iptr es ys k o
  | .fn f cap => .fn f (V.frzL id xs cap)
  | .undef => .undef
def V.frzL (id : Nat) (xs : List D) : List V → List V
  | [] => []
  | x :: r => V.frz id xs x :: V.frzL id xs r
end
mutual
/-- the slices over block id that begin at its head have n elements -/
def V.lens (id es n : Nat) : V → Prop
  | .agg cs => V.lensL id es n cs
  | .tup vs => V.lensL id es n vs
  | .own es' i off m _ => match Nat.beq i id with
    | true => match off with
      | 0 => es' = es ∧ m = n
      | _ + 1 => True
    | false => True
  | .fn _ cap => V.lensL id es n cap
  | _ => True
def V.lensL (id es n : Nat) : List V → Prop
  | [] => True
  | x :: r => V.lens id es n x ∧ V.lensL id es n r
end
def Blk.frz (id : Nat) (xs : List D) : Blk → Blk
  | .box cs => .box (V.frzL id xs cs)
  | .arr es ys => .arr es ys
def Blk.lens (id es n : Nat) : Blk → Prop
  | .box cs => V.lensL id es n cs
  | .arr _ _ => True
def frzMem (id : Nat) (xs : List D) : List (Option Blk) → List (Option Blk)
  | [] => []
  | none :: r => none :: frzMem id xs r
  | some b :: r => some (b.frz id xs) :: frzMem id xs r
def lensMem (id es n : Nat) : List (Option Blk) → Prop
  | [] => True
  | none :: r => lensMem id es n r
  | some b :: r => b.lens id es n ∧ lensMem id es n r
def XS.frz (id : Nat) (xs : List D) (s : XS) : XS := ⟨V.frzL id xs s.sl, (frzMem id xs s.mem).set id none⟩
def XS.lens (id es n : Nat) (s : XS) : Prop := V.lensL id es n s.sl ∧ lensMem id es n s.mem

theorem frzL_get (id : Nat) (xs : List D) : ∀ (l : List V) (i : Nat), (V.frzL id xs l)[i]? = (l[i]?).map (V.frz id xs)
  | [], i => by simp [V.frzL]
  | x :: l, 0 => by simp [V.frzL]
  | x :: l, i + 1 => by simp [V.frzL, frzL_get id xs l i]
theorem frzL_length (id : Nat) (xs : List D) : ∀ (l : List V), (V.frzL id xs l).length = l.length
  | [] => rfl
  | x :: l => by simp [V.frzL, frzL_length id xs l]
theorem frzMem_get (id : Nat) (xs : List D) : ∀ (l : List (Option Blk)) (i : Nat), (frzMem id xs l)[i]? = (l[i]?).map (·.map (Blk.frz id xs))
  | [], i => by simp [frzMem]
  | none :: l, 0 => by simp [frzMem]
  | some b :: l, 0 => by simp [frzMem]
  | none :: l, i + 1 => by simp [frzMem, frzMem_get id xs l i]
  | some b :: l, i + 1 => by simp [frzMem, frzMem_get id xs l i]
theorem frzMem_length (id : Nat) (xs : List D) : ∀ (l : List (Option Blk)), (frzMem id xs l).length = l.length
  | [] => rfl
  | none :: l => by simp [frzMem, frzMem_length id xs l]
  | some b :: l => by simp [frzMem, frzMem_length id xs l]
theorem lensL_get {id es n : Nat} : ∀ (l : List V), V.lensL id es n l → ∀ (i : Nat) x, l[i]? = some x → V.lens id es n x
  | [], _, i, x, h => by simp at h
  | y :: l, h, 0, x, hx => by simp only [List.getElem?_cons_zero, Option.some.injEq] at hx; subst hx; exact h.1
  | y :: l, h, i + 1, x, hx => lensL_get l h.2 i x (by simpa using hx)
theorem lensMem_get {id es n : Nat} : ∀ (l : List (Option Blk)), lensMem id es n l → ∀ (i : Nat) b, l[i]? = some (some b) → b.lens id es n
  | [], _, i, x, h => by simp at h
  | none :: l, h, 0, x, hx => by simp at hx
  | some y :: l, h, 0, x, hx => by simp only [List.getElem?_cons_zero, Option.some.injEq] at hx; subst hx; exact h.1
  | none :: l, h, i + 1, x, hx => lensMem_get l h i x (by simpa using hx)
  | some y :: l, h, i + 1, x, hx => lensMem_get l h.2 i x (by simpa using hx)

/-- what frz needs of the block's place -/
structure CarryF (id es n : Nat) (xs : List D) (w : World) (S : Nat → Prop) (φ : Phi) (S' : Nat → Prop) (φ' : Phi) : Prop extends CarryK id w S φ w S' φ' where
  own : ∀ b o : Nat, φ[id]? = some (some (b, o)) → S' b ∧ b < w.heap.size ∧ D.repE w S' es b xs o
  len : xs.length = n
section
variable {w : World} {S S' : Nat → Prop} {φ φ' : Phi} {id es n : Nat} {xs : List D}
mutual
theorem V.rep_frz (H : CarryF id es n xs w S φ S' φ') : ∀ (x : V) (v : Value), V.lens id es n x → V.rep w S φ x v → V.rep w S' φ' (V.frz id xs x) v
  | .d x, v, _, h => D.rep_mono H.toCarry x v h
  | .agg cs, _, hl, ⟨us, hx, h⟩ => ⟨us, hx, V.repL_frz H cs us hl h⟩
  | .tup vs, _, hl, ⟨us, hx, h⟩ => ⟨us, hx, V.repT_frz H vs us hl h⟩
  | .ptr i o, v, _, h => by
    unfold V.frz
    split
    · trivial
    · rename_i hb; obtain ⟨b, o', h1, h2⟩ := h; exact ⟨b, o', H.phi _ _ _ (beq_false_ne hb) h1, h2⟩
  | .own es' i off m c, v, hl, h => by
    unfold V.frz
    split
    · rename_i hb
      have hi : i = id := Nat.eq_of_beq_eq_true hb
      subst hi
      split
      · have hl' : es' = es ∧ m = n := by simpa [V.lens] using hl
        obtain ⟨rfl, rfl⟩ := hl'
        have hlen := H.len
        rcases h with ⟨k1, k2, a, k3, k4⟩ | ⟨b, o', cap, cs, T, fz, h1, h2, h3, h3', h4, h5, h6⟩
        · exact .inl ⟨List.eq_nil_of_length_eq_zero (by omega), a, k3⟩
        · obtain ⟨j1, j2, j3⟩ := H.own _ _ h1
          exact .inr ⟨b, o', cap, by rw [h2, hlen]; simp, by omega, h3', fun hh => by rw [h4 hh, hlen], j1, j2, j3⟩
      · trivial
    · rename_i hb
      rcases h with ⟨k1, k2, a, k3, k4⟩ | ⟨b, o', cap, cs, T, fz, h1, h2, h3, h3', h4, h5, h6⟩
      · exact .inl ⟨k1, k2, a, k3, D.rep_mono H.toCarry (.sl 0 true []) _ k4⟩
      · obtain ⟨cs', T', fz', h7, h8⟩ := H.rows _ _ _ _ _ _ (beq_false_ne hb) h1 h5
        exact .inr ⟨b, o', cap, cs', T', fz', H.phi _ _ _ (beq_false_ne hb) h1, h2, h3, h3', h4, h7, Nat.le_trans h6 h8⟩
  | .aptr es i k o, v, _, h => by
    unfold V.frz
    split
    · trivial
    · rename_i hb; obtain ⟨b, o', h1, h2⟩ := h; exact ⟨b, o', H.phi _ _ _ (beq_false_ne hb) h1, h2⟩
  | .iptr es ys _ _, _, _, ⟨b, o, h1, h2, h3, h4⟩ => ⟨b, o, h1, H.sub b h2 h3, h3, D.repE_mono H.toCarry es b rfl ys o h4⟩
  | .fn _ cap, _, hl, ⟨us, hx, h⟩ => ⟨us, hx, V.repT_frz H cap us hl h⟩
  | .undef, _, _, _ => trivial
theorem V.repL_frz (H : CarryF id es n xs w S φ S' φ') : ∀ (ds : List V) (us : List Value), V.lensL id es n ds → V.repL w S φ ds us → V.repL w S' φ' (V.frzL id xs ds) us
  | [], _, _, h => h
  | x :: ds, _, hl, ⟨y, ys, e, h1, h2, h3⟩ => ⟨y, ys, e, V.rep_frz H x y hl.1 h1, h2, V.repL_frz H ds ys hl.2 h3⟩
theorem V.repT_frz (H : CarryF id es n xs w S φ S' φ') : ∀ (ds : List V) (us : List Value), V.lensL id es n ds → V.repT w S φ ds us → V.repT w S' φ' (V.frzL id xs ds) us
  | [], _, _, h => h
  | x :: ds, _, hl, ⟨y, ys, e, h1, h3⟩ => ⟨y, ys, e, V.rep_frz H x y hl.1 h1, V.repT_frz H ds ys hl.2 h3⟩
end
theorem Blk.rep_frz (H : CarryF id es n xs w S φ S' φ') {blk : Blk} {b o : Nat} (hl : blk.lens id es n) (h : Blk.rep w S φ blk b o) : Blk.rep w S' φ' (blk.frz id xs) b o := by
  cases blk with
  | box cells =>
    intro j x hx
    rw [frzL_get] at hx
    cases hc : cells[j]? with
    | none => simp [hc] at hx
    | some y =>
      simp only [hc, Option.map_some, Option.some.injEq] at hx
      subst hx
      obtain ⟨v, h1, h2, h3⟩ := h j y hc
      exact ⟨v, h1, h2, V.rep_frz H y v (lensL_get _ hl _ _ hc) h3⟩
  | arr es ys => exact D.repE_mono H.toCarry es b rfl ys o h
end

section
variable {P : Program} {L : List (Option Row)} {C : Cx P L}
theorem repE_take {w : World} {S : Nat → Prop} {es b : Nat} : ∀ (n : Nat) (xs : List D) (o : Nat), D.repE w S es b xs o → D.repE w S es b (xs.take n) o
  | 0, _, _, _ => by simp only [List.take_zero]; trivial
  | n + 1, [], _, _ => trivial
  | n + 1, x :: xs, o, ⟨h1, h2⟩ => ⟨h1, repE_take n xs (o + es) h2⟩
/-- the block id, of which all whole slices have n elements, is data from now on -/
theorem ok_freeze {k : List It} {s : XS} (id n : Nat) {es : Nat} {ys : List D} (hb : blkAt s.mem id = some (.arr es ys)) (hn : n ≤ ys.length) (hl : s.lens id es n) (h : OK C k (s.frz id (ys.take n))) : OK C k s := by
  intro φ a w hg
  have hm : s.mem[id]? = some (some (.arr es ys)) := by unfold blkAt at hb; split at hb <;> simp_all
  have H := hg.sim
  have hidl : id < φ.length := by rw [H.mem.len]; exact (List.getElem?_eq_some_iff.1 hm).1
  have hget : ∀ i, (φ.set id (none : Option (Nat × Nat)))[i]? = if i = id then some none else φ[i]? := fun i => phi_set hidl
  have hhas : ∀ b, Phi.has (φ.set id none) b → φ.has b := fun b ⟨i, o, hi⟩ => by
    rw [hget] at hi
    split at hi
    · cases hi
    · exact ⟨i, o, hi⟩
  have fresh : ∀ b, φ.has b → C.w0.heap.size ≤ b := fun b hb => by
    rcases hg.frame.has b hb with ⟨id, o, h⟩ | h
    · rw [C.own] at h; simp at h
    · exact h
  have CF : CarryF id es n (ys.take n) w (SS C.S0 C.w0.heap.size φ) φ (SS C.S0 C.w0.heap.size (φ.set id none)) (φ.set id none) := by
    have CK : CarryK id w (SS C.S0 C.w0.heap.size φ) φ w (SS C.S0 C.w0.heap.size (φ.set id none)) (φ.set id none) :=
      ⟨⟨fun b hb _ => ⟨hb.1, fun hh => hb.2 (hhas b hh)⟩, fun _ _ _ => rfl, Nat.le_refl _⟩, fun i b o hi h => by rw [hget, if_neg hi]; exact h, fun i b o c T f _ _ h => ⟨c, T, f, h, Nat.le_refl _⟩⟩
    refine ⟨CK, fun b o ho => ?_, by simp [hn]⟩
    refine ⟨⟨.inr (fresh b ⟨id, o, ho⟩), fun ⟨j, o', hj⟩ => ?_⟩, (H.mem.lt ⟨id, o, ho⟩).1, ?_⟩
    · rw [hget] at hj
      split at hj
      · cases hj
      · rename_i hne
        exact hne (H.mem.inj j id b o' o hj ho)
    · refine repE_take n ys o ?_
      rcases H.mem.ent id _ hm with ⟨h0, es', h1⟩ | ⟨b', o', h0, h1, h2, h3, h4⟩
      · rw [ho] at h0; cases h0
      · rw [ho] at h0
        simp only [Option.some.injEq, Prod.mk.injEq] at h0
        obtain ⟨rfl, rfl⟩ := h0
        exact D.repE_mono CK.toCarry es b rfl ys o h4
  refine h (φ.set id none) a w ⟨⟨fun i => ?_, by simp [XS.frz, frzL_length, H.size], ⟨by simp [XS.frz, frzMem_length, H.mem.len], fun i bk hi => ?_, fun i hi => ?_, fun i j b o o' hi hj => ?_⟩, H.defers⟩, hg.frame.trans ⟨rfl, rfl, rfl, Nat.le_refl _, fun _ _ _ => rfl, fun b hb => .inl (hhas b hb)⟩⟩
  · have := H.slots i
    simp only [XS.frz]
    rw [getV_eq] at this ⊢
    rw [frzL_get]
    cases hs : s.sl[i]? with
    | none => trivial
    | some x => rw [hs] at this; exact V.rep_frz CF x _ (lensL_get _ hl.1 _ _ hs) this
  · simp only [XS.frz] at hi
    by_cases hii : i = id
    · subst hii; rw [List.getElem?_set_self (by rw [frzMem_length, ← H.mem.len]; exact hidl)] at hi; cases hi
    · rw [List.getElem?_set_ne (Ne.symm hii), frzMem_get] at hi
      cases hm2 : s.mem[i]? with
      | none => simp [hm2] at hi
      | some ob =>
        cases ob with
        | none => simp [hm2] at hi
        | some blk =>
          simp only [hm2, Option.map_some, Option.some.injEq] at hi
          subst hi
          rcases H.mem.ent i blk hm2 with ⟨h0, es', h1⟩ | ⟨b, o, h0, h1, h2, h3, h4⟩
          · subst h1
            exact .inl ⟨by rw [hget, if_neg hii]; exact h0, es', rfl⟩
          · exact .inr ⟨b, o, CF.phi _ _ _ hii h0, fun hh => hh.2 ⟨i, o, CF.phi _ _ _ hii h0⟩, h2, h3, Blk.rep_frz CF (lensMem_get _ hl.2 _ _ hm2) h4⟩
  · simp only [XS.frz] at hi
    rw [hget]
    by_cases hii : i = id
    · rw [if_pos hii]
    · rw [if_neg hii]
      rw [List.getElem?_set_ne (Ne.symm hii), frzMem_get] at hi
      cases hm2 : s.mem[i]? with
      | none => simp [hm2] at hi
      | some ob =>
        cases ob with
        | none => exact H.mem.dead i hm2
        | some blk => simp [hm2] at hi
  · rw [hget] at hi hj
    split at hi
    · cases hi
    · split at hj
      · cases hj
      · exact H.mem.inj i j b o o' hi hj
/-- .. with typed elements, all of them -/
theorem ok_freezeT {α : Type} {f : α → D} {k : List It} {s : XS} (id n : Nat) {es : Nat} {ys : List α} (hb : blkAt s.mem id = some (.arr es (ys.map f))) (hn : n = ys.length) (hl : s.lens id es n) (h : OK C k (s.frz id (ys.map f))) : OK C k s :=
  ok_freeze id n hb (by simp [hn]) hl (by rw [List.take_of_length_le (by simp [hn])]; exact h)
end
end Go.Proofs.Ytblmoikhfmkfnaa
