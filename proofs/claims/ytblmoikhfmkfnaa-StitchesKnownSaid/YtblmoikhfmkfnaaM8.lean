/- The abstract machine, 8: operations that make or write memory. -/
import Derived.Test.YtblmoikhfmkfnaaM7
namespace Go.Proofs.Ytblmoikhfmkfnaa
set_option linter.unusedSimpArgs false
set_option linter.unusedVariables false
open Go.RowKit Go

/-- what data may lie in: what the call was handed (S0) or what is new (from n0 on), but not the call's own blocks -/
def SS (S0 : Nat → Prop) (n0 : Nat) (φ : Phi) : Nat → Prop := fun b => (S0 b ∨ n0 ≤ b) ∧ ¬ φ.has b

section
variable {P : Program} {L : List (Option Row)} {w : World} {S0 : Nat → Prop} {n0 : Nat} {φ : Phi} {s : XS} {a : Act}

/-- elements that are data, as one row of cells -/
def D.repF (w : World) (S : Nat → Prop) (es : Nat) : List D → List Value → Prop
  | [], cs => cs = []
  | d :: ds, cs => ∃ (v : Value) (rest : List Value), cs = v.cells.toList ++ rest ∧ D.rep w S d v ∧ v.cells.size = es ∧ D.repF w S es ds rest
theorem D.repF_length {S : Nat → Prop} {es : Nat} : ∀ {ds : List D} {cs : List Value}, D.repF w S es ds cs → cs.length = ds.length * es
  | [], _, h => by simp only [D.repF] at h; subst h; simp
  | d :: ds, _, ⟨v, rest, e, _, h2, h3⟩ => by
    subst e
    have := D.repF_length h3
    simp only [List.length_append, Array.length_toList, h2, this, List.length_cons]
    rw [Nat.add_mul]; omega
theorem Cells.append {b o : Nat} {xs ys : List Value} : Cells w b o (xs ++ ys) ↔ Cells w b o xs ∧ Cells w b (o + xs.length) ys := by
  constructor
  · intro h
    refine ⟨fun j v hj => h j v ?_, fun j v hj => ?_⟩
    · rw [List.getElem?_append_left]
      · exact hj
      · exact (List.getElem?_eq_some_iff.1 hj).1
    · have := h (xs.length + j) v (by rw [List.getElem?_append_right (by omega)]; simpa using hj)
      rwa [← Nat.add_assoc] at this
  · rintro ⟨h1, h2⟩ j v hj
    by_cases hlt : j < xs.length
    · exact h1 j v (by rwa [List.getElem?_append_left hlt] at hj)
    · have := h2 (j - xs.length) v (by rwa [List.getElem?_append_right (by omega)] at hj)
      rwa [show o + xs.length + (j - xs.length) = o + j from by omega] at this
theorem cells_of {b o : Nat} {v : Value} {es : Nat} (hv : v.cells.size = es) : (∀ j, j < es → w.cell? ⟨b, o + j, none⟩ = v.cells[j]?) ↔ Cells w b o v.cells.toList := by
  constructor
  · intro h j u hj
    have hlt : j < v.cells.size := by simpa using (List.getElem?_eq_some_iff.1 hj).1
    rw [h j (by omega)]; simpa using hj
  · intro h j hj
    have hlt : j < v.cells.size := by omega
    have := h j (v.cells[j]) (by simp [hlt])
    rw [this]; simp [hlt]
theorem D.repE_iff {S : Nat → Prop} {es b : Nat} : ∀ {ds : List D} {o : Nat}, D.repE w S es b ds o ↔ ∃ cs, D.repF w S es ds cs ∧ Cells w b o cs
  | [], o => ⟨fun _ => ⟨[], rfl, fun j v hj => by simp at hj⟩, fun _ => trivial⟩
  | d :: ds, o => by
    constructor
    · rintro ⟨⟨v, h1, h2, h3⟩, h4⟩
      obtain ⟨cs, h5, h6⟩ := D.repE_iff.1 h4
      refine ⟨v.cells.toList ++ cs, ⟨v, cs, rfl, h1, h2, h5⟩, Cells.append.2 ⟨(cells_of h2).1 h3, ?_⟩⟩
      simpa [h2] using h6
    · rintro ⟨cs, ⟨v, rest, rfl, h1, h2, h3⟩, h4⟩
      obtain ⟨h5, h6⟩ := Cells.append.1 h4
      refine ⟨⟨v, h1, h2, (cells_of h2).2 h5⟩, D.repE_iff.2 ⟨rest, h3, ?_⟩⟩
      simpa [h2] using h6
theorem D.repF_append {S : Nat → Prop} {es : Nat} : ∀ {xs ys : List D} {cs ds : List Value}, D.repF w S es xs cs → D.repF w S es ys ds → D.repF w S es (xs ++ ys) (cs ++ ds)
  | [], _, _, _, h, k => by simp only [D.repF] at h; subst h; exact k
  | x :: xs, ys, _, ds, ⟨v, rest, e, h1, h2, h3⟩, k => ⟨v, rest ++ ds, by rw [e, List.append_assoc], h1, h2, D.repF_append h3 k⟩
theorem D.repF_take {S : Nat → Prop} {es : Nat} (n : Nat) : ∀ {xs : List D} {cs : List Value}, D.repF w S es xs cs → D.repF w S es (xs.take n) (cs.take (n * es)) := by
  induction n with
  | zero => intro xs cs _; simp [D.repF]
  | succ n ih =>
    intro xs cs h
    cases xs with
    | nil => simp only [D.repF] at h; subst h; simp [D.repF]
    | cons x xs =>
      obtain ⟨v, rest, rfl, h1, h2, h3⟩ := h
      refine ⟨v, rest.take (n * es), ?_, h1, h2, ih h3⟩
      have e : (n + 1) * es = v.cells.toList.length + n * es := by simp [h2, Nat.add_mul]; omega
      rw [e, List.take_append, List.take_of_length_le (by omega)]
      congr 2
      omega
theorem D.repF_drop {S : Nat → Prop} {es : Nat} (n : Nat) : ∀ {xs : List D} {cs : List Value}, D.repF w S es xs cs → D.repF w S es (xs.drop n) (cs.drop (n * es)) := by
  induction n with
  | zero => intro xs cs h; simpa using h
  | succ n ih =>
    intro xs cs h
    cases xs with
    | nil => simp only [D.repF] at h; subst h; simp [D.repF]
    | cons x xs =>
      obtain ⟨v, rest, rfl, h1, h2, h3⟩ := h
      have e : (n + 1) * es = v.cells.toList.length + n * es := by simp [h2, Nat.add_mul]; omega
      have e2 : (v.cells.toList ++ rest).drop (v.cells.toList.length + n * es) = rest.drop (n * es) := by
        rw [List.drop_append, List.drop_eq_nil_of_le (by omega), List.nil_append, Nat.add_sub_cancel_left]
      rw [e, e2]
      exact ih h3
theorem D.repF_mono {S : Nat → Prop} {es : Nat} {w' : World} {S' : Nat → Prop} (H : Carry w S w' S') : ∀ {xs : List D} {cs : List Value}, D.repF w S es xs cs → D.repF w' S' es xs cs
  | [], _, h => h
  | _ :: _, _, ⟨v, rest, e, h1, h2, h3⟩ => ⟨v, rest, e, D.rep_mono H _ _ h1, h2, D.repF_mono H h3⟩

/-! ### A new block -/
theorem phi_append {φ : Phi} {x : Option (Nat × Nat)} {id : Nat} : (φ ++ [x])[id]? = if id < φ.length then φ[id]? else if id = φ.length then some x else none := by
  by_cases h : id < φ.length
  · rw [List.getElem?_append_left h, if_pos h]
  · simp only [h, if_false]
    by_cases h2 : id = φ.length
    · subst h2; simp
    · simp only [h2, if_false]
      rw [List.getElem?_eq_none]; simp; omega
theorem has_append {φ : Phi} {b n o : Nat} : Phi.has (φ ++ [some (n, o)]) b ↔ φ.has b ∨ b = n := by
  constructor
  · rintro ⟨id, o', h⟩
    rw [phi_append] at h
    split at h
    · exact .inl ⟨id, o', h⟩
    · split at h
      · simp only [Option.some.injEq, Prod.mk.injEq] at h; exact .inr h.1.symm
      · cases h
  · rintro (⟨id, o', h⟩ | rfl)
    · refine ⟨id, o', ?_⟩
      rw [phi_append, if_pos (List.getElem?_eq_some_iff.1 h).1]; exact h
    · exact ⟨φ.length, o, by simp⟩
/-- the call's own blocks lie in the heap -/
theorem MemRel.lt {S : Nat → Prop} {mem : List (Option Blk)} (H : MemRel w S φ mem) {b : Nat} (h : φ.has b) : b < w.heap.size ∧ ¬ S b := by
  obtain ⟨id, o, h⟩ := h
  have hid : id < mem.length := by rw [← H.len]; exact (List.getElem?_eq_some_iff.1 h).1
  cases hm : mem[id]? with
  | none => rw [List.getElem?_eq_none_iff] at hm; omega
  | some x =>
    cases x with
    | none => rw [H.dead id hm] at h; cases h
    | some blk =>
      rcases H.ent id blk hm with ⟨h0, _⟩ | ⟨b', o', h0, h1, h2, _⟩
      · rw [h0] at h; cases h
      · rw [h0] at h
        simp only [Option.some.injEq, Prod.mk.injEq] at h
        obtain ⟨rfl, rfl⟩ := h
        exact ⟨h2, h1⟩

theorem heap_alloc (w : World) (o : Obj) (b : Nat) (h : b < w.heap.size) : (w.alloc o).heap[b]? = w.heap[b]? := Below.heap_alloc w o b h
theorem heap_alloc_at (w : World) (o : Obj) : (w.alloc o).heap[w.heap.size]? = some o := heap_alloc_new w o

theorem carry_alloc (hn : n0 ≤ w.heap.size) (H : MemRel w (SS S0 n0 φ) φ s.mem) (o : Obj) (k : Nat) :
    CarryV w (SS S0 n0 φ) φ (w.alloc o) (SS S0 n0 (φ ++ [some (w.heap.size, k)])) (φ ++ [some (w.heap.size, k)]) where
  sub b hb hlt := ⟨hb.1, fun hh => by
    rcases has_append.1 hh with h | h
    · exact hb.2 h
    · omega⟩
  same b _ hlt := heap_alloc w o b hlt
  size := by simp
  phi id b o' h := by rw [phi_append, if_pos (List.getElem?_eq_some_iff.1 h).1]; exact h
  rows id b o' cs T fz h hb := ⟨cs, T, fz, by rw [heap_alloc w o b (H.lt ⟨id, o', h⟩).1]; exact hb, Nat.le_refl _⟩

theorem frame_alloc (w : World) (φ : Phi) (o : Obj) (k : Nat) : FrameTo φ w (φ ++ [some (w.heap.size, k)]) (w.alloc o) :=
  ⟨rfl, rfl, rfl, by simp, fun b hb _ => heap_alloc w o b hb, fun b hb => by
    rcases has_append.1 hb with h | h
    · exact .inl h
    · exact .inr (by omega)⟩

theorem sim_alloc (hn : n0 ≤ w.heap.size) (H : Sim w (SS S0 n0 φ) φ s a) (cs : Array Value) (T : TypeId) (blk : Blk)
    (hb : Blk.rep (w.alloc (.cells cs T)) (SS S0 n0 (φ ++ [some (w.heap.size, 0)])) (φ ++ [some (w.heap.size, 0)]) blk w.heap.size 0) :
    Sim (w.alloc (.cells cs T)) (SS S0 n0 (φ ++ [some (w.heap.size, 0)])) (φ ++ [some (w.heap.size, 0)]) ⟨s.sl, s.mem ++ [some blk]⟩ a := by
  have C := carry_alloc (k := 0) hn H.mem (.cells cs T)
  refine ⟨fun i => V.rep_mono C _ _ (H.slots i), H.size, ?_, H.defers⟩
  have hl := H.mem.len
  refine ⟨by simp [hl], fun id b' hid => ?_, fun id hid => ?_, fun i j b o o' hi hj => ?_⟩
  · by_cases hlt : id < s.mem.length
    · rw [List.getElem?_append_left hlt] at hid
      rcases H.mem.ent id b' hid with ⟨h0, h1⟩ | ⟨b, o, h0, h1, h2, ⟨c, T', fz, h3, h4⟩, h5⟩
      · exact .inl ⟨by rw [phi_append, if_pos (by omega)]; exact h0, h1⟩
      · have hsame : (w.alloc (.cells cs T)).heap[b]? = w.heap[b]? := heap_alloc _ _ _ h2
        refine .inr ⟨b, o, C.phi _ _ _ h0, fun hh => hh.2 (has_append.2 (.inl ⟨id, o, h0⟩)), by simp; omega, ⟨c, T', fz, by rw [hsame]; exact h3, h4⟩, Blk.rep_mono C hsame h5⟩
    · rw [List.getElem?_append_right (by omega)] at hid
      have hid0 : id = s.mem.length := by
        have := (List.getElem?_eq_some_iff.1 hid).1
        simp at this; omega
      subst hid0
      simp only [Nat.sub_self, List.getElem?_cons_zero, Option.some.injEq] at hid
      subst hid
      refine .inr ⟨w.heap.size, 0, by rw [phi_append, if_neg (by omega), if_pos (by omega)], fun hh => hh.2 (has_append.2 (.inr rfl)), by simp, ⟨cs, T, (0, 0), heap_alloc_at _ _, fun i _ => by omega⟩, hb⟩
  · by_cases hlt : id < s.mem.length
    · rw [List.getElem?_append_left hlt] at hid
      rw [phi_append, if_pos (by omega)]
      exact H.mem.dead id hid
    · rw [List.getElem?_append_right (by omega)] at hid
      cases hk : id - s.mem.length with
      | zero => rw [hk] at hid; simp at hid
      | succ k => rw [hk] at hid; simp at hid
  · rw [phi_append] at hi hj
    have key : ∀ (i : Nat) (b o : Nat), (if i < φ.length then φ[i]? else if i = φ.length then some (some (w.heap.size, 0)) else none) = some (some (b, o)) → (i < φ.length ∧ φ[i]? = some (some (b, o)) ∧ b < w.heap.size) ∨ (i = φ.length ∧ b = w.heap.size) := by
      intro i b o h
      split at h
      · rename_i hlt; exact .inl ⟨hlt, h, (H.mem.lt ⟨i, o, h⟩).1⟩
      · split at h
        · rename_i he; simp only [Option.some.injEq, Prod.mk.injEq] at h; exact .inr ⟨he, h.1.symm⟩
        · cases h
    rcases key i b o hi with ⟨_, h1, h2⟩ | ⟨h1, h2⟩ <;> rcases key j b o' hj with ⟨_, h3, h4⟩ | ⟨h3, h4⟩
    · exact H.mem.inj i j b o o' h1 h3
    · omega
    · omega
    · omega

theorem cell_new (w : World) (cs : Array Value) (T : TypeId) (j : Nat) : (w.alloc (.cells cs T)).cell? ⟨w.heap.size, j, none⟩ = cs[j]? := by
  simp only [World.cell?, heap_alloc_at]; simp

/-- a new box over cells that are read in the old world -/
theorem box_new (hn : n0 ≤ w.heap.size) (H : Sim w (SS S0 n0 φ) φ s a) {cells : List V} {xs : List Value} (h : V.repL w (SS S0 n0 φ) φ cells xs) (T : TypeId) :
    Blk.rep (w.alloc (.cells xs.toArray T)) (SS S0 n0 (φ ++ [some (w.heap.size, 0)])) (φ ++ [some (w.heap.size, 0)]) (.box cells) w.heap.size 0 := by
  have C := carry_alloc (k := 0) hn H.mem (.cells xs.toArray T)
  intro j x hj
  obtain ⟨y, h1, h2, h3⟩ := ((V.repL_iff _ _).1 h).2 j x hj
  exact ⟨y, by rw [cell_new, Nat.zero_add]; simpa using h1, h3, V.rep_mono C _ _ h2⟩
/-- a new array -/
theorem arr_new (hn : n0 ≤ w.heap.size) (H : Sim w (SS S0 n0 φ) φ s a) {es : Nat} {ds : List D} {xs rest : List Value} (h : D.repF w (SS S0 n0 φ) es ds xs) (T : TypeId) :
    Blk.rep (w.alloc (.cells (xs ++ rest).toArray T)) (SS S0 n0 (φ ++ [some (w.heap.size, 0)])) (φ ++ [some (w.heap.size, 0)]) (.arr es ds) w.heap.size 0 := by
  have C := carry_alloc (k := 0) hn H.mem (.cells (xs ++ rest).toArray T)
  refine D.repE_iff.2 ⟨xs, D.repF_mono C.toCarry h, fun j v hj => ?_⟩
  rw [cell_new, Nat.zero_add]
  have hlt := (List.getElem?_eq_some_iff.1 hj).1
  simp only [List.getElem?_toArray]
  rw [List.getElem?_append_left hlt]; exact hj
end
end Go.Proofs.Ytblmoikhfmkfnaa
