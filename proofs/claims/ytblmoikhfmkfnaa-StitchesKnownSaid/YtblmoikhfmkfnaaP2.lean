/- What a caller hands over, read as data: every argument of a supported type is a datum of that type. -/
import Derived.Test.YtblmoikhfmkfnaaP0
import Derived.OpenShut
namespace Go.Proofs.Ytblmoikhfmkfnaa
set_option linter.unusedSimpArgs false
set_option linter.unusedVariables false
open Go.ChangeShapes Go.WideShapes Go.ChangeAt Go.RowKit Go

section
variable (L : List (Option Row))
def hasFs (rec : Nat → D → Prop) : List (Nat × Nat) → List D → Prop
  | [], [] => True
  | (_, t) :: fs, d :: ds => rec t d ∧ hasFs rec fs ds
  | _, _ => False
/-- a datum of a type -/
def has : Nat → Nat → D → Prop
  | 0, _, _ => False
  | n + 1, t, x => match rowAt L t with
    | some r => match r.td with
      | .bool => ∃ b, x = .bool b
      | .int k => ∃ m, x = .int k m ∧ k.min ≤ m ∧ m ≤ k.max
      | .str => ∃ l : List UInt8, x = .str l ∧ l.length ≤ maxLen
      | .sl e => ∃ es xs, x = .sl es false xs ∧ xs.length ≤ maxLen ∧ (∀ y, y ∈ xs → has n e y) ∧ ((rowAt L e).map (·.size) = some es)
      | .struct fs => ∃ parts : List D, x = .agg (parts.flatMap dcells) ∧ hasFs (has n) fs parts
      | .arr m e => ∃ parts : List D, x = .agg (parts.flatMap dcells) ∧ parts.length = m ∧ ∀ y, y ∈ parts → has n e y
      | .other => False
    | none => False
def supFs (rec : Nat → Bool) (size : Nat) : Nat → List (Nat × Nat) → Bool
  | o, [] => Nat.beq o size
  | o, (o', t) :: fs => Nat.beq o' o && rec t && (match rowAt L t with
    | some r => supFs rec size (o + r.size) fs
    | none => false)
def sup : Nat → Nat → Bool
  | 0, _ => false
  | n + 1, t => match rowAt L t with
    | some r => match r.td with
      | .bool => true
      | .int _ => true
      | .str => true
      | .sl e => sup n e && (match rowAt L e with
        | some re => Nat.ble 1 re.size
        | none => false)
      | .struct fs => supFs L (sup n) r.size 0 fs
      | .arr m e => sup n e && (match rowAt L e with
        | some re => Nat.beq (m * re.size) r.size
        | none => false)
      | .other => false
    | none => false
end

section
variable {H : Type} {enc : TypeId × Value → H} {P : Program} {L : List (Option Row)} {w : World} {base : Nat}
theorem cellsOf_row (hL : LayOk P L) {t : Nat} {r : Row} (h : rowAt L t = some r) : P.cellsOf t = r.size := by
  obtain ⟨i, hi, hs, _⟩ := (hL t r h).info
  simp [Program.cellsOf, hi, hs]
theorem list_choose {α : Type} {Q : Nat → α → Prop} : ∀ (len : Nat), (∀ i, i < len → ∃ d, Q i d) → ∃ xs : List α, xs.length = len ∧ ∀ (i : Nat) d, xs[i]? = some d → Q i d
  | 0, _ => ⟨[], rfl, fun i d h => by simp at h⟩
  | len + 1, h => by
    obtain ⟨xs, h1, h2⟩ := list_choose len fun i hi => h i (by omega)
    obtain ⟨d, hd⟩ := h len (by omega)
    refine ⟨xs ++ [d], by simp [h1], fun i y hy => ?_⟩
    rcases Nat.lt_or_ge i len with h3 | h3
    · rw [List.getElem?_append_left (by omega)] at hy; exact h2 i y hy
    · rw [List.getElem?_append_right (by omega)] at hy
      have : i = len := by
        rcases Nat.eq_or_lt_of_le h3 with h4 | h4
        · exact h4.symm
        · rw [List.getElem?_eq_none (by simp; omega)] at hy; cases hy
      subst this
      simp only [h1, Nat.sub_self, List.getElem?_cons_zero, Option.some.injEq] at hy
      subst hy; exact hd
theorem elem_rep {S : Nat → Prop} {d : D} {cs : List Value} (h : D.repL w S (dcells d) cs) : ∃ x, D.rep w S d x ∧ x.cells.toList = cs := by
  have single : (dcells d = [d]) → ∃ x, D.rep w S d x ∧ x.cells.toList = cs := fun e => by
    rw [e] at h
    obtain ⟨y, ys, rfl, h1, h2, h3⟩ := h
    simp only [D.repL] at h3; subst h3
    exact ⟨y, h1, by cases y <;> first | rfl | cases h2⟩
  cases d with
  | agg ds => exact ⟨.agg cs.toArray, ⟨cs, rfl, h⟩, rfl⟩
  | _ => exact single rfl
abbrev allS (w : World) : Nat → Prop := fun b => b < w.heap.size
theorem fields_decode (hL : LayOk P L) {rec : Nat → Bool} {hs : Nat → D → Prop} {size : Nat} {cs : List Value} (hlen : cs.length = size) :
    ∀ (fs : List (Nat × Nat)) (o : Nat), supFs L rec size o fs = true → (∀ p, p ∈ fs → rec p.2 = true → ∃ d : D, hs p.2 d ∧ D.repL w (allS w) (dcells d) ((cs.drop p.1).take (P.cellsOf p.2))) →
      ∃ parts : List D, hasFs hs fs parts ∧ D.repL w (allS w) (parts.flatMap dcells) (cs.drop o)
  | [], o, h, _ => by
    have : o = size := Nat.eq_of_beq_eq_true h
    exact ⟨[], trivial, by rw [List.drop_eq_nil_of_le (by omega)]; rfl⟩
  | (o', t) :: fs, o, h, hd => by
    simp only [supFs, Bool.and_eq_true] at h
    obtain ⟨⟨h1, h2⟩, h3⟩ := h
    have : o' = o := Nat.eq_of_beq_eq_true h1
    subst this
    split at h3
    · rename_i r hr
      obtain ⟨d, h4, h5⟩ := hd (o', t) (by simp) h2
      obtain ⟨parts, h6, h7⟩ := fields_decode hL hlen fs _ h3 (fun p hp => hd p (List.mem_cons_of_mem _ hp))
      rw [cellsOf_row hL hr] at h5
      refine ⟨d :: parts, ⟨h4, h6⟩, ?_⟩
      have := D.repL_append h5 h7
      rw [← List.drop_drop, List.take_append_drop] at this
      simpa using this
    · cases h3
theorem arr_decode {hs : D → Prop} {k : Nat} {cs : List Value} : ∀ (m o : Nat), cs.length = o + m * k → (∀ i, i < m → ∃ d : D, hs d ∧ D.repL w (allS w) (dcells d) ((cs.drop (o + i * k)).take k)) →
      ∃ parts : List D, parts.length = m ∧ (∀ y, y ∈ parts → hs y) ∧ D.repL w (allS w) (parts.flatMap dcells) (cs.drop o)
  | 0, o, hl, _ => ⟨[], rfl, fun y hy => by simp at hy, by rw [List.drop_eq_nil_of_le (by omega)]; rfl⟩
  | m + 1, o, hl, hd => by
    obtain ⟨d, h4, h5⟩ := hd 0 (by omega)
    have e : (m + 1) * k = m * k + k := Nat.succ_mul m k
    obtain ⟨parts, h6, h7, h8⟩ := arr_decode (hs := hs) (k := k) (cs := cs) m (o + k) (by omega) (fun i hi => by
      have := hd (i + 1) (by omega)
      rwa [show o + (i + 1) * k = o + k + i * k by rw [Nat.succ_mul]; omega] at this)
    simp only [Nat.zero_mul, Nat.add_zero] at h5
    refine ⟨d :: parts, by simp [h6], fun y hy => ?_, ?_⟩
    · rcases List.mem_cons.1 hy with rfl | hy
      · exact h4
      · exact h7 y hy
    · have := D.repL_append h5 h8
      rw [← List.drop_drop, List.take_append_drop] at this
      simpa using this
theorem decode (hL : LayOk P L) : ∀ (n t : Nat) (fuel : Nat) (cs : List Value) (x : DataW H × List MemPlace), sup L n t = true → DataW.trod enc P w base (fun _ => true) true fuel t cs = some x →
    ∃ d : D, has L n t d ∧ D.repL w (allS w) (dcells d) cs := by
  intro n
  induction n with
  | zero => intro t fuel cs x h; cases h
  | succ n ih =>
    intro t fuel cs x hs h
    simp only [sup] at hs
    split at hs
    · rename_i r hr
      obtain ⟨dsc, hd, htd⟩ := (hL t r hr).und
      split at hs
      · rename_i hrt
        rw [hrt] at htd; simp only [tdOk] at htd; subst htd
        obtain ⟨b, rfl, _⟩ := DataW.trod_bool hd h
        exact ⟨.bool b, by simp only [has, hr, hrt]; exact ⟨b, rfl⟩, ⟨_, _, rfl, rfl, rfl, rfl⟩⟩
      · rename_i k hrt
        rw [hrt] at htd; simp only [tdOk] at htd; subst htd
        obtain ⟨m, rfl, _, hw⟩ := DataW.trod_int hd h
        exact ⟨.int k m, by simp only [has, hr, hrt]; exact ⟨m, rfl, by simpa [Lit.wf] using hw⟩, ⟨_, _, rfl, rfl, rfl, rfl⟩⟩
      · rename_i hrt
        rw [hrt] at htd; simp only [tdOk] at htd; subst htd
        obtain ⟨s, rfl, _, hw⟩ := DataW.trod_string hd h
        have hlen : s.data.toList.length = s.size := Array.length_toList
        refine ⟨.str s.data.toList, ?_, ⟨_, _, rfl, ?_, rfl, rfl⟩⟩
        · simp only [has, hr, hrt]; exact ⟨_, rfl, hlen ▸ hw⟩
        · simp only [D.rep]
      · rename_i e hrt
        rw [hrt] at htd; simp only [tdOk] at htd; subst htd
        simp only [Bool.and_eq_true] at hs
        obtain ⟨hse, hre⟩ := hs
        split at hre
        · rename_i re her
          have hsz := cellsOf_row hL her
          have h1 : 1 ≤ re.size := Nat.ble_eq.mp hre
          have hno : ∀ a0, D.rep w (allS w) (.sl re.size false []) (.slice a0 0 0) := fun a0 => .inl ⟨rfl, a0, rfl⟩
          rcases DataW.trod_slice hd h with ⟨rfl, _⟩ | ⟨a, len, cap, elems, rest, fuel', _, rfl, _, hb, hlc, hcm, hel, hget, hsp, _⟩
          · exact ⟨.sl re.size false [], by simp only [has, hr, hrt]; exact ⟨re.size, [], rfl, Nat.zero_le _, fun y hy => by simp at hy, by simp [her]⟩, ⟨_, _, rfl, hno none, rfl, rfl⟩⟩
          · -- the elements, one by one
            have each : ∀ i, i < cap → ∃ cs', w.cells? base (a.add (i * re.size)) re.size = some cs' ∧ ∃ d : D, has L n e d ∧ D.repL w (allS w) (dcells d) cs' := by
              intro i hi
              have key : ∃ z, (w.cells? base (a.add (i * P.cellsOf e)) (P.cellsOf e)).bind (DataW.trod enc P w base (fun _ => true) true fuel' e) = some z := by
                rcases Nat.lt_or_ge i len with h2 | h2
                · exact ⟨_, (hget i h2).trans (List.getElem?_eq_getElem (by omega))⟩
                · obtain ⟨k1, k2⟩ := hsp rfl
                  have := k2 (i - len) (by omega)
                  rw [show len + (i - len) = i by omega] at this
                  exact ⟨_, this.trans (List.getElem?_eq_getElem (by omega))⟩
              obtain ⟨z, hz⟩ := key
              rw [hsz] at hz
              cases hc : w.cells? base (a.add (i * re.size)) re.size with
              | none => rw [hc] at hz; cases hz
              | some cs' => rw [hc] at hz; exact ⟨cs', rfl, ih e fuel' cs' z hse hz⟩
            rcases Nat.eq_zero_or_pos cap with hc0 | hc0
            · have hl0 : len = 0 := by omega
              subst hc0 hl0
              exact ⟨.sl re.size false [], by simp only [has, hr, hrt]; exact ⟨re.size, [], rfl, Nat.zero_le _, fun y hy => by simp at hy, by simp [her]⟩, ⟨_, _, rfl, hno (some a), rfl, rfl⟩⟩
            · obtain ⟨cs0, hc0', _⟩ := each 0 hc0
              have cellOf : ∀ i cs', w.cells? base (a.add (i * re.size)) re.size = some cs' → cs'.length = re.size ∧ ∀ j, j < re.size → w.cell? ((a.add (i * re.size)).add j) = cs'[j]? := fun i cs' hcs => by
                obtain ⟨_, k2, k3⟩ := World.cells?_some hcs
                exact ⟨k2, fun j hj => by have := k3 j (by omega); simpa using this⟩
              obtain ⟨k1, k2⟩ := cellOf 0 cs0 hc0'
              have k3 := k2 0 (by omega)
              rw [List.getElem?_eq_getElem (by omega)] at k3
              simp only [Nat.zero_mul] at k3
              have hspot : a.spot = none ∧ a.block < w.heap.size := by
                have e0 : (a.add 0).add 0 = a := by simp [Addr.add]
                rw [e0] at k3
                unfold World.cell? at k3
                split at k3
                · rename_i hb'
                  split at k3
                  · cases k3
                  · rename_i hsp'
                    exact ⟨by simpa using hsp', (Array.getElem?_eq_some_iff.1 hb').1⟩
                · cases k3
              obtain ⟨ab, ao, asp⟩ := a
              obtain ⟨rfl, hblk⟩ := hspot
              obtain ⟨xs, hxl, hxs⟩ := list_choose (Q := fun i d => has L n e d ∧ ∃ v, D.rep w (allS w) d v ∧ v.cells.size = re.size ∧ Cells w ab (ao + i * re.size) v.cells.toList) len fun i hi => by
                obtain ⟨cs', h2, d, h3, h4⟩ := each i (by omega)
                obtain ⟨h5, h6⟩ := cellOf i cs' h2
                obtain ⟨v, h7, h8⟩ := elem_rep h4
                refine ⟨d, h3, v, h7, by rw [← h5, ← h8]; simp, fun j u hj => ?_⟩
                rw [h8] at hj
                have hjl : j < re.size := by rw [← h5]; exact (List.getElem?_eq_some_iff.1 hj).1
                have := h6 j hjl
                rw [addr_add, addr_add] at this
                rw [this]; exact hj
              have hmem : ∀ y, y ∈ xs → has L n e y := fun y hy => by
                obtain ⟨i, hi⟩ := List.getElem?_of_mem hy
                exact (hxs i y hi).1
              have hrep : D.rep w (allS w) (.sl re.size false xs) (.slice (some ⟨ab, ao, none⟩) len cap) :=
                .inr ⟨ab, ao, cap, by rw [hxl], by omega, hcm, fun hh => (by cases hh), hblk, hblk, D.repE_of_get fun i d hi => (hxs i d hi).2⟩
              exact ⟨.sl re.size false xs, by simp only [has, hr, hrt]; exact ⟨re.size, xs, rfl, by omega, hmem, by simp [her]⟩, ⟨_, _, rfl, hrep, rfl, rfl⟩⟩
        · cases hre
      · rename_i fs hrt
        rw [hrt] at htd
        obtain ⟨fields, rfl, hfm⟩ := htd
        obtain ⟨xs, fuel', _, _, hlen, hxl, hg⟩ := DataW.trod_struct hd h
        rw [cellsOf_row hL hr] at hlen
        obtain ⟨parts, h1, h2⟩ := fields_decode (w := w) (hs := has L n) hL hlen fs 0 hs (fun p hp hsp => by
          rw [← hfm] at hp
          obtain ⟨f, hf, rfl⟩ := List.mem_map.1 hp
          obtain ⟨i, hi⟩ := List.getElem?_of_mem hf
          have hi' : fields[i]? = some f := by simpa using hi
          have hg' := hg i f hi'
          have hil : i < xs.length := by rw [hxl]; exact (Array.getElem?_eq_some_iff.1 hi').1
          rw [List.getElem?_eq_getElem hil] at hg'
          exact ih f.type fuel' _ _ hsp hg')
        exact ⟨.agg (parts.flatMap dcells), by simp only [has, hr, hrt]; exact ⟨parts, rfl, h1⟩, by simpa [dcells] using h2⟩
      · rename_i m e hrt
        rw [hrt] at htd; simp only [tdOk] at htd; subst htd
        simp only [Bool.and_eq_true] at hs
        obtain ⟨hse, hre⟩ := hs
        split at hre
        · rename_i re her
          obtain ⟨xs, fuel', _, _, hlen, hxl, hg⟩ := DataW.trod_array hd h
          rw [cellsOf_row hL hr, ← Nat.eq_of_beq_eq_true hre] at hlen
          obtain ⟨parts, h1, h2, h3⟩ := arr_decode (w := w) (hs := has L n e) (k := re.size) (cs := cs) m 0 (by omega) (fun i hi => by
            have hg' := hg i hi
            rw [List.getElem?_eq_getElem (by omega), cellsOf_row hL her] at hg'
            rw [Nat.zero_add]
            exact ih e fuel' _ _ hse hg')
          exact ⟨.agg (parts.flatMap dcells), by simp only [has, hr, hrt]; exact ⟨parts, rfl, h1, h2⟩, by simpa [dcells] using h3⟩
        · cases hre
      · cases hs
    · cases hs
end
end Go.Proofs.Ytblmoikhfmkfnaa
