/- The abstract machine, 20: states with less in them, and loops. -/
import Derived.Test.YtblmoikhfmkfnaaM19
namespace Go.Proofs.Ytblmoikhfmkfnaa
set_option linter.unusedSimpArgs false
set_option linter.unusedVariables false
open Go.RowKit Go

/-- only the slots of the list are kept -/
def keepL (ks : List Nat) : Nat → List V → List V
  | _, [] => []
  | i, x :: r => (match ks.contains i with
    | true => x
    | false => .undef) :: keepL ks (i + 1) r
def XS.keep (ks : List Nat) (s : XS) : XS := ⟨keepL ks 0 s.sl, s.mem⟩
def trailing (n : Nat) (s : XS) : XS := ⟨s.sl, s.mem.take n⟩
/-- only those slots, and the first n blocks of the call's own -/
def XS.cut (ks : List Nat) (n : Nat) (s : XS) : XS := trailing n (dropIds (List.range' n (s.mem.length - n)) (s.keep ks))
/-- a state that says no more than s -/
def Le (s s0 : XS) : Prop := ∃ ks n, s.cut ks n = s0

theorem keepL_get (ks : List Nat) : ∀ (l : List V) (i j : Nat), getV (keepL ks i l) j = getV l j ∨ getV (keepL ks i l) j = .undef
  | [], i, j => .inl rfl
  | x :: r, i, 0 => by
    simp only [keepL, getV]
    split
    · exact .inl rfl
    · exact .inr rfl
  | x :: r, i, j + 1 => keepL_get ks r (i + 1) j
theorem keepL_length (ks : List Nat) : ∀ (l : List V) (i : Nat), (keepL ks i l).length = l.length
  | [], _ => rfl
  | x :: r, i => by simp [keepL, keepL_length ks r]
theorem dropIds_mem : ∀ (ids : List Nat) (s : XS) (i : Nat), i ∈ ids → i < s.mem.length → (dropIds ids s).mem[i]? = some none
  | [], s, i, h, _ => by simp at h
  | id :: ids, s, i, h, hlt => by
    have hl : (dropId id s).mem.length = s.mem.length := by simp [dropId, killMem_length]
    simp only [dropIds]
    by_cases hi : i ∈ ids
    · exact dropIds_mem ids _ i hi (by rw [hl]; exact hlt)
    · have he : i = id := by simpa [hi] using h
      subst he
      have h0 : (dropId i s).mem[i]? = some none := by
        simp only [dropId]
        rw [List.getElem?_set_self (by rw [killMem_length]; exact hlt)]
      clear h hl hlt
      revert h0
      generalize dropId i s = s'
      induction ids generalizing s' with
      | nil => exact fun h => h
      | cons j js ih =>
        intro h0
        refine ih (fun h => hi (List.mem_cons_of_mem _ h)) _ ?_
        have hne : i ≠ j := fun e => hi (by simp [e])
        simp only [dropId]
        rw [List.getElem?_set_ne (Ne.symm hne), killMem_get, h0]; rfl
theorem dropIds_mlen : ∀ (ids : List Nat) (s : XS), (dropIds ids s).mem.length = s.mem.length
  | [], s => rfl
  | id :: ids, s => by simp only [dropIds]; rw [dropIds_mlen ids]; simp [dropId, killMem_length]

section
variable {P : Program} {L : List (Option Row)} {C : Cx P L}
theorem sim_keep {w : World} {S : Nat → Prop} {φ : Phi} {s : XS} {a : Act} (ks : List Nat) (H : Sim w S φ s a) : Sim w S φ (s.keep ks) a :=
  ⟨fun i => by
    rcases keepL_get ks s.sl 0 i with h | h
    · show V.rep w S φ (getV (keepL ks 0 s.sl) i) _
      rw [h]; exact H.slots i
    · show V.rep w S φ (getV (keepL ks 0 s.sl) i) _
      rw [h]; trivial, by simp [XS.keep, keepL_length, H.size], H.mem, H.defers⟩
theorem sim_trailing {w : World} {S0 : Nat → Prop} {n0 : Nat} {φ : Phi} {s : XS} {a : Act} (n : Nat) (hd : ∀ i, n ≤ i → i < s.mem.length → s.mem[i]? = some none) (H : Sim w (SS S0 n0 φ) φ s a) :
    Sim w (SS S0 n0 (φ.take n)) (φ.take n) (trailing n s) a ∧ ∀ b, Phi.has (φ.take n) b → φ.has b := by
  have hget : ∀ (i b o : Nat), φ[i]? = some (some (b, o)) → i < n := fun i b o h => by
    rcases Nat.lt_or_ge i n with h1 | h1
    · exact h1
    · have hlt : i < s.mem.length := by rw [← H.mem.len]; exact (List.getElem?_eq_some_iff.1 h).1
      have := H.mem.dead i (hd i h1 hlt)
      rw [this] at h; cases h
  have hback : ∀ b, Phi.has (φ.take n) b → φ.has b := fun b ⟨i, o, h⟩ => by
    rw [List.getElem?_take] at h
    split at h
    · exact ⟨i, o, h⟩
    · cases h
  have CV : CarryV w (SS S0 n0 φ) φ w (SS S0 n0 (φ.take n)) (φ.take n) :=
    ⟨⟨fun b hb _ => ⟨hb.1, fun hh => hb.2 (hback b hh)⟩, fun _ _ _ => rfl, Nat.le_refl _⟩, fun i b o h => by rw [List.getElem?_take, if_pos (hget i b o h)]; exact h, fun i b o c T f _ h => ⟨c, T, f, h, Nat.le_refl _⟩⟩
  refine ⟨⟨fun i => V.rep_mono CV _ _ (H.slots i), H.size, ⟨by simp [trailing, H.mem.len], fun i bk hi => ?_, fun i hi => ?_, fun i j b o o' hi hj => ?_⟩, H.defers⟩, hback⟩
  · simp only [trailing, List.getElem?_take] at hi
    split at hi
    · rename_i hin
      rcases H.mem.ent i bk hi with ⟨h0, es', h1⟩ | ⟨b, o, h0, h1, h2, h3, h4⟩
      · subst h1; exact .inl ⟨by rw [List.getElem?_take, if_pos hin]; exact h0, es', rfl⟩
      · exact .inr ⟨b, o, CV.phi _ _ _ h0, fun hh => hh.2 ⟨i, o, CV.phi _ _ _ h0⟩, h2, h3, Blk.rep_mono CV rfl h4⟩
    · cases hi
  · simp only [trailing, List.getElem?_take] at hi
    split at hi
    · rename_i hin
      rw [List.getElem?_take, if_pos hin]; exact H.mem.dead i hi
    · cases hi
  · rw [List.getElem?_take] at hi hj
    split at hi
    · split at hj
      · exact H.mem.inj i j b o o' hi hj
      · cases hj
    · cases hi
theorem Good.le {S0 : Nat → Prop} {w0 : World} {φ0 : Phi} {s s0 : XS} {φ : Phi} {a : Act} {w : World} (hle : Le s s0) (hg : Good S0 w0 φ0 s φ a w) : ∃ φ', Good S0 w0 φ0 s0 φ' a w := by
  obtain ⟨ks, n, rfl⟩ := hle
  obtain ⟨φ2, h1, h2, _⟩ := sim_drops (List.range' n (s.mem.length - n)) φ _ (sim_keep ks hg.sim)
  obtain ⟨h3, h4⟩ := sim_trailing n (fun i hi hlt => by
    rw [dropIds_mlen] at hlt
    have hlt : i < s.mem.length := hlt
    exact dropIds_mem _ _ i (List.mem_range'_1.2 ⟨hi, by omega⟩) hlt) h1
  exact ⟨_, h3, hg.frame.trans ⟨rfl, rfl, rfl, Nat.le_refl _, fun _ _ _ => rfl, fun b hb => .inl (h2 b (h4 b hb))⟩⟩
theorem Le.ok {k : List It} {s s0 : XS} (hle : Le s s0) (h : OK C k s0) : OK C k s := fun _ a w hg =>
  let ⟨φ', hg'⟩ := hg.le hle
  h φ' a w hg'
/-- some of a state's slots; the others are not told -/
def slots : Nat → Nat → List (Nat × V) → List V
  | _, 0, _ => []
  | i, m + 1, l => (match l.find? (fun p => Nat.beq p.1 i) with
    | some p => p.2
    | none => .undef) :: slots (i + 1) m l
def sts (m : Nat) (l : List (Nat × V)) (mem : List (Option Blk)) : XS := ⟨slots 0 m l, mem⟩
/-- A loop. Its states at the head: st of an index; the measure falls from round to round. -/
theorem ok_loopX {ι : Type} {body : Code} {k : List It} {s : XS} (st : ι → XS) (Inv : ι → Prop) (μ : ι → Nat) (i0 : ι) (hle : Le s (st i0)) (h0 : Inv i0)
    (h : ∀ i, Inv i → OK C (.code body :: .pause (fun s2 => ∃ j, Le s2 (st j) ∧ Inv j ∧ μ j < μ i) :: k) (st i)) : OK C (.code (.loop body) :: k) s := by
  refine hle.ok ?_
  intro φ a w hg
  show (Code.loop body).wp P (kQ C k) a w
  refine wp_loop_ghost (fun n a w => ∃ i φ', (Inv i ∧ μ i = n) ∧ Good C.S0 C.w0 C.φ0 (st i) φ' a w) (μ i0) ⟨i0, φ, ⟨h0, rfl⟩, hg⟩ ?_
  rintro n a' w' ⟨i, φ', ⟨h1, rfl⟩, hg'⟩
  have h2 := h i h1 φ' a' w' hg'
  refine wp_mono h2 ?_
  intro e a2 w2 hq
  cases e <;> first | exact hq | skip
  obtain ⟨s2, φ2, ⟨j, h3, h4, h5⟩, h6⟩ := hq
  obtain ⟨φ3, h7⟩ := h6.le h3
  exact ⟨μ j, h5, j, φ3, ⟨h4, rfl⟩, h7⟩
/-- what is returned -/
theorem ok_retv {rs : List ResultVar} {ts : List Nat} {res v : V} {k : List It} {s : XS} (hT : C.T = fun s => ∃ v, xret L rs ts s = some v ∧ Wk v res) (h : xret L rs ts s = some v) (hv : Wk v res) : OK C (.code .ret :: k) s :=
  ok_ret (by rw [hT]; exact ⟨v, h, hv⟩)
/-- .. where the code ends -/
theorem ok_endv {rs : List ResultVar} {ts : List Nat} {res v : V} {s : XS} (hT : C.T = fun s => ∃ v, xret L rs ts s = some v ∧ Wk v res) (h : xret L rs ts s = some v) (hv : Wk v res) : OK C [] s :=
  ok_end (by rw [hT]; exact ⟨v, h, hv⟩)
end
end Go.Proofs.Ytblmoikhfmkfnaa
