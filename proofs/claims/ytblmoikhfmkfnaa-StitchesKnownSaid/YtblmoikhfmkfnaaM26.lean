/- The abstract machine, 26: regions whose order is open, run in one order. -/
import Derived.Test.YtblmoikhfmkfnaaM25
namespace Go.Proofs.Ytblmoikhfmkfnaa
set_option linter.unusedSimpArgs false
set_option linter.unusedVariables false
open Go.RowKit Go

theorem seqP_less {P : Program} {ops : Array Oper} {Q : Exit → Act → World → Prop} {N : Act → World → Prop} : ∀ (l : List Nat) (pr pr1 : List (Nat × Nat)) (a : Act) (w : World), (∀ p, p ∈ pr → p ∈ pr1) → seqP P ops Q N l pr1 a w → seqP P ops Q N l pr a w
  | [], _, _, _, _, _, h => h
  | i :: r, pr, pr1, a, w, hp, ⟨o, ho, h⟩ => by
    refine ⟨o, ho, ?_⟩
    split
    · rename_i hw
      rw [if_pos hw] at h
      split
      · rename_i hc
        rw [hc] at h
        obtain ⟨v, h1, h2⟩ := h
        exact ⟨v, h1, seqP_less r pr pr1 _ _ hp h2⟩
      · rename_i hc
        rw [hc] at h
        obtain ⟨v, b, h1, h2⟩ := h
        exact ⟨v, b, h1, seqP_less r _ _ _ _ (fun p hpp => by
          rcases List.mem_cons.1 hpp with rfl | hpp
          · simp
          · exact List.mem_cons_of_mem _ (hp p hpp)) h2⟩
      · rename_i hn0 hn1
        split at h
        · rename_i e; exact absurd e hn0
        · rename_i e; exact absurd e hn1
        · exact wpOp_mono (fun a' w' h3 => ⟨fun p hpp => h3.1 p (hp p hpp), seqP_less r pr pr1 _ _ hp h3.2⟩) h
    · rename_i hw
      rw [if_neg hw] at h
      exact seqP_less r pr pr1 _ _ hp h
/-- the blocks of the loads that have been taken -/
def blocksOf (φ : Phi) : List (Nat × Nat) → List (Nat × Nat)
  | [] => []
  | (i, id) :: r => match φ[id]? with
    | some (some (b, _)) => (i, b) :: blocksOf φ r
    | _ => blocksOf φ r
theorem blocksOf_mem {φ : Phi} {p : Nat × Nat} : ∀ (l : List (Nat × Nat)), p ∈ blocksOf φ l → ∃ id o, (p.1, id) ∈ l ∧ φ[id]? = some (some (p.2, o))
  | [], h => by simp [blocksOf] at h
  | (i, id) :: r, h => by
    unfold blocksOf at h
    split at h
    · rename_i b o hb
      rcases List.mem_cons.1 h with rfl | h
      · exact ⟨id, o, by simp, hb⟩
      · obtain ⟨id2, o2, h1, h2⟩ := blocksOf_mem r h
        exact ⟨id2, o2, List.mem_cons_of_mem _ h1, h2⟩
    · obtain ⟨id2, o2, h1, h2⟩ := blocksOf_mem r h
      exact ⟨id2, o2, List.mem_cons_of_mem _ h1, h2⟩
theorem blocksOf_of {φ : Phi} {i id b o : Nat} (h : φ[id]? = some (some (b, o))) : ∀ (l : List (Nat × Nat)), (i, id) ∈ l → (i, b) ∈ blocksOf φ l
  | [], hm => by simp at hm
  | (i2, id2) :: r, hm => by
    unfold blocksOf
    rcases List.mem_cons.1 hm with he | hm
    · cases he; simp [h]
    · have := blocksOf_of h r hm
      split
      · exact List.mem_cons_of_mem _ this
      · exact this
/-- does operation j wait for operation i? (on lists) -/
def waitsL (all : List Oper) (i j : Nat) : Bool := match all[j]? with
  | some o => o.after.toList.any fun e => Region.binds .any e && Nat.beq e.on i
  | none => true
theorem waitsL_eq (all : List Oper) (i j : Nat) : waits .any all.toArray i j = waitsL all i j := by
  unfold waits waitsL
  simp only [List.getElem?_toArray]
  cases all[j]? with
  | none => rfl
  | some o =>
    simp only [← Array.any_toList]
    congr 1
    funext e
    rw [show (e.on == i) = Nat.beq e.on i from by rw [Bool.eq_iff_iff]; simp]
/-- may operation j turn these blocks? -/
def okPr (all : List Oper) (pr : List (Nat × Nat)) (j : Nat) (ids : List Nat) : Bool := match pr with
  | [] => true
  | p :: r => match waitsL all p.1 j with
    | true => okPr all r j ids
    | false => match ids.contains p.2 with
      | true => false
      | false => okPr all r j ids
theorem okPr_spec {all : List Oper} {j : Nat} {ids : List Nat} : ∀ (pr : List (Nat × Nat)), okPr all pr j ids = true → ∀ p, p ∈ pr → waits .any all.toArray p.1 j = false → p.2 ∉ ids
  | [], _, p, hp => by simp at hp
  | q :: r, h, p, hp => by
    intro hw
    rw [waitsL_eq] at hw
    unfold okPr at h
    split at h
    · rename_i hq
      rcases List.mem_cons.1 hp with rfl | hp
      · rw [hq] at hw; cases hw
      · exact okPr_spec r h p hp (by rw [waitsL_eq]; exact hw)
    · split at h
      · cases h
      · rename_i hq2
        rcases List.mem_cons.1 hp with rfl | hp
        · intro hm; simp at hq2; exact hq2 hm
        · exact okPr_spec r h p hp (by rw [waitsL_eq]; exact hw)

section
variable {P : Program} {L : List (Option Row)}
/-- within a region whose order is open: the operations l are still to come; pr: the loads that have been taken, and their blocks -/
def OKm (C : Cx P L) (all : List Oper) (l : List Nat) (pr : List (Nat × Nat)) (k : List It) (s : XS) : Prop :=
  ∀ (Q : Exit → Act → World → Prop) (φ : Phi) (a : Act) (w : World) (imm : List (Nat × Nat)), (∀ p, p ∈ imm → ¬ φ.has p.2 ∧ p.2 < w.heap.size) → Good C.S0 C.w0 C.φ0 s φ a w →
    seqP P all.toArray Q (fun a w => kQ C k .normal a w) l (imm ++ blocksOf φ pr) a w
variable {C : Cx P L}
theorem okm_start {id : Nat} {l : List Oper} {k : List It} {s : XS} (ord : List Nat) (hB : regB l.toArray ord = true) (h : OKm C l ord [] k s) : OK C (.code (.region id l.toArray true) :: k) s := by
  intro φ a w hg
  have hb0 : Below w.heap.size w { w with drawn := w.drawn + 1 } := (Below.refl _ _).drew
  exact wp_region_reg C.mixed ord hB fun Q' _ _ => h Q' φ a _ [] (fun p hp => by simp at hp) (hg.later hb0)
theorem okm_text {id : Nat} {l : List Oper} {k : List It} {s : XS} (hB : regB l.toArray (upto 0 l) = true) (h : OKm C l (upto 0 l) [] k s) : OK C (.code (.region id l.toArray true) :: k) s := okm_start _ hB h
theorem okm_nil {all : List Oper} {pr : List (Nat × Nat)} {k : List It} {s : XS} (h : OK C k s) : OKm C all [] pr k s := fun _ φ a w _ _ hg => h φ a w hg
theorem okm_skip {all : List Oper} {i : Nat} {r : List Nat} {pr : List (Nat × Nat)} {o : Oper} {k : List It} {s : XS} (ho : all[i]? = some o) (hw : xwant s all o = some false) (h : OKm C all r pr k (s.put o.dst (.tup []))) : OKm C all (i :: r) pr k s := by
  intro Q φ a w imm hi hg
  refine ⟨o, by simpa using ho, ?_⟩
  rw [if_neg (by rw [want_ok hg.sim hw]; exact Bool.false_ne_true)]
  exact h Q φ _ w imm hi (hg.put o.dst ⟨[], rfl, rfl⟩)
theorem okm_pure {all : List Oper} {i : Nat} {r : List Nat} {pr : List (Nat × Nat)} {o : Oper} {k : List It} {s : XS} {x : V} (ho : all[i]? = some o) (hc : opClass o.op = 0) (hw : xwant s all o = some true) (hp : xpure L o.op s = some x)
    (h : OKm C all r pr k (s.put o.dst x)) : OKm C all (i :: r) pr k s := by
  intro Q φ a w imm hi hg
  obtain ⟨u, h1, h2⟩ := run_xpure C.lay hg.sim hp
  refine ⟨o, by simpa using ho, ?_⟩
  rw [if_pos (want_ok hg.sim hw), hc]
  exact ⟨u, fun w1 => h2 w1 (.inl hc), h Q φ _ w imm hi (hg.put o.dst h1)⟩
theorem okm_tg {all : List Oper} {i : Nat} {r : List Nat} {pr : List (Nat × Nat)} {o : Oper} {k : List It} {s : XS} {t : Bool} (ho : all[i]? = some o) (hc : opClass o.op = 0) (hw : xwant s all o = some true) (hp : xpure L o.op s = some (.d (.bool t)))
    (h : TG t (OKm C all r pr k (s.put o.dst (.d (.bool true)))) (OKm C all r pr k (s.put o.dst (.d (.bool false))))) : OKm C all (i :: r) pr k s :=
  okm_pure ho hc hw hp (by cases t with
    | true => exact h.1 rfl
    | false => exact h.2 rfl)
/-- a load: out of the call's own memory, or out of data -/
def srcOf : V → Option (Option Nat)
  | .ptr id _ => some (some id)
  | .aptr _ id _ _ => some (some id)
  | .iptr _ _ _ _ => some none
  | _ => none
def addSrc (i : Nat) (x : Option Nat) (pr : List (Nat × Nat)) : List (Nat × Nat) := match x with
  | some id => (i, id) :: pr
  | none => pr
theorem okm_load {all : List Oper} {i : Nat} {r : List Nat} {pr : List (Nat × Nat)} {o : Oper} {k : List It} {s : XS} {t : Nat} {p : Operand} {x : V} {src : Option Nat} (ho : all[i]? = some o) (hop : o.op = .load t p) (hw : xwant s all o = some true)
    (hs : srcOf (s.ev p) = some src) (hp : xpure L (.load t p) s = some x) (h : OKm C all r (addSrc i src pr) k (s.put o.dst x)) : OKm C all (i :: r) pr k s := by
  intro Q φ a w imm hi hg
  simp only [xpure] at hp
  split at hp
  · rename_i rw' hr
    obtain ⟨u, b, h1, h2, h3⟩ := run_xloadB hg.sim (C.lay t _ hr) hp (ev_rep hg.sim p)
    have hx : ∀ w1 : World, w1.heap[b]? = w.heap[b]? → (execOp a.eval o).run P w1 = .ok (.value u) w1 := fun w1 hw1 => by
      rw [execOp, hop]
      have := h3 w1 hw1
      show ((do pure (.value (← Instr.loadAt t (a.eval p))) : Sem Next)).run P w1 = _
      simp [Sem.run_bind, this]
    refine ⟨o, by simpa using ho, ?_⟩
    rw [if_pos (want_ok hg.sim hw), hop]
    refine ⟨u, b, hx, ?_⟩
    cases hv : s.ev p with
    | ptr id off =>
      rw [hv] at hs h2
      simp only [srcOf, Option.some.injEq] at hs
      subst hs
      obtain ⟨ob, h4⟩ := h2
      refine seqP_less r _ _ _ _ (fun q hq => ?_) (h Q φ _ w imm hi (hg.put o.dst h1))
      rcases List.mem_cons.1 hq with rfl | hq
      · exact List.mem_append.2 (.inr (blocksOf_of h4 _ (by simp [addSrc])))
      · rcases List.mem_append.1 hq with hq | hq
        · exact List.mem_append.2 (.inl hq)
        · obtain ⟨id2, o2, k1, k2⟩ := blocksOf_mem _ hq
          exact List.mem_append.2 (.inr (blocksOf_of k2 _ (List.mem_cons_of_mem _ k1)))
    | aptr es id kk off =>
      rw [hv] at hs h2
      simp only [srcOf, Option.some.injEq] at hs
      subst hs
      obtain ⟨ob, h4⟩ := h2
      refine seqP_less r _ _ _ _ (fun q hq => ?_) (h Q φ _ w imm hi (hg.put o.dst h1))
      rcases List.mem_cons.1 hq with rfl | hq
      · exact List.mem_append.2 (.inr (blocksOf_of h4 _ (by simp [addSrc])))
      · rcases List.mem_append.1 hq with hq | hq
        · exact List.mem_append.2 (.inl hq)
        · obtain ⟨id2, o2, k1, k2⟩ := blocksOf_mem _ hq
          exact List.mem_append.2 (.inr (blocksOf_of k2 _ (List.mem_cons_of_mem _ k1)))
    | iptr es xs kk off =>
      rw [hv] at hs h2
      simp only [srcOf, Option.some.injEq] at hs
      subst hs
      obtain ⟨h4, h5⟩ := h2
      exact h Q φ _ w ((i, b) :: imm) (fun q hq => by
        rcases List.mem_cons.1 hq with rfl | hq
        · exact ⟨h4.2, h5⟩
        · exact hi q hq) (hg.put o.dst h1)
    | _ => rw [hv] at hs; simp [srcOf] at hs
  · cases hp
theorem okm_eff {all : List Oper} {i : Nat} {r : List Nat} {pr : List (Nat × Nat)} {o : Oper} {k : List It} {s s2 : XS} {x : V} {ids : List Nat} (ho : all[i]? = some o) (hw : xwant s all o = some true) (hp : xeff L o.op s = some (x, s2)) (ht : turns s o.op = some ids) (hk : okPr all pr i ids = true)
    (h : OKm C all r pr k (s2.put o.dst x)) : OKm C all (i :: r) pr k s := by
  intro Q φ a w imm hi hg
  obtain ⟨u, w2, φ2, h1, h2, h3, h4, h5, h6⟩ := run_xeffK C.lay hg.frame.size hg.sim hp ht
  refine ⟨o, by simpa using ho, ?_⟩
  rw [if_pos (want_ok hg.sim hw)]
  have hcl := xeff_class hp
  rw [hcl]
  have hprl : ∀ q, q ∈ imm ++ blocksOf φ pr → q ∈ imm ++ blocksOf φ2 pr := fun q hq => by
    rcases List.mem_append.1 hq with hq | hq
    · exact List.mem_append.2 (.inl hq)
    · obtain ⟨id2, o2, k1, k2⟩ := blocksOf_mem _ hq
      exact List.mem_append.2 (.inr (blocksOf_of (by rw [h5 id2 (List.getElem?_eq_some_iff.1 k2).1]; exact k2) _ k1))
  have hkept : Kept .any all.toArray (imm ++ blocksOf φ pr) i w w2 := fun q hq hwt => by
    rcases List.mem_append.1 hq with hq | hq
    · exact h4.block _ (hi q hq).2 (hi q hq).1
    · obtain ⟨id2, o2, k1, k2⟩ := blocksOf_mem _ hq
      refine h6 _ (hg.sim.mem.lt ⟨id2, o2, k2⟩).1 fun id3 hid o3 ho3 => ?_
      have := hg.sim.mem.inj id2 id3 _ _ _ k2 ho3
      subst this
      exact okPr_spec pr hk _ k1 hwt hid
  have hfin : seqP P all.toArray Q (fun a w => kQ C k .normal a w) r (imm ++ blocksOf φ pr) (a.put o.dst u) w2 :=
    seqP_less r _ _ _ _ hprl (h Q φ2 _ w2 imm (fun q hq => ⟨fun hh => (by
      rcases h4.has _ hh with h7 | h7
      · exact (hi q hq).1 h7
      · have := (hi q hq).2; omega), Nat.lt_of_lt_of_le (hi q hq).2 h4.size⟩) (Good.put ⟨h3, hg.frame.trans h4⟩ o.dst h2))
  show wpOp P all.toArray Q i _ a w
  unfold wpOp
  simp only [List.getElem?_toArray, ho]
  rw [if_pos (want_ok hg.sim hw)]
  refine .inl ?_
  unfold Oper.wp
  rcases h1 with h1 | ⟨rfl, h1⟩
  · rw [h1]; exact ⟨hkept, hfin⟩
  · rw [h1]; exact ⟨hkept, hfin⟩
/-- operations whose blocks are not told apart: every load that has been taken must come before them anyway -/
def allWait (all : List Oper) (pr : List (Nat × Nat)) (j : Nat) : Bool := match pr with
  | [] => true
  | p :: r => match waitsL all p.1 j with
    | true => allWait all r j
    | false => false
theorem allWait_spec {all : List Oper} {j : Nat} : ∀ (pr : List (Nat × Nat)), allWait all pr j = true → ∀ p, p ∈ pr → waits .any all.toArray p.1 j = true
  | [], _, p, hp => by simp at hp
  | q :: r, h, p, hp => by
    unfold allWait at h
    split at h
    · rename_i hq
      rcases List.mem_cons.1 hp with rfl | hp
      · rw [waitsL_eq]; exact hq
      · exact allWait_spec r h p hp
    · cases h
theorem okm_effW {all : List Oper} {i : Nat} {r : List Nat} {pr : List (Nat × Nat)} {o : Oper} {k : List It} {s s2 : XS} {x : V} (ho : all[i]? = some o) (hw : xwant s all o = some true) (hp : xeff L o.op s = some (x, s2)) (hk : allWait all pr i = true)
    (h : OKm C all r [] k (s2.put o.dst x)) (hr : r.all (fun j => allWait all pr j) = true) : OKm C all (i :: r) pr k s := by
  intro Q φ a w imm hi hg
  obtain ⟨u, w2, φ2, h1, h2, h3, h4⟩ := run_xeff C.lay hg.frame.size hg.sim hp
  refine ⟨o, by simpa using ho, ?_⟩
  rw [if_pos (want_ok hg.sim hw)]
  have hcl := xeff_class hp
  rw [hcl]
  have hkept : Kept .any all.toArray (imm ++ blocksOf φ pr) i w w2 := fun q hq hwt => by
    rcases List.mem_append.1 hq with hq | hq
    · exact h4.block _ (hi q hq).2 (hi q hq).1
    · obtain ⟨id2, o2, k1, k2⟩ := blocksOf_mem _ hq
      have := allWait_spec pr hk _ k1
      rw [hwt] at this
      cases this
  -- from here on the loads that all wait for are forgotten
  have hforget : ∀ (l : List Nat) (a : Act) (w : World), l.all (fun j => allWait all pr j) = true → seqP P all.toArray Q (fun a w => kQ C k .normal a w) l imm a w → ∀ prx, (∀ p, p ∈ prx → p ∈ imm ∨ ∃ id, (p.1, id) ∈ pr) → seqP P all.toArray Q (fun a w => kQ C k .normal a w) l prx a w := by
    have gen : ∀ (l : List Nat) (imm1 prx : List (Nat × Nat)) (a : Act) (w : World), l.all (fun j => allWait all pr j) = true → (∀ p, p ∈ prx → p ∈ imm1 ∨ ∃ id, (p.1, id) ∈ pr) → seqP P all.toArray Q (fun a w => kQ C k .normal a w) l imm1 a w → seqP P all.toArray Q (fun a w => kQ C k .normal a w) l prx a w := by
      intro l
      induction l with
      | nil => intro _ _ _ _ _ _ h; exact h
      | cons j l ih =>
        intro imm1 prx a w hl hp ⟨oj, hoj, h⟩
        simp only [List.all_cons, Bool.and_eq_true] at hl
        refine ⟨oj, hoj, ?_⟩
        split
        · rename_i hwj
          rw [if_pos hwj] at h
          split
          · rename_i hc
            rw [hc] at h
            obtain ⟨v, g1, g2⟩ := h
            exact ⟨v, g1, ih _ _ _ _ hl.2 hp g2⟩
          · rename_i hc
            rw [hc] at h
            obtain ⟨v, b, g1, g2⟩ := h
            exact ⟨v, b, g1, ih _ _ _ _ hl.2 (fun p hpp => by
              rcases List.mem_cons.1 hpp with rfl | hpp
              · exact .inl (by simp)
              · exact (hp p hpp).imp (List.mem_cons_of_mem _) id) g2⟩
          · rename_i hn0 hn1
            split at h
            · rename_i e; exact absurd e hn0
            · rename_i e; exact absurd e hn1
            · refine wpOp_mono (fun a' w' h3 => ⟨fun p hpp hwt => ?_, ih _ _ _ _ hl.2 hp h3.2⟩) h
              rcases hp p hpp with h7 | ⟨id, h7⟩
              · exact h3.1 p h7 hwt
              · have := allWait_spec pr hl.1 _ h7
                rw [hwt] at this
                cases this
        · rename_i hwj
          rw [if_neg hwj] at h
          exact ih _ _ _ _ hl.2 hp h
    exact fun l a w hl h prx hp => gen l imm prx a w hl hp h
  have hfin : seqP P all.toArray Q (fun a w => kQ C k .normal a w) r (imm ++ blocksOf φ pr) (a.put o.dst u) w2 := by
    refine hforget r _ _ hr ?_ _ fun p hp => ?_
    · have := h Q φ2 _ w2 imm (fun q hq => ⟨fun hh => (by
        rcases h4.has _ hh with h7 | h7
        · exact (hi q hq).1 h7
        · have := (hi q hq).2; omega), Nat.lt_of_lt_of_le (hi q hq).2 h4.size⟩) (Good.put ⟨h3, hg.frame.trans h4⟩ o.dst h2)
      simpa [blocksOf] using this
    · rcases List.mem_append.1 hp with h7 | h7
      · exact .inl h7
      · obtain ⟨id2, _, k1, _⟩ := blocksOf_mem _ h7
        exact .inr ⟨id2, k1⟩
  show wpOp P all.toArray Q i _ a w
  unfold wpOp
  simp only [List.getElem?_toArray, ho]
  rw [if_pos (want_ok hg.sim hw)]
  refine .inl ?_
  unfold Oper.wp
  rcases h1 with h1 | ⟨rfl, h1⟩
  · rw [h1]; exact ⟨hkept, hfin⟩
  · rw [h1]; exact ⟨hkept, hfin⟩

theorem sim_drops2 {w : World} {S0 : Nat → Prop} {n0 : Nat} {a : Act} : ∀ (ids : List Nat) (φ : Phi) (s : XS), Sim w (SS S0 n0 φ) φ s a → ∃ φ2, Sim w (SS S0 n0 φ2) φ2 (dropIds ids s) a ∧ (∀ b, φ2.has b → φ.has b) ∧ (∀ id, id ∈ ids → ∀ b o : Nat, φ[id]? = some (some (b, o)) → ¬ φ2.has b) ∧ ∀ (j : Nat) (x : Nat × Nat), φ2[j]? = some (some x) → φ[j]? = some (some x)
  | [], φ, s, H => ⟨φ, H, fun _ h => h, fun _ h => by simp at h, fun _ _ h => h⟩
  | id :: ids, φ, s, H => by
    obtain ⟨φ2, h1, h2, h3, h4⟩ := sim_drops2 ids _ _ (sim_drop H id)
    have hget : ∀ i, (φ.set id (none : Option (Nat × Nat)))[i]? = if i = id ∧ id < φ.length then some none else φ[i]? := fun i => by
      by_cases h : id < φ.length
      · rw [phi_set h]
        by_cases hi : i = id <;> simp [hi, h]
      · rw [List.set_eq_of_length_le (by omega)]
        rw [if_neg (by omega)]
    have hback : ∀ (j : Nat) (x : Nat × Nat), (φ.set id (none : Option (Nat × Nat)))[j]? = some (some x) → φ[j]? = some (some x) := fun j x hj => by
      rw [hget] at hj
      split at hj
      · cases hj
      · exact hj
    have hhas : ∀ b, Phi.has (φ.set id none) b → φ.has b ∧ ∀ o : Nat, φ[id]? ≠ some (some (b, o)) := fun b ⟨i, o, hi⟩ => by
      rw [hget] at hi
      split at hi
      · cases hi
      · rename_i hne
        refine ⟨⟨i, o, hi⟩, fun o' ho' => ?_⟩
        have := H.mem.inj i id b o o' hi ho'
        exact hne ⟨this, by rw [← this]; exact (List.getElem?_eq_some_iff.1 hi).1⟩
    refine ⟨φ2, h1, fun b hb => (hhas b (h2 b hb)).1, fun j hj b o hjo => ?_, fun j x hj => hback j x (h4 j x hj)⟩
    rcases List.mem_cons.1 hj with rfl | hj
    · exact fun hb => (hhas b (h2 b hb)).2 o hjo
    · by_cases hji : j = id ∧ id < φ.length
      · obtain ⟨rfl, _⟩ := hji
        exact fun hb => (hhas b (h2 b hb)).2 o hjo
      · exact h3 j hj b o (by rw [hget, if_neg hji]; exact hjo)
open Classical in
/-- a call, within a region whose order is open -/
theorem okm_call {all : List Oper} {i : Nat} {r : List Nat} {pr : List (Nat × Nat)} {o : Oper} {k : List It} {s : XS} {c : Call} {f : Nat} {vs : List V} {ids idd : List Nat} {res : V}
    (hoi : all[i]? = some o) (hw : xwant s all o = some true) (ho : o.op = .call c) (ha : xargs L s c = some (f, vs, ids)) (hs : Spec P f vs res) (hids : idd = ids ∨ res.flat = true ∧ idd = [])
    (h : OKm C all r pr k ((dropIds idd s).put o.dst res)) : OKm C all (i :: r) pr k s := by
  intro Q φ a w imm hi hg
  obtain ⟨hcall, hspec⟩ := hs
  obtain ⟨φ2, hd1, hd2, hd3, hd4⟩ := sim_drops2 idd φ s hg.sim
  obtain ⟨args, hexec, hargs⟩ := xargs_ok C.lay hg.sim ha hcall
  refine ⟨o, by simpa using hoi, ?_⟩
  rw [if_pos (want_ok hg.sim hw), ho]
  show wpOp P all.toArray Q i _ a w
  unfold wpOp
  simp only [List.getElem?_toArray, hoi]
  rw [if_pos (want_ok hg.sim hw)]
  refine .inl ?_
  unfold Oper.wp
  rw [hexec o ho w]
  have fresh : ∀ b, φ.has b → C.w0.heap.size ≤ b := fun b hb => by
    rcases hg.frame.has b hb with ⟨id, o, h⟩ | h
    · rw [C.own] at h; simp at h
    · exact h
  have fin : ∀ (w' : World) (v : Value), Below w.heap.size w w' → V.rep w' (SS C.S0 C.w0.heap.size φ2) φ2 res v → Kept .any all.toArray (imm ++ blocksOf φ pr) i w w' ∧ seqP P all.toArray Q (fun a w => kQ C k .normal a w) r (imm ++ blocksOf φ pr) (a.put o.dst v) w' := by
    intro w' v hb hv
    refine ⟨fun q hq _ => ?_, ?_⟩
    · rcases List.mem_append.1 hq with hq | hq
      · exact hb.block _ (hi q hq).2
      · obtain ⟨id2, o2, _, k2⟩ := blocksOf_mem _ hq
        exact hb.block _ (hg.sim.mem.lt ⟨id2, o2, k2⟩).1
    · have hg2 : Good C.S0 C.w0 C.φ0 (dropIds idd s) φ2 a w := ⟨hd1, hg.frame.trans ⟨rfl, rfl, rfl, Nat.le_refl _, fun _ _ _ => rfl, fun b hb => .inl (hd2 b hb)⟩⟩
      refine seqP_less r _ _ _ _ (fun q hq => ?_) (h Q φ2 _ w' (imm ++ (blocksOf φ pr).filter (fun q => decide (¬ φ2.has q.2))) (fun q hq => ?_) ((hg2.later hb).put o.dst hv))
      · rcases List.mem_append.1 hq with h7 | h7
        · exact List.mem_append.2 (.inl (List.mem_append.2 (.inl h7)))
        · by_cases hh : φ2.has q.2
          · obtain ⟨id2, o2, k1, k2⟩ := blocksOf_mem _ h7
            obtain ⟨j, oj, hj⟩ := hh
            have hj2 := hd4 j _ hj
            have := hg.sim.mem.inj j id2 _ _ _ hj2 k2
            subst this
            exact List.mem_append.2 (.inr (blocksOf_of hj _ k1))
          · exact List.mem_append.2 (.inl (List.mem_append.2 (.inr (List.mem_filter.2 ⟨h7, decide_eq_true hh⟩))))
      · rcases List.mem_append.1 hq with h7 | h7
        · exact ⟨fun hh => (hi q h7).1 (hd2 _ hh), Nat.lt_of_lt_of_le (hi q h7).2 hb.size⟩
        · obtain ⟨h8, h9⟩ := List.mem_filter.1 h7
          obtain ⟨id2, o2, k1, k2⟩ := blocksOf_mem _ h8
          exact ⟨of_decide_eq_true h9, Nat.lt_of_lt_of_le (hg.sim.mem.lt ⟨id2, o2, k2⟩).1 hb.size⟩
  rcases hids with hids | ⟨hflat, _⟩
  · refine (hspec (fun b => SS C.S0 C.w0.heap.size φ b ∨ ∃ id, id ∈ ids ∧ ∃ o : Nat, φ[id]? = some (some (b, o))) w _ (hargs _ (fun b hb => .inl hb) (fun id hid b o h => .inr ⟨id, hid, o, h⟩))).mono ?_
    rintro e w' ⟨v, rfl, hb, hv⟩
    refine fin w' v hb (V.rep_mono (w := w') (w' := w') (φ := []) ?_ _ _ hv)
    refine ⟨⟨fun b hb' _ => ?_, fun _ _ _ => rfl, Nat.le_refl _⟩, fun _ _ _ h => by simp at h, fun _ _ _ c T f h _ => by simp at h⟩
    rcases hb' with (h1 | ⟨id, hid, o', h1⟩) | h1
    · exact ⟨h1.1, fun hh => h1.2 (hd2 b hh)⟩
    · exact ⟨.inr (fresh b ⟨id, o', h1⟩), hd3 id (hids ▸ hid) b o' h1⟩
    · refine ⟨.inr (Nat.le_trans hg.frame.size h1), fun hh => ?_⟩
      have := (hg.sim.mem.lt (hd2 b hh)).1
      omega
  · refine (hspec (fun b => SS C.S0 C.w0.heap.size φ b ∨ φ.has b) w _ (hargs _ (fun b hb => .inl hb) (fun id _ b o h => .inr ⟨id, o, h⟩))).mono ?_
    rintro e w' ⟨v, rfl, hb, hv⟩
    exact fin w' v hb (V.flat_rep hflat hv).1
/-! ### The run -/
inductive OutM where
  | at (l : List Nat) (pr : List (Nat × Nat)) (s : XS)
  | fail
def xgoM (L : List (Option Row)) (all : List Oper) : Nat → List Nat → List (Nat × Nat) → XS → OutM
  | 0, l, pr, s => .at l pr s
  | n + 1, l, pr, s => match l with
    | [] => .at [] pr s
    | i :: r => match all[i]? with
      | none => .fail
      | some o => match xwant s all o with
        | none => .fail
        | some w => match w with
          | false => s.putF o.dst (.tup []) fun s => xgoM L all n r pr s
          | true => match asks L o.op s with
            | true => .at (i :: r) pr s
            | false => match opClass o.op with
              | 0 => match xpure L o.op s with
                | some v => s.putF o.dst v fun s => xgoM L all n r pr s
                | none => .at (i :: r) pr s
              | 1 => .at (i :: r) pr s
              | _ => match xeff L o.op s, turns s o.op with
                | some (v, s'), some ids => match okPr all pr i ids with
                  | true => forceS s' fun s' => s'.putF o.dst v fun s => xgoM L all n r pr s
                  | false => .at (i :: r) pr s
                | _, _ => .at (i :: r) pr s
def OutM.ok (C : Cx P L) (all : List Oper) (k : List It) : OutM → Prop
  | .at l pr s => OKm C all l pr k s
  | .fail => False
theorem xgoM_sound {all : List Oper} {k : List It} : ∀ (n : Nat) (l : List Nat) (pr : List (Nat × Nat)) (s : XS), (xgoM L all n l pr s).ok C all k → OKm C all l pr k s := by
  intro n
  induction n with
  | zero => intro l pr s h; exact h
  | succ n ih =>
    intro l pr s h
    unfold xgoM at h
    simp only [XS.putF_eq, forceS_eq] at h
    split at h
    · exact h
    · split at h
      · exact h.elim
      · rename_i o ho
        split at h
        · exact h.elim
        · rename_i w hw
          split at h
          · exact okm_skip ho hw (ih _ _ _ h)
          · split at h
            · exact h
            · split at h
              · rename_i hc
                split at h
                · rename_i v hv
                  exact okm_pure ho hc hw hv (ih _ _ _ h)
                · exact h
              · exact h
              · split at h
                · rename_i v s' ids hv ht
                  split at h
                  · rename_i hk
                    exact okm_eff ho hw hv ht hk (ih _ _ _ h)
                  · exact h
                · exact h
theorem xrunM (n : Nat) {all : List Oper} {l l' : List Nat} {pr pr' : List (Nat × Nat)} {k : List It} {s s' : XS} (h : (forceS s fun s => xgoM L all n l pr s) = .at l' pr' s') (h2 : OKm C all l' pr' k s') : OKm C all l pr k s := xgoM_sound n l pr s (by rw [forceS_eq] at h; rw [h]; exact h2)
/-- tests and loads, by the operation -/
theorem mtgb {all : List Oper} {i : Nat} {r : List Nat} {pr : List (Nat × Nat)} {o : Oper} {k : List It} {s : XS} {t : Bool} {bop : BinOp} {ty d : Nat} {x y : Operand} (ho : all[i]? = some o) (hop : o.op = .binOp bop ty x y d) (hw : xwant s all o = some true) (hp : xpure L (.binOp bop ty x y d) s = some (.d (.bool t)))
    (h : TG t (OKm C all r pr k (s.put o.dst (.d (.bool true)))) (OKm C all r pr k (s.put o.dst (.d (.bool false))))) : OKm C all (i :: r) pr k s := okm_tg ho (by rw [hop]; rfl) hw (by rw [hop]; exact hp) h
theorem mtgl {all : List Oper} {i : Nat} {r : List Nat} {pr : List (Nat × Nat)} {o : Oper} {k : List It} {s : XS} {t : Bool} {ty : Nat} {p : Operand} {src : Option Nat} (ho : all[i]? = some o) (hop : o.op = .load ty p) (hw : xwant s all o = some true) (hs : srcOf (s.ev p) = some src) (hp : xpure L (.load ty p) s = some (.d (.bool t)))
    (h : TG t (OKm C all r (addSrc i src pr) k (s.put o.dst (.d (.bool true)))) (OKm C all r (addSrc i src pr) k (s.put o.dst (.d (.bool false))))) : OKm C all (i :: r) pr k s :=
  okm_load ho hop hw hs hp (by cases t with
    | true => exact h.1 rfl
    | false => exact h.2 rfl)
end
end Go.Proofs.Ytblmoikhfmkfnaa
