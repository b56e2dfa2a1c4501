/- The abstract machine, 28: regions whose order is open, where several operations that make memory may come next: each of them is tried. -/
import Derived.Test.YtblmoikhfmkfnaaM27
namespace Go.Proofs.Ytblmoikhfmkfnaa
set_option linter.unusedSimpArgs false
set_option linter.unusedVariables false
open Go.RowKit Go

section
variable {P : Program} {L : List (Option Row)} {C : Cx P L} {all : List Oper}
/-- what may follow: less is asked of fewer loads -/
def Mono (K : List (Nat × Nat) → Act → World → Prop) : Prop := ∀ pr pr1 a w, (∀ p, p ∈ pr → p ∈ pr1) → K pr1 a w → K pr a w
/-- K holds in every state that s stands for -/
def All (C : Cx P L) (K : List (Nat × Nat) → Act → World → Prop) (pr : List (Nat × Nat)) (s : XS) : Prop :=
  ∀ (φ : Phi) (a : Act) (w : World) (imm : List (Nat × Nat)), (∀ p, p ∈ imm → ¬ φ.has p.2 ∧ p.2 < w.heap.size) → Good C.S0 C.w0 C.φ0 s φ a w → K (imm ++ blocksOf φ pr) a w
/-- one operation, and K behind it -/
def StepK (P : Program) (all : List Oper) (Q : Exit → Act → World → Prop) (i : Nat) (K : List (Nat × Nat) → Act → World → Prop) (pr : List (Nat × Nat)) (a : Act) (w : World) : Prop :=
  wpOp P all.toArray Q i (fun a' w' => Kept .any all.toArray pr i w w' ∧ K pr a' w') a w
variable {Q : Exit → Act → World → Prop} {K : List (Nat × Nat) → Act → World → Prop}
theorem step_skip {i : Nat} {pr : List (Nat × Nat)} {o : Oper} {s : XS} (ho : all[i]? = some o) (hw : xwant s all o = some false) (h : All C K pr (s.put o.dst (.tup []))) : All C (StepK P all Q i K) pr s := by
  intro φ a w imm hi hg
  unfold StepK wpOp
  simp only [List.getElem?_toArray, ho]
  rw [if_neg (by rw [want_ok hg.sim hw]; exact Bool.false_ne_true)]
  exact ⟨Kept.refl, h φ _ w imm hi (hg.put o.dst ⟨[], rfl, rfl⟩)⟩
theorem step_pure {i : Nat} {pr : List (Nat × Nat)} {o : Oper} {s : XS} {x : V} (ho : all[i]? = some o) (hw : xwant s all o = some true) (hp : xpure L o.op s = some x) (h : All C K pr (s.put o.dst x)) : All C (StepK P all Q i K) pr s := by
  intro φ a w imm hi hg
  obtain ⟨u, h1, h2⟩ := run_xpure C.lay hg.sim hp
  unfold StepK wpOp
  simp only [List.getElem?_toArray, ho]
  rw [if_pos (want_ok hg.sim hw)]
  refine .inl ?_
  unfold Oper.wp
  rw [h2 w (.inr (Same.refl w))]
  exact ⟨Kept.refl, h φ _ w imm hi (hg.put o.dst h1)⟩
theorem step_eff (hK : Mono K) {i : Nat} {pr : List (Nat × Nat)} {o : Oper} {s s2 : XS} {x : V} {ids : List Nat} (ho : all[i]? = some o) (hw : xwant s all o = some true) (hp : xeff L o.op s = some (x, s2)) (ht : turns s o.op = some ids) (hk : okPr all pr i ids = true)
    (h : All C K pr (s2.put o.dst x)) : All C (StepK P all Q i K) pr s := by
  intro φ a w imm hi hg
  obtain ⟨u, w2, φ2, h1, h2, h3, h4, h5, h6⟩ := run_xeffK C.lay hg.frame.size hg.sim hp ht
  have hprl : ∀ q, q ∈ imm ++ blocksOf φ pr → q ∈ imm ++ blocksOf φ2 pr := fun q hq => by
    rcases List.mem_append.1 hq with hq | hq
    · exact List.mem_append.2 (.inl hq)
    · obtain ⟨id2, o2, k1, k2⟩ := blocksOf_mem _ hq
      exact List.mem_append.2 (.inr (blocksOf_of (by rw [h5 id2 (List.getElem?_eq_some_iff.1 k2).1]; exact k2) _ k1))
  have hkept : Kept .any all.toArray (imm ++ blocksOf φ pr) i w w2 := fun q hq hwt => by
    rcases List.mem_append.1 hq with hq | hq
    · exact h4.block _ (hi q hq).2 (hi q hq).1
    · obtain ⟨id2, o2, k1, k2⟩ := blocksOf_mem _ hq
      refine h6 _ (hg.sim.mem.lt ⟨id2, o2, k2⟩).1 fun id3 hid o3 ho3 => ?_
      have := hg.sim.mem.inj id2 id3 _ _ _ k2 ho3
      subst this
      exact okPr_spec pr hk _ k1 hwt hid
  have hfin : K (imm ++ blocksOf φ pr) (a.put o.dst u) w2 :=
    hK _ _ _ _ hprl (h φ2 _ w2 imm (fun q hq => ⟨fun hh => (by
      rcases h4.has _ hh with h7 | h7
      · exact (hi q hq).1 h7
      · have := (hi q hq).2; omega), Nat.lt_of_lt_of_le (hi q hq).2 h4.size⟩) (Good.put ⟨h3, hg.frame.trans h4⟩ o.dst h2))
  unfold StepK wpOp
  simp only [List.getElem?_toArray, ho]
  rw [if_pos (want_ok hg.sim hw)]
  refine .inl ?_
  unfold Oper.wp
  rcases h1 with h1 | ⟨rfl, h1⟩
  · rw [h1]; exact ⟨hkept, hfin⟩
  · rw [h1]; exact ⟨hkept, hfin⟩
open Classical in
theorem step_call (hK : Mono K) {i : Nat} {pr : List (Nat × Nat)} {o : Oper} {s : XS} {c : Call} {f : Nat} {vs : List V} {ids idd : List Nat} {res : V}
    (hoi : all[i]? = some o) (hw : xwant s all o = some true) (ho : o.op = .call c) (ha : xargs L s c = some (f, vs, ids)) (hs : Spec P f vs res) (hids : idd = ids ∨ res.flat = true ∧ idd = [])
    (h : All C K pr ((dropIds idd s).put o.dst res)) : All C (StepK P all Q i K) pr s := by
  intro φ a w imm hi hg
  obtain ⟨hcall, hspec⟩ := hs
  obtain ⟨φ2, hd1, hd2, hd3, hd4⟩ := sim_drops2 idd φ s hg.sim
  obtain ⟨args, hexec, hargs⟩ := xargs_ok C.lay hg.sim ha hcall
  unfold StepK wpOp
  simp only [List.getElem?_toArray, hoi]
  rw [if_pos (want_ok hg.sim hw)]
  refine .inl ?_
  unfold Oper.wp
  rw [hexec o ho w]
  have fresh : ∀ b, φ.has b → C.w0.heap.size ≤ b := fun b hb => by
    rcases hg.frame.has b hb with ⟨id, o, h⟩ | h
    · rw [C.own] at h; simp at h
    · exact h
  have fin : ∀ (w' : World) (v : Value), Below w.heap.size w w' → V.rep w' (SS C.S0 C.w0.heap.size φ2) φ2 res v → Kept .any all.toArray (imm ++ blocksOf φ pr) i w w' ∧ K (imm ++ blocksOf φ pr) (a.put o.dst v) w' := by
    intro w' v hb hv
    refine ⟨fun q hq _ => ?_, ?_⟩
    · rcases List.mem_append.1 hq with hq | hq
      · exact hb.block _ (hi q hq).2
      · obtain ⟨id2, o2, _, k2⟩ := blocksOf_mem _ hq
        exact hb.block _ (hg.sim.mem.lt ⟨id2, o2, k2⟩).1
    · have hg2 : Good C.S0 C.w0 C.φ0 (dropIds idd s) φ2 a w := ⟨hd1, hg.frame.trans ⟨rfl, rfl, rfl, Nat.le_refl _, fun _ _ _ => rfl, fun b hb => .inl (hd2 b hb)⟩⟩
      refine hK _ _ _ _ (fun q hq => ?_) (h φ2 _ w' (imm ++ (blocksOf φ pr).filter (fun q => decide (¬ φ2.has q.2))) (fun q hq => ?_) ((hg2.later hb).put o.dst hv))
      · rcases List.mem_append.1 hq with h7 | h7
        · exact List.mem_append.2 (.inl (List.mem_append.2 (.inl h7)))
        · by_cases hh : φ2.has q.2
          · obtain ⟨id2, o2, k1, k2⟩ := blocksOf_mem _ h7
            obtain ⟨j, oj, hj⟩ := hh
            have hj2 := hd4 j _ hj
            have := hg.sim.mem.inj j id2 _ _ _ hj2 k2
            subst this
            exact List.mem_append.2 (.inr (blocksOf_of hj _ k1))
          · exact List.mem_append.2 (.inl (List.mem_append.2 (.inr (List.mem_filter.2 ⟨h7, decide_eq_true hh⟩))))
      · rcases List.mem_append.1 hq with h7 | h7
        · exact ⟨fun hh => (hi q h7).1 (hd2 _ hh), Nat.lt_of_lt_of_le (hi q h7).2 hb.size⟩
        · obtain ⟨h8, h9⟩ := List.mem_filter.1 h7
          obtain ⟨id2, o2, k1, k2⟩ := blocksOf_mem _ h8
          exact ⟨of_decide_eq_true h9, Nat.lt_of_lt_of_le (hg.sim.mem.lt ⟨id2, o2, k2⟩).1 hb.size⟩
  rcases hids with hids | ⟨hflat, _⟩
  · refine (hspec (fun b => SS C.S0 C.w0.heap.size φ b ∨ ∃ id, id ∈ ids ∧ ∃ o : Nat, φ[id]? = some (some (b, o))) w _ (hargs _ (fun b hb => .inl hb) (fun id hid b o h => .inr ⟨id, hid, o, h⟩))).mono ?_
    rintro e w' ⟨v, rfl, hb, hv⟩
    refine fin w' v hb (V.rep_mono (w := w') (w' := w') (φ := []) ?_ _ _ hv)
    refine ⟨⟨fun b hb' _ => ?_, fun _ _ _ => rfl, Nat.le_refl _⟩, fun _ _ _ h => by simp at h, fun _ _ _ c T f h _ => by simp at h⟩
    rcases hb' with (h1 | ⟨id, hid, o', h1⟩) | h1
    · exact ⟨h1.1, fun hh => h1.2 (hd2 b hh)⟩
    · exact ⟨.inr (fresh b ⟨id, o', h1⟩), hd3 id (hids ▸ hid) b o' h1⟩
    · refine ⟨.inr (Nat.le_trans hg.frame.size h1), fun hh => ?_⟩
      have := (hg.sim.mem.lt (hd2 b hh)).1
      omega
  · refine (hspec (fun b => SS C.S0 C.w0.heap.size φ b ∨ φ.has b) w _ (hargs _ (fun b hb => .inl hb) (fun id _ b o h => .inr ⟨id, o, h⟩))).mono ?_
    rintro e w' ⟨v, rfl, hb, hv⟩
    exact fin w' v hb (V.flat_rep hflat hv).1

/-- all orders from here on; 'done' tells which operations have come up, n how many have not -/
def OKs (C : Cx P L) (all : List Oper) (n : Nat) (listed : Array Bool) (pr : List (Nat × Nat)) (k : List It) (s : XS) : Prop :=
  ∀ Q : Exit → Act → World → Prop, (∀ a w, kQ C k .normal a w → Q .normal a w) → (∀ c a w, ¬ Q (.panic c) a w) → All C (fun pr a w => wpAnyR P .any all.toArray Q pr n listed a w) pr s
theorem oks_start {id : Nat} {l : List Oper} {k : List It} {s : XS} (hB : Region.noSelect l.toArray = true) (h : OKs C l l.length (Array.replicate l.length false) [] k s) : OK C (.code (.region id l.toArray true) :: k) s := by
  intro φ a w hg
  have hb0 : Below w.heap.size w { w with drawn := w.drawn + 1 } := (Below.refl _ _).drew
  show (Code.region id l.toArray true).wp P (kQ C k) a w
  refine wp_region_noPanic (wp_region_any C.mixed ?_)
  refine wpAny_of_R (pr := [] ++ blocksOf φ []) _ _ _ _ (h _ (fun a w h => ?_) (fun c a w h => ?_) φ a _ [] (fun p hp => by simp at hp) (hg.later hb0))
  · exact h
  · exact h
theorem mono_any {Q : Exit → Act → World → Prop} {n : Nat} {listed : Array Bool} : Mono (fun pr a w => wpAnyR P .any all.toArray Q pr n listed a w) := fun _ _ _ _ hp h => wpAnyR_less hp _ _ _ _ h
/-- from here on one order serves -/
theorem oks_seq {n : Nat} {listed : Array Bool} {pr : List (Nat × Nat)} {k : List It} {s : XS} (l : List Nat) (hs : Region.noSelect all.toArray = true) (hB : regFrom all.toArray l listed = true) (hn : l.length = n) (h : OKm C all l pr k s) : OKs C all n listed pr k s := by
  intro Q hN hQ φ a w imm hi hg
  subst hn
  exact reg_of_seq (N := fun a w => kQ C k .normal a w) hN hQ hs l listed _ a w hB (h Q φ a w imm hi hg)
/-- operation i comes next -/
def OKsStep (C : Cx P L) (all : List Oper) (n : Nat) (listed : Array Bool) (pr : List (Nat × Nat)) (k : List It) (s : XS) (i : Nat) : Prop :=
  ∀ Q : Exit → Act → World → Prop, (∀ a w, kQ C k .normal a w → Q .normal a w) → (∀ c a w, ¬ Q (.panic c) a w) → All C (StepK P all Q i (fun pr a w => wpAnyR P .any all.toArray Q pr n (listed.setIfInBounds i true) a w)) pr s
def OKsAll (C : Cx P L) (all : List Oper) (n : Nat) (listed : Array Bool) (pr : List (Nat × Nat)) (k : List It) (s : XS) : List Nat → Prop
  | [] => True
  | i :: r => OKsStep C all n listed pr k s i ∧ OKsAll C all n listed pr k s r
theorem oksAll_mem {n : Nat} {listed : Array Bool} {pr : List (Nat × Nat)} {k : List It} {s : XS} : ∀ {rs : List Nat}, OKsAll C all n listed pr k s rs → ∀ i, i ∈ rs → OKsStep C all n listed pr k s i
  | [], _, i, hi => by simp at hi
  | j :: r, h, i, hi => by
    rcases List.mem_cons.1 hi with rfl | hi
    · exact h.1
    · exact oksAll_mem h.2 i hi
/-- each operation that may come next -/
theorem oks_branch {n : Nat} {listed : Array Bool} {pr : List (Nat × Nat)} {k : List It} {s : XS} (rs : List Nat) (hr : (Region.ready .any all.toArray listed == rs) = true) (hne : rs.isEmpty = false)
    (h : OKsAll C all n listed pr k s rs) : OKs C all (n + 1) listed pr k s := by
  intro Q hN hQ φ a w imm hi hg
  have hrs := eq_of_beq hr
  refine ⟨fun h0 => ?_, fun i hir => ?_⟩
  · rw [hrs] at h0; rw [h0] at hne; cases hne
  · rw [hrs] at hir
    exact oksAll_mem h i hir Q hN hQ φ a w imm hi hg
theorem oks_eff {n i : Nat} {listed : Array Bool} {pr : List (Nat × Nat)} {k : List It} {o : Oper} {s s2 : XS} {x : V} {ids : List Nat} (ho : all[i]? = some o) (hw : xwant s all o = some true) (hp : xeff L o.op s = some (x, s2)) (ht : turns s o.op = some ids) (hk : okPr all pr i ids = true)
    (h : OKs C all n (listed.setIfInBounds i true) pr k (s2.put o.dst x)) : OKsStep C all n listed pr k s i := fun Q hN hQ => step_eff mono_any ho hw hp ht hk (h Q hN hQ)
theorem oks_call {n i : Nat} {listed : Array Bool} {pr : List (Nat × Nat)} {k : List It} {o : Oper} {s : XS} {c : Call} {f : Nat} {vs : List V} {ids idd : List Nat} {res : V}
    (hoi : all[i]? = some o) (hw : xwant s all o = some true) (ho : o.op = .call c) (ha : xargs L s c = some (f, vs, ids)) (hs : Spec P f vs res) (hids : idd = ids ∨ res.flat = true ∧ idd = [])
    (h : OKs C all n (listed.setIfInBounds i true) pr k ((dropIds idd s).put o.dst res)) : OKsStep C all n listed pr k s i := fun Q hN hQ => step_call mono_any hoi hw ho ha hs hids (h Q hN hQ)
/-- what only computes, first -/
theorem oks_pure (i : Nat) {n : Nat} {listed : Array Bool} {pr : List (Nat × Nat)} {k : List It} {o : Oper} {s : XS} {x : V} (ho : all[i]? = some o) (hs : Region.noSelect all.toArray = true) (hf : (Region.free .any all.toArray listed i && (Region.ready .any all.toArray listed).contains i) = true) (hc : opClass o.op = 0) (hw : xwant s all o = some true) (hp : xpure L o.op s = some x)
    (h : OKs C all n (listed.setIfInBounds i true) pr k (s.put o.dst x)) : OKs C all (n + 1) listed pr k s := by
  intro Q hN hQ φ a w imm hi hg
  obtain ⟨u, h1, h2⟩ := run_xpure C.lay hg.sim hp
  simp only [Bool.and_eq_true] at hf
  have hsel := Region.noSelect_spec hs
  exact wpAnyR_first (S := fun _ => True) (pr1 := imm ++ blocksOf φ pr) (by simpa using ho) (fun j o cs b hj => hsel j o cs b hj) (fun c a w h => (hQ _ _ _ h).elim) (fun _ h => h) (fun _ _ _ _ _ _ => trivial) n listed a w (Region.free_spec (by simpa using ho) hf.1) (by simpa using hf.2)
    (.inl ⟨want_ok hg.sim hw, fun w1 _ => h2 w1 (.inl hc)⟩) trivial (h Q hN hQ φ _ w imm hi (hg.put o.dst h1))
/-- a load, first -/
theorem oks_load (i : Nat) {n : Nat} {listed : Array Bool} {pr : List (Nat × Nat)} {k : List It} {o : Oper} {s : XS} {t : Nat} {p : Operand} {x : V} {src : Option Nat} (ho : all[i]? = some o) (hs : Region.noSelect all.toArray = true) (hf : (Region.free .any all.toArray listed i && (Region.ready .any all.toArray listed).contains i) = true) (hop : o.op = .load t p) (hw : xwant s all o = some true)
    (hsr : srcOf (s.ev p) = some src) (hp : xpure L (.load t p) s = some x) (h : OKs C all n (listed.setIfInBounds i true) (addSrc i src pr) k (s.put o.dst x)) : OKs C all (n + 1) listed pr k s := by
  intro Q hN hQ φ a w imm hi hg
  simp only [Bool.and_eq_true] at hf
  have hsel := Region.noSelect_spec hs
  simp only [xpure] at hp
  split at hp
  · rename_i rw' hr
    obtain ⟨u, b, h1, h2, h3⟩ := run_xloadB hg.sim (C.lay t _ hr) hp (ev_rep hg.sim p)
    have hx : ∀ w1 : World, w1.heap[b]? = w.heap[b]? → (execOp a.eval o).run P w1 = .ok (.value u) w1 := fun w1 hw1 => by
      rw [execOp, hop]
      have := h3 w1 hw1
      show ((do pure (.value (← Instr.loadAt t (a.eval p))) : Sem Next)).run P w1 = _
      simp [Sem.run_bind, this]
    have main : ∀ pr2, wpAnyR P .any all.toArray Q pr2 n (listed.setIfInBounds i true) (a.put o.dst u) w → (∀ q, q ∈ (i, b) :: (imm ++ blocksOf φ pr) → q ∈ pr2) → wpAnyR P .any all.toArray Q (imm ++ blocksOf φ pr) (n + 1) listed a w := fun pr2 hh hsub =>
      wpAnyR_first (S := fun w1 => w1.heap[b]? = w.heap[b]?) (pr1 := pr2) (by simpa using ho) (fun j o cs b hj => hsel j o cs b hj) (fun c a w h => (hQ _ _ _ h).elim) (fun p h => hsub _ (List.mem_cons_of_mem _ h))
        (fun j w1 w2 hS hwt hK => (hK (i, b) (hsub _ (by simp)) hwt).trans hS) n listed a w (Region.free_spec (by simpa using ho) hf.1) (by simpa using hf.2) (.inl ⟨want_ok hg.sim hw, hx⟩) rfl hh
    have own : ∀ (id ob : Nat), src = some id → φ[id]? = some (some (b, ob)) → wpAnyR P .any all.toArray Q (imm ++ blocksOf φ pr) (n + 1) listed a w := fun id ob hsrc h4 => by
      subst hsrc
      refine main _ (h Q hN hQ φ _ w imm hi (hg.put o.dst h1)) fun q hq => ?_
      rcases List.mem_cons.1 hq with rfl | hq
      · exact List.mem_append.2 (.inr (blocksOf_of h4 _ (by simp [addSrc])))
      · rcases List.mem_append.1 hq with hq | hq
        · exact List.mem_append.2 (.inl hq)
        · obtain ⟨id2, o2, k1, k2⟩ := blocksOf_mem _ hq
          exact List.mem_append.2 (.inr (blocksOf_of k2 _ (List.mem_cons_of_mem _ k1)))
    cases hv : s.ev p with
    | ptr id off =>
      rw [hv] at hsr h2
      simp only [srcOf, Option.some.injEq] at hsr
      obtain ⟨ob, h4⟩ := h2
      exact own id ob hsr.symm h4
    | aptr es id kk off =>
      rw [hv] at hsr h2
      simp only [srcOf, Option.some.injEq] at hsr
      obtain ⟨ob, h4⟩ := h2
      exact own id ob hsr.symm h4
    | iptr es xs kk off =>
      rw [hv] at hsr h2
      simp only [srcOf, Option.some.injEq] at hsr
      subst hsr
      obtain ⟨h4, h5⟩ := h2
      exact main _ (h Q hN hQ φ _ w ((i, b) :: imm) (fun q hq => by
        rcases List.mem_cons.1 hq with rfl | hq
        · exact ⟨h4.2, h5⟩
        · exact hi q hq) (hg.put o.dst h1)) fun q hq => by simpa [addSrc] using hq
    | _ => rw [hv] at hsr; simp [srcOf] at hsr
  · cases hp
/-- the state, reckoned out -/
theorem oks_n {n : Nat} {listed : Array Bool} {pr : List (Nat × Nat)} {k : List It} {s s2 : XS} (e : forceS s some = some s2) (h : OKs C all n listed pr k s2) : OKs C all n listed pr k s := by
  rw [forceS_eq] at e
  rw [Option.some.inj e]; exact h
/-- a piece of code, and what may be said of the states behind it -/
theorem ok_cut {c : Code} {k : List It} {s : XS} (N : XS → Prop) (h : OK C (.code c :: .pause N :: k) s) (hn : ∀ s2, N s2 → OK C k s2) : OK C (.code c :: k) s := by
  intro φ a w hg
  refine wp_mono (h φ a w hg) fun e a' w' hq => ?_
  cases e <;> first | exact hq | skip
  obtain ⟨s2, φ2, h1, h2⟩ := hq
  exact hn s2 h1 φ2 a' w' h2
end
end Go.Proofs.Ytblmoikhfmkfnaa
