/- The abstract machine, 19: closed runs. A function called with data that are known is run to its end, its calls and loops with it. -/
import Derived.Test.YtblmoikhfmkfnaaM17
import Derived.Test.YtblmoikhfmkfnaaM21
namespace Go.Proofs.Ytblmoikhfmkfnaa
set_option linter.unusedSimpArgs false
set_option linter.unusedVariables false
open Go.RowKit Go

/-! ### data laid out -/
def fN {β : Type} (n : Nat) (c : Nat → β) : β := match n with
  | 0 => c 0
  | n + 1 => c (n + 1)
theorem fN_eq {β : Type} (n : Nat) (c : Nat → β) : fN n c = c n := by cases n <;> rfl
def fI {β : Type} (n : Int) (c : Int → β) : β := match n with
  | .ofNat n => fN n fun n => c (.ofNat n)
  | .negSucc n => fN n fun n => c (.negSucc n)
theorem fI_eq {β : Type} (n : Int) (c : Int → β) : fI n c = c n := by cases n <;> simp only [fI, fN_eq]
mutual
def fD {β : Type} : D → (D → β) → β
  | .int k n, c => fI n fun n => c (.int k n)
  | .bool b, c => match b with
    | true => c (.bool true)
    | false => c (.bool false)
  | .str l, c => forceL l fun l => c (.str l)
  | .sc v, c => c (.sc v)
  | .agg cs, c => fDs cs fun cs => c (.agg cs)
  | .sl es cl xs, c => fDs xs fun xs => c (.sl es cl xs)
def fDs {β : Type} : List D → (List D → β) → β
  | [], c => c []
  | x :: r, c => fD x fun x => fDs r fun r => c (x :: r)
end
mutual
theorem fD_eq {β : Type} : ∀ (d : D) (c : D → β), fD d c = c d
  | .int k n, c => by simp only [fD, fI_eq]
  | .bool b, c => by cases b <;> simp only [fD]
  | .str l, c => by simp only [fD, forceL_eq]
  | .sc v, c => by simp only [fD]
  | .agg cs, c => by simp only [fD, fDs_eq cs]
  | .sl es cl xs, c => by simp only [fD, fDs_eq xs]
theorem fDs_eq {β : Type} : ∀ (d : List D) (c : List D → β), fDs d c = c d
  | [], c => by simp only [fDs]
  | x :: r, c => by simp only [fDs, fD_eq x, fDs_eq r]
end
def fV {β : Type} (v : V) (c : V → β) : β := match v with
  | .d x => fD x fun x => c (.d x)
  | v => c v
theorem fV_eq {β : Type} (v : V) (c : V → β) : fV v c = c v := by cases v <;> simp only [fV, fD_eq]
def fVs {β : Type} : List V → (List V → β) → β
  | [], c => c []
  | x :: r, c => fV x fun x => fVs r fun r => c (x :: r)
theorem fVs_eq {β : Type} : ∀ (l : List V) (c : List V → β), fVs l c = c l
  | [], _ => rfl
  | x :: r, c => by simp only [fVs, fV_eq, fVs_eq r]
def fB {β : Type} (l : List (Option Blk)) (c : List (Option Blk) → β) : β := match l with
  | [] => c []
  | some (.arr es xs) :: r => fDs xs fun xs => fB r fun r => c (some (.arr es xs) :: r)
  | x :: r => fB r fun r => c (x :: r)
theorem fB_eq {β : Type} : ∀ (l : List (Option Blk)) (c : List (Option Blk) → β), fB l c = c l
  | [], c => by simp only [fB]
  | none :: r, c => by simp only [fB, fB_eq r]
  | some (.arr es xs) :: r, c => by simp only [fB, fB_eq r, fDs_eq]
  | some (.box cs) :: r, c => by simp only [fB, fB_eq r]
def XS.putC {β : Type} (s : XS) (d : Option Nat) (v : V) (c : XS → β) : β := fV v fun v => s.putF d v c
theorem XS.putC_eq {β : Type} (s : XS) (d : Option Nat) (v : V) (c : XS → β) : s.putC d v c = c (s.put d v) := by simp only [XS.putC, fV_eq, XS.putF_eq]
def forceC {β : Type} (s : XS) (c : XS → β) : β := forceS s fun s => match s with
  | ⟨sl, mem⟩ => fB mem fun mem => c ⟨sl, mem⟩
theorem forceC_eq {β : Type} (s : XS) (c : XS → β) : forceC s c = c s := by
  cases s; simp only [forceC, forceS_eq, fB_eq]

section
variable (P : Program) (L : List (Option Row))
def runWith (run : List It → XS → Option XS) (f : Nat) (ds : List V) : Option V := match P.funcs[f]? with
  | some fn => match fn.name == "runtime.NumGoroutine", fn.body with
    | false, some body => match forceC (xinit ds (fn.ntmps - ds.length)) (run [.code body]) with
      | some s => xret L fn.results.toList fn.resultTypes.toList s
      | none => none
    | _, _ => none
  | none => none
def callWith (run : List It → XS → Option XS) (o : Oper) (s : XS) : Option (V × XS) := match o.op with
  | .call c => match xargs L s c with
    | some (f, vs, ids) => match fVs vs (runWith P L run f) with
      | some v => match v.flat with
        | true => some (v, s)
        | false => some (v, dropIds ids s)
      | none => none
    | none => none
  | _ => none
def xbig : Nat → List It → XS → Option XS
  | 0, _, _ => none
  | n + 1, k, s => match k with
    | [] => some s
    | .pause _ :: _ => none
    | .blk _ :: k => xbig n k s
    | .rounds c m :: k => match m with
      | 0 => none
      | m + 1 => xbig n (.code c :: .rounds c m :: k) s
    | .ops all rest :: k => match rest with
      | [] => xbig n k s
      | o :: r => match xwant s all o with
        | some w => match w with
          | false => s.putC o.dst (.tup []) fun s => xbig n (.ops all r :: k) s
          | true => match xpure L o.op s with
            | some v => s.putC o.dst v fun s => xbig n (.ops all r :: k) s
            | none => match xeff L o.op s with
              | some (v, s') => forceC s' fun s' => s'.putC o.dst v fun s => xbig n (.ops all r :: k) s
              | none => match xpure2 L o.op s with
                | some v => s.putC o.dst v fun s => xbig n (.ops all r :: k) s
                | none => match callWith P L (xbig n) o s with
                  | some (v, s') => forceC s' fun s' => s'.putC o.dst v fun s => xbig n (.ops all r :: k) s
                  | none => none
        | none => none
    | .qops all rest tl :: k => match rest with
      | [] => xbig n (.ops all tl :: k) s
      | o :: r => match xwant s all o with
        | some w => match w with
          | false => s.putC o.dst (.tup []) fun s => xbig n (.qops all r tl :: k) s
          | true => match xpure L o.op s with
            | some v => s.putC o.dst v fun s => xbig n (.qops all r tl :: k) s
            | none => match xpure2 L o.op s with
              | some v => s.putC o.dst v fun s => xbig n (.qops all r tl :: k) s
              | none => match callWith P L (xbig n) o s with
                | some (v, _) => match v.flat with
                  | true => s.putC o.dst v fun s => xbig n (.qops all r tl :: k) s
                  | false => none
                | none => none
        | none => none
    | .mops all l :: k => match l with
      | [] => xbig n k s
      | i :: r => match all[i]? with
        | some o => match xwant s all o with
          | some w => match w with
            | false => s.putC o.dst (.tup []) fun s => xbig n (.mops all r :: k) s
            | true => match xpure L o.op s with
              | some v => s.putC o.dst v fun s => xbig n (.mops all r :: k) s
              | none => match xeff L o.op s with
                | some (v, s') => forceC s' fun s' => s'.putC o.dst v fun s => xbig n (.mops all r :: k) s
                | none => none
          | none => none
        | none => none
    | .code c :: k => match c with
      | .skip => xbig n k s
      | .seq a b => xbig n (.code a :: .code b :: k) s
      | .cond c a b => match s.ev c with
        | .d (.bool t) => match t with
          | true => xbig n (.code a :: k) s
          | false => xbig n (.code b :: k) s
        | _ => none
      | .block id c => xbig n (.code c :: .blk id :: k) s
      | .region id ops draw => match draw with
        | false => xbig n (.ops ops.toList ops.toList :: k) s
        | true => match forceL ops.toList (quietLen 0) with
          | m => match drawB ops m with
            | true => xbig n (.qops ops.toList (ops.toList.take m) (ops.toList.drop m) :: k) s
            | false => match forceL (upto 0 ops.toList) (mixB .any ops) with
              | true => forceL (upto 0 ops.toList) fun l => xbig n (.mops ops.toList l :: k) s
              | false => none
      | .exit id => match popExit id k with
        | some k' => xbig n k' s
        | none => none
      | .ret => some s
      | .loop body => xbig n (.code body :: .rounds body 1000000 :: k) s
      | _ => none
end

section
variable {P : Program} {L : List (Option Row)}
theorem runWith_sound (hL : LayOk P L) (hm : P.follows .mixedOrders = true) {run : List It → XS → Option XS} (hrun : ∀ k s s2, run k s = some s2 → ∀ C : Cx P L, C.T s2 → OK C k s)
    {f : Nat} {ds : List V} {v : V} (h : runWith P L run f ds = some v) : Spec P f ds v := by
  unfold runWith at h
  split at h
  · rename_i fn hf
    split at h
    · rename_i body hn hb
      rw [forceC_eq] at h
      split at h
      · rename_i s2 hs
        exact spec_of hL hm hf hb hn fun C hT => hrun _ _ _ hs C (by rw [hT]; exact ⟨_, h, Wk.of_eq rfl⟩)
      · cases h
    · cases h
  · cases h
theorem callWith_sound (hL : LayOk P L) (hm : P.follows .mixedOrders = true) {run : List It → XS → Option XS} (hrun : ∀ k s s2, run k s = some s2 → ∀ C : Cx P L, C.T s2 → OK C k s)
    {o : Oper} {s s2 : XS} {v : V} (h : callWith P L run o s = some (v, s2)) : ∃ c f vs ids idd, o.op = .call c ∧ xargs L s c = some (f, vs, ids) ∧ Spec P f vs v ∧ (idd = ids ∨ v.flat = true ∧ idd = []) ∧ s2 = dropIds idd s := by
  unfold callWith at h
  split at h
  · rename_i c hc
    split at h
    · rename_i f vs ids ha
      rw [fVs_eq] at h
      split at h
      · rename_i x hx
        split at h
        · rename_i hfl
          simp only [Option.some.injEq, Prod.mk.injEq] at h
          obtain ⟨rfl, rfl⟩ := h
          exact ⟨c, f, vs, ids, [], hc, ha, runWith_sound hL hm hrun hx, .inr ⟨hfl, rfl⟩, rfl⟩
        · simp only [Option.some.injEq, Prod.mk.injEq] at h
          obtain ⟨rfl, rfl⟩ := h
          exact ⟨c, f, vs, ids, ids, hc, ha, runWith_sound hL hm hrun hx, .inl rfl, rfl⟩
      · cases h
    · cases h
  · cases h
theorem xbig_sound (hL : LayOk P L) (hm : P.follows .mixedOrders = true) : ∀ (n : Nat) (k : List It) (s s2 : XS), xbig P L n k s = some s2 → ∀ C : Cx P L, C.T s2 → OK C k s := by
  intro n
  induction n with
  | zero => intro k s s2 h; cases h
  | succ n ih =>
    intro k s s2 h C hT
    unfold xbig at h
    simp only [XS.putC_eq, forceC_eq] at h
    split at h
    · simp only [Option.some.injEq] at h
      subst h
      exact ok_end hT
    · cases h
    · intro φ a w hg
      exact ih _ _ _ h C hT φ a w hg
    · split at h
      · cases h
      · intro φ a w hg
        exact ih _ _ _ h C hT φ a w hg
    · split at h
      · exact ok_nil (ih _ _ _ h C hT)
      · split at h
        · rename_i w hw
          split at h
          · exact ok_skip hw (ih _ _ _ h C hT)
          · split at h
            · rename_i v hv
              exact ok_pure hw hv (ih _ _ _ h C hT)
            · split at h
              · rename_i v s' hv
                exact ok_eff hw hv (ih _ _ _ h C hT)
              · split at h
                · rename_i v hv
                  exact ok_pure2 hw hv (ih _ _ _ h C hT)
                · split at h
                  · rename_i v s' hv
                    obtain ⟨c, f, vs, ids, idd, h1, h2, h3, h4, rfl⟩ := callWith_sound hL hm ih hv
                    exact ok_call hw h1 h2 h3 h4 (ih _ _ _ h C hT)
                  · cases h
        · cases h
    · split at h
      · exact ok_qnil (ih _ _ _ h C hT)
      · split at h
        · rename_i w hw
          split at h
          · exact ok_qskip hw (ih _ _ _ h C hT)
          · split at h
            · rename_i v hv
              exact ok_qpure hw hv (ih _ _ _ h C hT)
            · split at h
              · rename_i v hv
                exact ok_qpure2 hw hv (ih _ _ _ h C hT)
              · split at h
                · rename_i v s' hv
                  split at h
                  · rename_i hfl
                    obtain ⟨c, f, vs, ids, idd, h1, h2, h3, h4, _⟩ := callWith_sound hL hm ih hv
                    exact ok_qcall hw h1 h2 h3 hfl (ih _ _ _ h C hT)
                  · cases h
                · cases h
        · cases h
    · split at h
      · exact ok_mnil (ih _ _ _ h C hT)
      · split at h
        · rename_i o ho
          split at h
          · rename_i w hw
            split at h
            · exact ok_mskip ho hw (ih _ _ _ h C hT)
            · split at h
              · rename_i v hv
                exact ok_mpure ho hw hv (ih _ _ _ h C hT)
              · split at h
                · rename_i v s' hv
                  exact ok_meff ho hw hv (ih _ _ _ h C hT)
                · cases h
          · cases h
        · cases h
    · split at h
      · intro φ a w hg; exact wp_skip (ih _ _ _ h C hT φ a w hg)
      · intro φ a w hg; exact wp_seq (ih _ _ _ h C hT φ a w hg)
      · rename_i c x y
        split at h
        · rename_i t ht
          intro φ a w hg
          have hc := ev_rep hg.sim c
          rw [ht] at hc
          simp only [V.rep, D.rep] at hc
          split at h
          · exact wp_cond_true hc (ih _ _ _ h C hT φ a w hg)
          · exact wp_cond_false hc (ih _ _ _ h C hT φ a w hg)
        · cases h
      · intro φ a w hg; exact wp_block (ih _ _ _ h C hT φ a w hg)
      · rename_i id ops draw
        split at h
        · intro φ a w hg
          exact wp_region_list (by have := ih _ _ _ h C hT φ a w hg; simpa [kQ, Exit.then] using this)
        · rw [forceL_eq] at h
          split at h
          · rename_i hB
            exact ok_drawB (l := ops.toList) _ hB (ih _ _ _ h C hT)
          · simp only [forceL_eq] at h
            split at h
            · rename_i hB
              exact ok_mix _ hB (ih _ _ _ h C hT)
            · cases h
      · split at h
        · rename_i k' hk
          intro φ a w hg
          exact wp_exit (kQ_exit _ _ _ _ hk (ih _ _ _ h C hT φ a w hg))
        · cases h
      · simp only [Option.some.injEq] at h
        subst h
        exact ok_ret hT
      · exact ok_unroll 1000000 (ih _ _ _ h C hT)
      · cases h
/-- a closed call, run -/
theorem spec_run (hL : LayOk P L) (hm : P.follows .mixedOrders = true) (n : Nat) {f : Nat} {ds : List V} {v : V} (h : runWith P L (xbig P L n) f ds = some v) : Spec P f ds v := runWith_sound hL hm (xbig_sound hL hm n) h
end
end Go.Proofs.Ytblmoikhfmkfnaa
