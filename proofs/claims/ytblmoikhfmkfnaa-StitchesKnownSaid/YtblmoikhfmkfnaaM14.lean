/- The abstract machine, 14: control. xgo runs code till a call, a loop, a region whose order is open, or a test that is not decided. -/
import Derived.Test.YtblmoikhfmkfnaaM13
import Derived.Test.YtblmoikhfmkfnaaBase
import Derived.Test.YtblmoikhfmkfnaaMix
namespace Go.Proofs.Ytblmoikhfmkfnaa
set_option linter.unusedSimpArgs false
set_option linter.unusedVariables false
open Go.RowKit Go

inductive It where
  | code (c : Code)
  | blk (id : Nat)
  | ops (all rest : List Oper)
  | qops (all rest tl : List Oper)
  | pause (N : XS → Prop)
  | rounds (c : Code) (n : Nat)
  | mops (all : List Oper) (l : List Nat)

def XS.put (s : XS) (d : Option Nat) (v : V) : XS := match d with
  | some i => ⟨putV s.sl i v, s.mem⟩
  | none => s

/-- where the code behind block id's exit stands -/
def popExit (id : Nat) : List It → Option (List It)
  | [] => none
  | .blk i :: k => match Nat.beq id i with
    | true => some k
    | false => popExit id k
  | _ :: k => popExit id k
/-- is the operation wanted? (its guard is another operation's slot) -/
def xwant (s : XS) (all : List Oper) (o : Oper) : Option Bool := match o.guard with
  | none => some true
  | some (j, b) => match all[j]? with
    | some g => match g.dst with
      | some t => match getV s.sl t with
        | .d (.bool x) => match x, b with
          | true, true => some true
          | false, false => some true
          | true, false => some false
          | false, true => some false
        | .tup [] => some false
        | _ => none
      | none => none
    | none => none

inductive Out where
  | at (k : List It) (s : XS)
  | fail

/-! ### Evaluation by name: states are laid out before they are handed on -/
def forceL {α β : Type} : List α → (List α → β) → β
  | [], k => k []
  | x :: r, k => forceL r (fun r' => k (x :: r'))
theorem forceL_eq {α β : Type} : ∀ (l : List α) (k : List α → β), forceL l k = k l
  | [], _ => rfl
  | x :: r, k => by simp [forceL, forceL_eq r]
/-- a number that is known, in a short form -/
def forceN {β : Type} : Nat → (Nat → β) → β
  | 0, k => k 0
  | n + 1, k => forceN n fun m => k (m + 1)
theorem forceN_eq {β : Type} : ∀ (n : Nat) (k : Nat → β), forceN n k = k n
  | 0, _ => rfl
  | n + 1, k => by simp [forceN, forceN_eq n]
def forceV {β : Type} (v : V) (k : V → β) : β := match v with
  | .d x => k (.d x)
  | .agg cs => forceL cs fun cs => k (.agg cs)
  | .tup vs => forceL vs fun vs => k (.tup vs)
  | .ptr i o => forceN i fun i => k (.ptr i o)
  | .own es i o n c => forceN es fun es => forceN i fun i => k (.own es i o n c)
  | .aptr es i n o => forceN es fun es => forceN i fun i => k (.aptr es i n o)
  | .iptr es xs n o => forceN es fun es => k (.iptr es xs n o)
  | .fn f cap => k (.fn f cap)
  | .undef => k .undef
theorem forceV_eq {β : Type} (v : V) (k : V → β) : forceV v k = k v := by cases v <;> simp [forceV, forceL_eq, forceN_eq]
def forceLV {β : Type} : List V → (List V → β) → β
  | [], k => k []
  | x :: r, k => forceV x fun x => forceLV r fun r' => k (x :: r')
theorem forceLV_eq {β : Type} : ∀ (l : List V) (k : List V → β), forceLV l k = k l
  | [], _ => rfl
  | x :: r, k => by simp [forceLV, forceV_eq, forceLV_eq r]
def forceM {β : Type} : List (Option Blk) → (List (Option Blk) → β) → β
  | [], k => k []
  | none :: r, k => forceM r (fun r' => k (none :: r'))
  | some (.box cs) :: r, k => forceLV cs fun cs => forceM r (fun r' => k (some (.box cs) :: r'))
  | some (.arr es xs) :: r, k => forceN es fun es => forceM r (fun r' => k (some (.arr es xs) :: r'))
theorem forceM_eq {β : Type} : ∀ (l : List (Option Blk)) (k : List (Option Blk) → β), forceM l k = k l
  | [], _ => rfl
  | none :: r, k => by simp [forceM, forceM_eq r]
  | some (.box cs) :: r, k => by simp [forceM, forceM_eq r, forceLV_eq]
  | some (.arr es xs) :: r, k => by simp [forceM, forceM_eq r, forceN_eq]
def forceS {β : Type} (s : XS) (k : XS → β) : β := match s with
  | ⟨sl, mem⟩ => forceLV sl fun sl => forceM mem fun mem => k ⟨sl, mem⟩
theorem forceS_eq {β : Type} (s : XS) (k : XS → β) : forceS s k = k s := by cases s; simp [forceS, forceLV_eq, forceM_eq]
def putK {β : Type} : List V → Nat → V → (List V → β) → β
  | [], _, _, k => k []
  | _ :: r, 0, v, k => k (v :: r)
  | x :: r, i + 1, v, k => putK r i v (fun r' => k (x :: r'))
theorem putK_eq {β : Type} : ∀ (l : List V) (i : Nat) (v : V) (k : List V → β), putK l i v k = k (putV l i v)
  | [], _, _, _ => rfl
  | _ :: _, 0, _, _ => rfl
  | x :: r, i + 1, v, k => by simp [putK, putV, putK_eq r]
def XS.putF {β : Type} (s : XS) (d : Option Nat) (v : V) (k : XS → β) : β := forceV v fun v => match s with
  | ⟨sl, mem⟩ => match d with
    | some i => putK sl i v fun sl => k ⟨sl, mem⟩
    | none => k ⟨sl, mem⟩
theorem XS.putF_eq {β : Type} (s : XS) (d : Option Nat) (v : V) (k : XS → β) : s.putF d v k = k (s.put d v) := by
  cases s
  cases d <;> simp [XS.putF, forceV_eq, putK_eq, XS.put]

section
variable (L : List (Option Row))
def xgo : Nat → List It → XS → Out
  | 0, k, s => .at k s
  | n + 1, k, s => match k with
    | [] => .at [] s
    | .pause N :: k => .at (.pause N :: k) s
    | .blk _ :: k => xgo n k s
    | .rounds c m :: k => match m with
      | 0 => .fail
      | m + 1 => xgo n (.code c :: .rounds c m :: k) s
    | .ops all rest :: k => match rest with
      | [] => xgo n k s
      | o :: r => match xwant s all o with
        | some w => match w with
          | false => s.putF o.dst (.tup []) fun s => xgo n (.ops all r :: k) s
          | true => match asks L o.op s with
            | true => .at (.ops all (o :: r) :: k) s
            | false => match xpure L o.op s with
              | some v => s.putF o.dst v fun s => xgo n (.ops all r :: k) s
              | none => match xeff L o.op s with
                | some (v, s') => forceS s' fun s' => s'.putF o.dst v fun s => xgo n (.ops all r :: k) s
                | none => .at (.ops all (o :: r) :: k) s
        | none => .fail
    | .qops all rest tl :: k => match rest with
      | [] => xgo n (.ops all tl :: k) s
      | o :: r => match xwant s all o with
        | some w => match w with
          | false => s.putF o.dst (.tup []) fun s => xgo n (.qops all r tl :: k) s
          | true => match asks L o.op s with
            | true => .at (.qops all (o :: r) tl :: k) s
            | false => match xpure L o.op s with
              | some v => s.putF o.dst v fun s => xgo n (.qops all r tl :: k) s
              | none => .at (.qops all (o :: r) tl :: k) s
        | none => .fail
    | .mops all l :: k => match l with
      | [] => xgo n k s
      | i :: r => match all[i]? with
        | some o => match xwant s all o with
          | some w => match w with
            | false => s.putF o.dst (.tup []) fun s => xgo n (.mops all r :: k) s
            | true => match asks L o.op s with
              | true => .at (.mops all (i :: r) :: k) s
              | false => match xpure L o.op s with
                | some v => s.putF o.dst v fun s => xgo n (.mops all r :: k) s
                | none => match xeff L o.op s with
                  | some (v, s') => forceS s' fun s' => s'.putF o.dst v fun s => xgo n (.mops all r :: k) s
                  | none => .at (.mops all (i :: r) :: k) s
          | none => .fail
        | none => .fail
    | .code c :: k => match c with
      | .skip => xgo n k s
      | .seq a b => xgo n (.code a :: .code b :: k) s
      | .cond c a b => match s.ev c with
        | .d (.bool t) => match t with
          | true => xgo n (.code a :: k) s
          | false => xgo n (.code b :: k) s
        | _ => .fail
      | .block id c => xgo n (.code c :: .blk id :: k) s
      | .region id ops draw => match draw with
        | false => xgo n (.ops ops.toList ops.toList :: k) s
        | true => .at (.code (.region id ops true) :: k) s
      | .exit id => match popExit id k with
        | some k' => xgo n k' s
        | none => .fail
      | .ret => .at (.code .ret :: k) s
      | c => .at (.code c :: k) s
end

/-- what holds where the run of a call stands: the call's own memory, and that nothing else has turned -/
structure Good (S0 : Nat → Prop) (w0 : World) (φ0 : Phi) (s : XS) (φ : Phi) (a : Act) (w : World) : Prop where
  sim : Sim w (SS S0 w0.heap.size φ) φ s a
  frame : FrameTo φ0 w0 φ w

/-- a call under way: its program, what it was handed, and what must hold where it returns -/
structure Cx (P : Program) (L : List (Option Row)) where
  lay : LayOk P L
  mixed : P.follows .mixedOrders = true
  S0 : Nat → Prop
  w0 : World
  φ0 : Phi
  own : φ0 = []
  B : Exit → Act → World → Prop
  T : XS → Prop
  ret : ∀ s φ a w, T s → Good S0 w0 φ0 s φ a w → B .ret a w ∧ B .normal a w

variable {P : Program} {L : List (Option Row)}
def kQ (C : Cx P L) : List It → Exit → Act → World → Prop
  | [] => C.B
  | .code c :: k => Exit.then (fun a w => c.wp P (kQ C k) a w) (kQ C k)
  | .blk id :: k => Exit.inBlock id (kQ C k)
  | .ops all rest :: k => Exit.then (fun a w => wpList P all.toArray (kQ C k) rest a w) (kQ C k)
  | .qops all rest tl :: k => Exit.then (fun a w => wpQuiet P all.toArray (fun w' => Below w.heap.size w w') (fun a' => ∀ w', Below w.heap.size w w' → wpList P all.toArray (kQ C k) tl a' w') rest a) (kQ C k)
  | .pause N :: k => Exit.then (fun a w => ∃ s φ, N s ∧ Good C.S0 C.w0 C.φ0 s φ a w) (kQ C k)
  | .rounds c n :: k => Exit.then (Code.rounds P c (kQ C k) n) (kQ C k)
  | .mops all l :: k => Exit.then (fun a w => wpSeq P all.toArray (fun a w => kQ C k .normal a w) l a w) (kQ C k)

def OK (C : Cx P L) (k : List It) (s : XS) : Prop := ∀ φ a w, Good C.S0 C.w0 C.φ0 s φ a w → kQ C k .normal a w
def Out.ok (C : Cx P L) : Out → Prop
  | .at k s => OK C k s
  | .fail => False

section
variable {C : Cx P L}

theorem kQ_ret : ∀ (k : List It) (a : Act) (w : World), kQ C k .ret a w = C.B .ret a w
  | [], _, _ => rfl
  | .code _ :: k, a, w => kQ_ret k a w
  | .blk _ :: k, a, w => kQ_ret k a w
  | .ops _ _ :: k, a, w => kQ_ret k a w
  | .qops _ _ _ :: k, a, w => kQ_ret k a w
  | .pause _ :: k, a, w => kQ_ret k a w
  | .rounds _ _ :: k, a, w => kQ_ret k a w
  | .mops _ _ :: k, a, w => kQ_ret k a w
theorem kQ_exit {id : Nat} : ∀ (k k' : List It) (a : Act) (w : World), popExit id k = some k' → kQ C k' .normal a w → kQ C k (.exit id) a w
  | [], _, _, _, h, _ => by simp [popExit] at h
  | .code _ :: k, k', a, w, h, hk => kQ_exit (id := id) k k' a w h hk
  | .ops _ _ :: k, k', a, w, h, hk => kQ_exit (id := id) k k' a w h hk
  | .qops _ _ _ :: k, k', a, w, h, hk => kQ_exit (id := id) k k' a w h hk
  | .pause _ :: k, k', a, w, h, hk => kQ_exit (id := id) k k' a w h hk
  | .rounds _ _ :: k, k', a, w, h, hk => kQ_exit (id := id) k k' a w h hk
  | .mops _ _ :: k, k', a, w, h, hk => kQ_exit (id := id) k k' a w h hk
  | .blk i :: k, k', a, w, h, hk => by
    simp only [popExit] at h
    show Exit.inBlock i (kQ C k) (.exit id) a w
    simp only [Exit.inBlock]
    split at h
    · rename_i hb
      simp only [Option.some.injEq] at h
      subst h
      rw [if_pos (Nat.eq_of_beq_eq_true hb)]; exact hk
    · rename_i hb
      rw [if_neg (beq_false_ne hb)]
      exact kQ_exit k k' a w h hk

theorem getV_putV : ∀ (l : List V) (i j : Nat) (v : V), getV (putV l i v) j = if i = j ∧ i < l.length then v else getV l j
  | [], i, j, v => by simp [putV, getV]
  | x :: l, 0, 0, v => by simp [putV, getV]
  | x :: l, 0, j + 1, v => by simp [putV, getV]
  | x :: l, i + 1, 0, v => by simp [putV, getV]
  | x :: l, i + 1, j + 1, v => by simp [putV, getV, getV_putV l i j v]
theorem putV_length : ∀ (l : List V) (i : Nat) (v : V), (putV l i v).length = l.length
  | [], i, v => rfl
  | x :: l, 0, v => rfl
  | x :: l, i + 1, v => by simp [putV, putV_length l i v]

theorem Sim.put {w : World} {S : Nat → Prop} {φ : Phi} {s : XS} {a : Act} (H : Sim w S φ s a) (d : Option Nat) {x : V} {u : Value} (h : V.rep w S φ x u) : Sim w S φ (s.put d x) (a.put d u) := by
  cases d with
  | none => exact H
  | some i =>
    refine ⟨fun j => ?_, by simp [XS.put, Act.put, putV_length, H.size], H.mem, H.defers⟩
    show V.rep w S φ (getV (putV s.sl i x) j) ((a.tmps.setIfInBounds i u).getD j undef)
    rw [getV_putV]
    have hlen := H.size
    by_cases hij : i = j ∧ i < s.sl.length
    · rw [if_pos hij]
      obtain ⟨rfl, hlt⟩ := hij
      have : (a.tmps.setIfInBounds i u).getD i undef = u := by simp [Array.getElem?_setIfInBounds]; rw [if_pos (by omega)]; rfl
      rw [this]; exact h
    · rw [if_neg hij]
      have : (a.tmps.setIfInBounds i u).getD j undef = a.tmps.getD j undef := by
        simp only [Array.getD_eq_getD_getElem?, Array.getElem?_setIfInBounds]
        by_cases he : i = j
        · subst he
          rw [if_pos rfl, if_neg (by omega)]
          rw [Array.getElem?_eq_none (by omega)]
        · rw [if_neg he]
      rw [this]; exact H.slots j
theorem Good.put {s : XS} {φ : Phi} {a : Act} {w : World} {S0 : Nat → Prop} {w0 : World} {φ0 : Phi} (H : Good S0 w0 φ0 s φ a w) (d : Option Nat) {x : V} {u : Value} (h : V.rep w (SS S0 w0.heap.size φ) φ x u) : Good S0 w0 φ0 (s.put d x) φ (a.put d u) w := ⟨H.sim.put d h, H.frame⟩

theorem want_ok {w : World} {S : Nat → Prop} {φ : Phi} {s : XS} {a : Act} (H : Sim w S φ s a) {all : List Oper} {o : Oper} {b : Bool} (h : xwant s all o = some b) : Region.wanted o (yielded all.toArray a.tmps) = b := by
  unfold xwant at h
  unfold Region.wanted
  split at h
  · rename_i hg
    simp only [Option.some.injEq] at h
    simp [hg, h]
  · rename_i j c hg
    split at h
    · rename_i g hj
      split at h
      · rename_i t ht
        have hs := H.slots t
        have hlt : t < a.tmps.size ∨ a.tmps[t]? = none := by
          rcases Nat.lt_or_ge t a.tmps.size with h | h
          · exact .inl h
          · exact .inr (Array.getElem?_eq_none h)
        have hy : yielded all.toArray a.tmps j = (match a.tmps[t]? with | some (.bool b) => some b | _ => none) := by
          unfold yielded
          simp only [List.getElem?_toArray, hj, Option.bind_some, ht]
          cases a.tmps[t]? with
          | none => rfl
          | some v => cases v <;> rfl
        simp only [hg, hy]
        split at h
        · rename_i x hx
          rw [hx] at hs
          simp only [V.rep, D.rep, Array.getD_eq_getD_getElem?] at hs
          rcases hlt with hlt | hlt
          · rw [Array.getElem?_eq_getElem hlt] at hs ⊢
            simp only [Option.getD_some] at hs
            simp only [hs]
            split at h <;> simp only [Option.some.injEq] at h <;> subst h <;> rfl
          · rw [hlt] at hs
            simp only [Option.getD_none] at hs
            cases hs
        · rename_i hx
          rw [hx] at hs
          obtain ⟨xs, h1, h2⟩ := hs
          simp only [V.repT] at h2
          subst h2
          simp only [Option.some.injEq] at h
          subst h
          simp only [Array.getD_eq_getD_getElem?] at h1
          rcases hlt with hlt | hlt
          · rw [Array.getElem?_eq_getElem hlt] at h1 ⊢
            simp only [Option.getD_some] at h1
            simp [h1]
          · simp [hlt]
        · cases h
      · cases h
    · cases h

/-- one plain operation -/
theorem ok_pure {all r : List Oper} {o : Oper} {k : List It} {s : XS} {x : V} (hw : xwant s all o = some true) (hp : xpure L o.op s = some x) (h : OK C (.ops all r :: k) (s.put o.dst x)) : OK C (.ops all (o :: r) :: k) s := by
  intro φ a w hg
  obtain ⟨u, h1, h2⟩ := run_xpure C.lay hg.sim hp
  show wpList P all.toArray (kQ C k) (o :: r) a w
  refine wpList_step fun K hK => ?_
  rw [if_pos (want_ok hg.sim hw)]
  unfold Oper.wp
  rw [h2 w (.inr (Same.refl w))]
  exact hK _ _ (h φ _ w (hg.put o.dst h1))
theorem ok_skip {all r : List Oper} {o : Oper} {k : List It} {s : XS} (hw : xwant s all o = some false) (h : OK C (.ops all r :: k) (s.put o.dst (.tup []))) : OK C (.ops all (o :: r) :: k) s := by
  intro φ a w hg
  show wpList P all.toArray (kQ C k) (o :: r) a w
  refine wpList_step fun K hK => ?_
  rw [if_neg (by rw [want_ok hg.sim hw]; exact Bool.false_ne_true)]
  exact hK _ _ (h φ _ w (hg.put o.dst ⟨[], rfl, rfl⟩))
theorem ok_eff {all r : List Oper} {o : Oper} {k : List It} {s s2 : XS} {x : V} (hw : xwant s all o = some true) (hp : xeff L o.op s = some (x, s2)) (h : OK C (.ops all r :: k) (s2.put o.dst x)) : OK C (.ops all (o :: r) :: k) s := by
  intro φ a w hg
  obtain ⟨u, w2, φ2, h1, h2, h3, h4⟩ := run_xeff C.lay hg.frame.size hg.sim hp
  show wpList P all.toArray (kQ C k) (o :: r) a w
  refine wpList_step fun K hK => ?_
  rw [if_pos (want_ok hg.sim hw)]
  unfold Oper.wp
  have hn := h φ2 _ w2 (Good.put ⟨h3, hg.frame.trans h4⟩ o.dst h2)
  rcases h1 with h1 | ⟨rfl, h1⟩
  · rw [h1]; exact hK _ _ hn
  · rw [h1]; exact hK _ _ hn
theorem ok_nil {all : List Oper} {k : List It} {s : XS} (h : OK C k s) : OK C (.ops all [] :: k) s := fun φ a w hg => h φ a w hg
theorem ok_qpure {all r tl : List Oper} {o : Oper} {k : List It} {s : XS} {x : V} (hw : xwant s all o = some true) (hp : xpure L o.op s = some x) (h : OK C (.qops all r tl :: k) (s.put o.dst x)) : OK C (.qops all (o :: r) tl :: k) s := by
  intro φ a w hg
  obtain ⟨u, h1, h2⟩ := run_xpure C.lay hg.sim hp
  show wpQuiet _ _ _ _ (o :: r) a
  refine wpQuiet_step fun K hK => ?_
  rw [if_pos (want_ok hg.sim hw)]
  refine ⟨u, fun w' hw' => ?_, hK _ (h φ _ w (hg.put o.dst h1))⟩
  unfold Oper.quietAt
  rw [h2 w' (.inr fun b hb => hw'.block b hb)]
  exact ⟨rfl, rfl⟩
theorem ok_qskip {all r tl : List Oper} {o : Oper} {k : List It} {s : XS} (hw : xwant s all o = some false) (h : OK C (.qops all r tl :: k) (s.put o.dst (.tup []))) : OK C (.qops all (o :: r) tl :: k) s := by
  intro φ a w hg
  show wpQuiet _ _ _ _ (o :: r) a
  refine wpQuiet_step fun K hK => ?_
  rw [if_neg (by rw [want_ok hg.sim hw]; exact Bool.false_ne_true)]
  exact hK _ (h φ _ w (hg.put o.dst ⟨[], rfl, rfl⟩))

theorem ok_mpure {all : List Oper} {i : Nat} {r : List Nat} {o : Oper} {k : List It} {s : XS} {x : V} (ho : all[i]? = some o) (hw : xwant s all o = some true) (hp : xpure L o.op s = some x) (h : OK C (.mops all r :: k) (s.put o.dst x)) : OK C (.mops all (i :: r) :: k) s := by
  intro φ a w hg
  obtain ⟨u, h1, h2⟩ := run_xpure C.lay hg.sim hp
  show wpSeq P all.toArray _ (i :: r) a w
  have he := h2 w (.inr (Same.refl w))
  refine ⟨o, by simpa using ho, ?_⟩
  rw [if_pos (want_ok hg.sim hw)]
  exact ⟨u, w, .inl he, fun hc w1 => h2 w1 (.inl hc), fun _ => ⟨rfl, he⟩, h φ _ w (hg.put o.dst h1)⟩
theorem ok_mskip {all : List Oper} {i : Nat} {r : List Nat} {o : Oper} {k : List It} {s : XS} (ho : all[i]? = some o) (hw : xwant s all o = some false) (h : OK C (.mops all r :: k) (s.put o.dst (.tup []))) : OK C (.mops all (i :: r) :: k) s := by
  intro φ a w hg
  show wpSeq P all.toArray _ (i :: r) a w
  refine ⟨o, by simpa using ho, ?_⟩
  rw [if_neg (by rw [want_ok hg.sim hw]; exact Bool.false_ne_true)]
  exact h φ _ w (hg.put o.dst ⟨[], rfl, rfl⟩)
theorem xeff_class {op : Op} {s : XS} {r : V × XS} (h : xeff L op s = some r) : opClass op = 2 := by
  cases op <;> first | rfl | (simp [xeff] at h; done)
theorem ok_meff {all : List Oper} {i : Nat} {r : List Nat} {o : Oper} {k : List It} {s s2 : XS} {x : V} (ho : all[i]? = some o) (hw : xwant s all o = some true) (hp : xeff L o.op s = some (x, s2)) (h : OK C (.mops all r :: k) (s2.put o.dst x)) : OK C (.mops all (i :: r) :: k) s := by
  intro φ a w hg
  obtain ⟨u, w2, φ2, h1, h2, h3, h4⟩ := run_xeff C.lay hg.frame.size hg.sim hp
  show wpSeq P all.toArray _ (i :: r) a w
  refine ⟨o, by simpa using ho, ?_⟩
  rw [if_pos (want_ok hg.sim hw)]
  have hc := xeff_class hp
  exact ⟨u, w2, h1.elim .inl (fun h => .inr ⟨h.2, h.1⟩), fun h0 => by omega, fun h0 => absurd hc h0, h φ2 _ w2 (Good.put ⟨h3, hg.frame.trans h4⟩ o.dst h2)⟩
theorem ok_mnil {all : List Oper} {k : List It} {s : XS} (h : OK C k s) : OK C (.mops all [] :: k) s := fun φ a w hg => h φ a w hg
theorem Good.later {S0 : Nat → Prop} {w0 : World} {φ0 : Phi} {s : XS} {φ : Phi} {a : Act} {w w' : World} (H : Good S0 w0 φ0 s φ a w) (hb : Below w.heap.size w w') : Good S0 w0 φ0 s φ a w' := by
  have CV : CarryV w (SS S0 w0.heap.size φ) φ w' (SS S0 w0.heap.size φ) φ :=
    ⟨⟨fun _ h _ => h, fun b _ hlt => hb.block b hlt, hb.size⟩, fun _ _ _ h => h, fun i b o c T f hp hh => ⟨c, T, f, by rw [hb.block b (H.sim.mem.lt ⟨i, o, hp⟩).1]; exact hh, Nat.le_refl _⟩⟩
  refine ⟨⟨fun i => V.rep_mono CV _ _ (H.sim.slots i), H.sim.size, ⟨H.sim.mem.len, fun i bk hi => ?_, H.sim.mem.dead, H.sim.mem.inj⟩, H.sim.defers⟩, H.frame.trans ⟨hb.os, hb.tape, hb.output, hb.size, fun b hlt _ => hb.block b hlt, fun b h => .inl h⟩⟩
  rcases H.sim.mem.ent i bk hi with h0 | ⟨b, o, h0, h1, h2, ⟨c, T, f, h3, h4⟩, h5⟩
  · exact .inl h0
  · exact .inr ⟨b, o, h0, h1, Nat.lt_of_lt_of_le h2 hb.size, ⟨c, T, f, by rw [hb.block b h2]; exact h3, h4⟩, Blk.rep_mono CV (hb.block b h2) h5⟩
theorem ok_qnil {all tl : List Oper} {k : List It} {s : XS} (h : OK C (.ops all tl :: k) s) : OK C (.qops all [] tl :: k) s := by
  intro φ a w hg
  exact (fun w' hw' => h φ a w' (hg.later hw') : ∀ w', Below w.heap.size w w' → kQ C (.ops all tl :: k) .normal a w')
/-- a region whose order is open: its text's order serves, if it is quiet -/
theorem ok_draw {id : Nat} {l : List Oper} {k : List It} {s : XS} (hB : Region.lexB .any l.toArray = true) (h : OK C (.qops l l [] :: k) s) : OK C (.code (.region id l.toArray true) :: k) s := by
  intro φ a w hg
  have hb0 : Below w.heap.size w { w with drawn := w.drawn + 1 } := (Below.refl _ _).drew
  have h1 := h φ a { w with drawn := w.drawn + 1 } (hg.later hb0)
  show (Code.region id l.toArray true).wp P (kQ C k) a w
  refine wp_region_quiet (C := fun w' => Below ({ w with drawn := w.drawn + 1 } : World).heap.size { w with drawn := w.drawn + 1 } w') C.mixed hB (Below.refl _ _) ?_
  simpa [kQ, Exit.then, wpList] using h1
theorem ok_draw_tail {id : Nat} {l : List Oper} {k : List It} {s : XS} (n : Nat) (hB : Region.lexTailB .any l.toArray n = true) (h : OK C (.qops l (l.take n) (l.drop n) :: k) s) : OK C (.code (.region id l.toArray true) :: k) s := by
  intro φ a w hg
  have hb0 : Below w.heap.size w { w with drawn := w.drawn + 1 } := (Below.refl _ _).drew
  have h1 := h φ a { w with drawn := w.drawn + 1 } (hg.later hb0)
  show (Code.region id l.toArray true).wp P (kQ C k) a w
  refine wp_region_class_tail (C := fun w' => Below ({ w with drawn := w.drawn + 1 } : World).heap.size { w with drawn := w.drawn + 1 } w') n C.mixed hB (Below.refl _ _) ?_
  simpa [kQ, Exit.then] using h1

/-- a region whose order is open, with stores in it -/
theorem ok_mix {id : Nat} {ops : Array Oper} {k : List It} {s : XS} (l : List Nat) (hB : mixB .any ops l = true) (h : OK C (.mops ops.toList l :: k) s) : OK C (.code (.region id ops true) :: k) s := by
  intro φ a w hg
  have hb0 : Below w.heap.size w { w with drawn := w.drawn + 1 } := (Below.refl _ _).drew
  have h1 := h φ a { w with drawn := w.drawn + 1 } (hg.later hb0)
  exact wp_region_mix C.mixed l hB h1
theorem ok_mixq {id : Nat} {l : List Oper} {k : List It} {s : XS} (hB : mixB .any l.toArray (upto 0 l) = true) (h : OK C (.mops l (upto 0 l) :: k) s) : OK C (.code (.region id l.toArray true) :: k) s := ok_mix _ hB h
/-- how many operations of a region whose order is open are quiet -/
def quietLen : Nat → List Oper → Nat
  | n, [] => n
  | n, o :: r => match o.op with
    | .store _ _ _ => n
    | .alloc _ => n
    | .box _ _ => n
    | .buildSlice _ _ _ => n
    | .makeSlice _ _ _ => n
    | .call c => match c.callee with
      | .builtin .append => n
      | _ => quietLen (n + 1) r
    | _ => quietLen (n + 1) r
def drawB (ops : Array Oper) (n : Nat) : Bool := match Nat.beq n ops.size with
  | true => Region.lexB .any ops
  | false => Region.lexTailB .any ops n
theorem ok_drawB {id : Nat} {l : List Oper} {k : List It} {s : XS} (n : Nat) (hB : drawB l.toArray n = true) (h : OK C (.qops l (l.take n) (l.drop n) :: k) s) : OK C (.code (.region id l.toArray true) :: k) s := by
  unfold drawB at hB
  split at hB
  · rename_i hn
    have hn : n = l.length := by simpa using Nat.eq_of_beq_eq_true hn
    subst hn
    rw [List.take_length, List.drop_length] at h
    exact ok_draw hB h
  · exact ok_draw_tail n hB h
theorem ok_drawn {id : Nat} {l : List Oper} {k : List It} {s : XS} (hB : drawB l.toArray (quietLen 0 l) = true) (h : OK C (.qops l (l.take (quietLen 0 l)) (l.drop (quietLen 0 l)) :: k) s) : OK C (.code (.region id l.toArray true) :: k) s := ok_drawB _ hB h

theorem ok_loop {body : Code} {k : List It} {s : XS} (I : XS → Prop) (μ : XS → Nat) (h0 : I s) (h : ∀ s', I s' → OK C (.code body :: .pause (fun s2 => I s2 ∧ μ s2 < μ s') :: k) s') : OK C (.code (.loop body) :: k) s := by
  intro φ a w hg
  show (Code.loop body).wp P (kQ C k) a w
  refine wp_loop_ghost (fun n a w => ∃ s' φ', (I s' ∧ μ s' = n) ∧ Good C.S0 C.w0 C.φ0 s' φ' a w) (μ s) ⟨s, φ, ⟨h0, rfl⟩, hg⟩ ?_
  rintro n a' w' ⟨s', φ', ⟨h1, rfl⟩, hg'⟩
  have h2 := h s' h1 φ' a' w' hg'
  refine wp_mono h2 ?_
  intro e a2 w2 hq
  cases e <;> first | exact hq | skip
  obtain ⟨s2, φ2, ⟨h3, h4⟩, h5⟩ := hq
  exact ⟨μ s2, h4, s2, φ2, ⟨h3, rfl⟩, h5⟩

/-- a loop, round by round -/
theorem ok_unroll (n : Nat) {body : Code} {k : List It} {s : XS} (h : OK C (.code body :: .rounds body n :: k) s) : OK C (.code (.loop body) :: k) s := by
  intro φ a w hg
  exact wp_loop_rounds (n + 1) (h φ a w hg)
theorem ok_pause {N : XS → Prop} {k : List It} {s : XS} (h : N s) : OK C (.pause N :: k) s := fun φ a w hg => ⟨s, φ, h, hg⟩
theorem ok_end {s : XS} (h : C.T s) : OK C [] s := fun φ a w hg => (C.ret s φ a w h hg).2
theorem ok_ret {k : List It} {s : XS} (h : C.T s) : OK C (.code .ret :: k) s := fun φ a w hg => wp_ret (by rw [kQ_ret]; exact (C.ret s φ a w h hg).1)

theorem xgo_sound : ∀ (n : Nat) (k : List It) (s : XS), (xgo L n k s).ok C → OK C k s := by
  intro n
  induction n with
  | zero => intro k s h; exact h
  | succ n ih =>
    intro k s h
    unfold xgo at h
    simp only [XS.putF_eq, forceS_eq] at h
    split at h
    · exact h
    · exact h
    · rename_i id k
      intro φ a w hg
      exact ih _ _ h φ a w hg
    · split at h
      · exact h.elim
      · intro φ a w hg
        exact ih _ _ h φ a w hg
    · split at h
      · exact ok_nil (ih _ _ h)
      · split at h
        · rename_i w hw
          split at h
          · exact ok_skip hw (ih _ _ h)
          · split at h
            · exact h
            · split at h
              · rename_i v hv
                exact ok_pure hw hv (ih _ _ h)
              · split at h
                · rename_i v s' hv
                  exact ok_eff hw hv (ih _ _ h)
                · exact h
        · exact h.elim
    · split at h
      · exact ok_qnil (ih _ _ h)
      · split at h
        · rename_i w hw
          split at h
          · exact ok_qskip hw (ih _ _ h)
          · split at h
            · exact h
            · split at h
              · rename_i v hv
                exact ok_qpure hw hv (ih _ _ h)
              · exact h
        · exact h.elim
    · split at h
      · exact ok_mnil (ih _ _ h)
      · split at h
        · rename_i o ho
          split at h
          · rename_i w hw
            split at h
            · exact ok_mskip ho hw (ih _ _ h)
            · split at h
              · exact h
              · split at h
                · rename_i v hv
                  exact ok_mpure ho hw hv (ih _ _ h)
                · split at h
                  · rename_i v s' hv
                    exact ok_meff ho hw hv (ih _ _ h)
                  · exact h
          · exact h.elim
        · exact h.elim
    · split at h
      · intro φ a w hg; exact wp_skip (ih _ _ h φ a w hg)
      · intro φ a w hg; exact wp_seq (ih _ _ h φ a w hg)
      · rename_i c x y
        split at h
        · rename_i t ht
          intro φ a w hg
          have hc := ev_rep hg.sim c
          rw [ht] at hc
          simp only [V.rep, D.rep] at hc
          split at h
          · exact wp_cond_true hc (ih _ _ h φ a w hg)
          · exact wp_cond_false hc (ih _ _ h φ a w hg)
        · exact h.elim
      · intro φ a w hg; exact wp_block (ih _ _ h φ a w hg)
      · split at h
        · intro φ a w hg
          exact wp_region_list (by have := ih _ _ h φ a w hg; simpa [kQ, Exit.then] using this)
        · exact h
      · split at h
        · rename_i k' hk
          intro φ a w hg
          exact wp_exit (kQ_exit _ _ _ _ hk (ih _ _ h φ a w hg))
        · exact h.elim
      · exact h
      · exact h
/-! ### Words on numbers that are known; what a word says -/
def ltL : Int → Int → Bool
  | .ofNat a, .ofNat b => Nat.blt a b
  | .negSucc _, .ofNat _ => true
  | .ofNat _, .negSucc _ => false
  | .negSucc a, .negSucc b => Nat.blt b a
def leL : Int → Int → Bool
  | .ofNat a, .ofNat b => Nat.ble a b
  | .negSucc _, .ofNat _ => true
  | .ofNat _, .negSucc _ => false
  | .negSucc a, .negSucc b => Nat.ble b a
def eqL : Int → Int → Bool
  | .ofNat a, .ofNat b => Nat.beq a b
  | .negSucc _, .ofNat _ => false
  | .ofNat _, .negSucc _ => false
  | .negSucc a, .negSucc b => Nat.beq a b
theorem ble_dec (a b : Nat) : Nat.ble a b = decide (a ≤ b) := by
  by_cases h : a ≤ b
  · rw [decide_eq_true h]; exact Nat.ble_eq.mpr h
  · rw [decide_eq_false h]
    cases hb : Nat.ble a b with
    | false => rfl
    | true => exact (h (Nat.ble_eq.mp hb)).elim
theorem ilt_L (a b : Int) : ilt a b = ltL a b := by
  unfold ilt
  cases a with
  | ofNat a => cases b with
    | ofNat b => simp only [ltL, Nat.blt, ble_dec]; apply decide_eq_decide.2; exact Int.ofNat_lt
    | negSucc b => simp only [ltL]; apply decide_eq_false; rw [Int.negSucc_eq]; show ¬ ((a : Int) < _); omega
  | negSucc a => cases b with
    | ofNat b => simp only [ltL]; apply decide_eq_true; rw [Int.negSucc_eq]; show _ < (b : Int); omega
    | negSucc b => simp only [ltL, Nat.blt, ble_dec]; apply decide_eq_decide.2; rw [Int.negSucc_eq, Int.negSucc_eq]; omega
theorem ile_L (a b : Int) : ile a b = leL a b := by
  unfold ile
  cases a with
  | ofNat a => cases b with
    | ofNat b => simp only [leL, ble_dec]; apply decide_eq_decide.2; exact Int.ofNat_le
    | negSucc b => simp only [leL]; apply decide_eq_false; rw [Int.negSucc_eq]; show ¬ ((a : Int) ≤ _); omega
  | negSucc a => cases b with
    | ofNat b => simp only [leL]; apply decide_eq_true; rw [Int.negSucc_eq]; show _ ≤ (b : Int); omega
    | negSucc b => simp only [leL, ble_dec]; apply decide_eq_decide.2; rw [Int.negSucc_eq, Int.negSucc_eq]; omega
theorem eqL_iff (a b : Int) : eqL a b = true ↔ a = b := by
  cases a with
  | ofNat a => cases b with
    | ofNat b => simp only [eqL, Nat.beq_eq, Int.ofNat.injEq]
    | negSucc b => simp [eqL]
  | negSucc a => cases b with
    | ofNat b => simp [eqL]
    | negSucc b => simp only [eqL, Nat.beq_eq, Int.negSucc.injEq]
theorem ieq_L (a b : Int) : ieq a b = eqL a b := by
  unfold ieq
  rw [Bool.eq_iff_iff, eqL_iff]
  simp
theorem ilt_v {a b : Int} {t : Bool} (h : ltL a b = t) : ilt a b = t := (ilt_L a b).trans h
theorem ile_v {a b : Int} {t : Bool} (h : leL a b = t) : ile a b = t := (ile_L a b).trans h
theorem ieq_v {a b : Int} {t : Bool} (h : eqL a b = t) : ieq a b = t := (ieq_L a b).trans h
theorem nieq_t {a b : Int} (h : eqL a b = false) : bnot (ieq a b) = true := by rw [ieq_v h]; rfl
theorem nieq_f {a b : Int} (h : eqL a b = true) : bnot (ieq a b) = false := by rw [ieq_v h]; rfl
theorem ieq_self (a : Int) : ieq a a = true := by unfold ieq; simp
theorem nieq_self (a : Int) : bnot (ieq a a) = false := by rw [ieq_self]; rfl
theorem seq_self (a : List UInt8) : seq a a = true := by unfold seq; simp
theorem nseq_self (a : List UInt8) : bnot (seq a a) = false := by rw [seq_self]; rfl
theorem ilt_t (a b : Int) : (ilt a b = true) = (a < b) := by unfold ilt; simp
theorem ilt_f (a b : Int) : (ilt a b = false) = (b ≤ a) := by unfold ilt; simp
theorem ile_t (a b : Int) : (ile a b = true) = (a ≤ b) := by unfold ile; simp
theorem ile_f (a b : Int) : (ile a b = false) = (b < a) := by unfold ile; simp
theorem ieq_t (a b : Int) : (ieq a b = true) = (a = b) := by unfold ieq; simp
theorem ieq_f (a b : Int) : (ieq a b = false) = (a ≠ b) := by unfold ieq; simp
theorem bnot_t (b : Bool) : (bnot b = true) = (b = false) := by cases b <;> simp [bnot]
theorem bnot_f (b : Bool) : (bnot b = false) = (b = true) := by cases b <;> simp [bnot]
theorem beq_t (a b : Bool) : (beq a b = true) = (a = b) := by unfold beq; simp
theorem beq_f (a b : Bool) : (beq a b = false) = (a ≠ b) := by unfold beq; simp
theorem band_t (a b : Bool) : (band a b = true) = (a = true ∧ b = true) := by unfold band; simp
theorem band_f (a b : Bool) : (band a b = false) = ¬ (a = true ∧ b = true) := by unfold band; cases a <;> cases b <;> simp
theorem seq_t (a b : List UInt8) : (seq a b = true) = (a = b) := by unfold seq; simp
theorem seq_f (a b : List UInt8) : (seq a b = false) = (a ≠ b) := by unfold seq; simp
theorem iadd_eq {k : IntKind} {a b : Int} (h : k.wrap (a + b) = a + b) : iadd k a b = a + b := by unfold iadd; exact h
theorem wrap_i64 {n : Int} (h : -9223372036854775808 ≤ n) (h2 : n < 9223372036854775808) : IntKind.wrap .i64 n = n := by
  simp only [IntKind.wrap, IntKind.bits, IntKind.signed]
  simp
  omega
theorem wrap_u8 {n : Int} (h : 0 ≤ n) (h2 : n < 256) : IntKind.wrap .u8 n = n := by
  simp only [IntKind.wrap, IntKind.bits, IntKind.signed]
  simp
  omega
theorem iadd_i64 {a b : Int} (h : -9223372036854775808 ≤ a + b) (h2 : a + b < 9223372036854775808) : iadd .i64 a b = a + b := by unfold iadd; exact wrap_i64 h h2
theorem isub_i64 {a b : Int} (h : -9223372036854775808 ≤ a - b) (h2 : a - b < 9223372036854775808) : isub .i64 a b = a - b := by unfold isub; exact wrap_i64 h h2
theorem imul_i64 {a b : Int} (h : -9223372036854775808 ≤ a * b) (h2 : a * b < 9223372036854775808) : imul .i64 a b = a * b := by unfold imul; exact wrap_i64 h h2
theorem iadd_u8 {a b : Int} (h : 0 ≤ a + b) (h2 : a + b < 256) : iadd .u8 a b = a + b := by unfold iadd; exact wrap_u8 h h2
theorem iconv_i64 {a : Int} (h : -9223372036854775808 ≤ a) (h2 : a < 9223372036854775808) : iconv .i64 a = a := by unfold iconv; exact wrap_i64 h h2
theorem iconv_u8 {a : Int} (h : 0 ≤ a) (h2 : a < 256) : iconv .u8 a = a := by unfold iconv; exact wrap_u8 h h2

/-- run on, as far as nothing is asked -/
theorem xrun (n : Nat) {k k' : List It} {s s' : XS} (h : (forceS s fun s => xgo L n k s) = .at k' s') (h2 : OK C k' s') : OK C k s := xgo_sound n k s (by rw [forceS_eq] at h; rw [h]; exact h2)
/-- a test that is settled -/
theorem ok_lit {all r : List Oper} {o : Oper} {k : List It} {s : XS} {t : Bool} (b : Bool) (hw : xwant s all o = some true) (hp : xpure L o.op s = some (.d (.bool t))) (ht : t = b)
    (h : OK C (.ops all r :: k) (s.put o.dst (.d (.bool b)))) : OK C (.ops all (o :: r) :: k) s := ok_pure hw hp (by rw [ht]; exact h)
theorem ok_qlit {all r tl : List Oper} {o : Oper} {k : List It} {s : XS} {t : Bool} (b : Bool) (hw : xwant s all o = some true) (hp : xpure L o.op s = some (.d (.bool t))) (ht : t = b)
    (h : OK C (.qops all r tl :: k) (s.put o.dst (.d (.bool b)))) : OK C (.qops all (o :: r) tl :: k) s := ok_qpure hw hp (by rw [ht]; exact h)
theorem ok_mlit {all : List Oper} {i : Nat} {r : List Nat} {o : Oper} {k : List It} {s : XS} {t : Bool} (b : Bool) (ho : all[i]? = some o) (hw : xwant s all o = some true) (hp : xpure L o.op s = some (.d (.bool t))) (ht : t = b)
    (h : OK C (.mops all r :: k) (s.put o.dst (.d (.bool b)))) : OK C (.mops all (i :: r) :: k) s := ok_mpure ho hw hp (by rw [ht]; exact h)
theorem ok_mtest {all : List Oper} {i : Nat} {r : List Nat} {o : Oper} {k : List It} {s : XS} {t : Bool} (ho : all[i]? = some o) (hw : xwant s all o = some true) (hp : xpure L o.op s = some (.d (.bool t)))
    (h1 : t = true → OK C (.mops all r :: k) (s.put o.dst (.d (.bool true)))) (h2 : t = false → OK C (.mops all r :: k) (s.put o.dst (.d (.bool false)))) : OK C (.mops all (i :: r) :: k) s :=
  ok_mpure ho hw hp (by cases t with
    | true => exact h1 rfl
    | false => exact h2 rfl)
/-- what holds by a test -/
def TG (t : Bool) (A B : Prop) : Prop := (t = true → A) ∧ (t = false → B)
theorem tg_t {t : Bool} {A B : Prop} (ht : t = true) (h : A) : TG t A B := ⟨fun _ => h, fun h2 => (by rw [ht] at h2; cases h2)⟩
theorem tg_f {t : Bool} {A B : Prop} (ht : t = false) (h : B) : TG t A B := ⟨fun h2 => (by rw [ht] at h2; cases h2), fun _ => h⟩
theorem tg_b {t : Bool} {A B : Prop} (h1 : t = true → A) (h2 : t = false → B) : TG t A B := ⟨h1, h2⟩
theorem ok_tg {all r : List Oper} {o : Oper} {k : List It} {s : XS} {t : Bool} (hw : xwant s all o = some true) (hp : xpure L o.op s = some (.d (.bool t)))
    (h : TG t (OK C (.ops all r :: k) (s.put o.dst (.d (.bool true)))) (OK C (.ops all r :: k) (s.put o.dst (.d (.bool false))))) : OK C (.ops all (o :: r) :: k) s :=
  ok_pure hw hp (by cases t with
    | true => exact h.1 rfl
    | false => exact h.2 rfl)
theorem ok_qtg {all r tl : List Oper} {o : Oper} {k : List It} {s : XS} {t : Bool} (hw : xwant s all o = some true) (hp : xpure L o.op s = some (.d (.bool t)))
    (h : TG t (OK C (.qops all r tl :: k) (s.put o.dst (.d (.bool true)))) (OK C (.qops all r tl :: k) (s.put o.dst (.d (.bool false))))) : OK C (.qops all (o :: r) tl :: k) s :=
  ok_qpure hw hp (by cases t with
    | true => exact h.1 rfl
    | false => exact h.2 rfl)
theorem ok_mtg {all : List Oper} {i : Nat} {r : List Nat} {o : Oper} {k : List It} {s : XS} {t : Bool} (ho : all[i]? = some o) (hw : xwant s all o = some true) (hp : xpure L o.op s = some (.d (.bool t)))
    (h : TG t (OK C (.mops all r :: k) (s.put o.dst (.d (.bool true)))) (OK C (.mops all r :: k) (s.put o.dst (.d (.bool false))))) : OK C (.mops all (i :: r) :: k) s :=
  ok_mpure ho hw hp (by cases t with
    | true => exact h.1 rfl
    | false => exact h.2 rfl)
/-- a test -/
theorem ok_test {all r : List Oper} {o : Oper} {k : List It} {s : XS} {t : Bool} (hw : xwant s all o = some true) (hp : xpure L o.op s = some (.d (.bool t)))
    (h1 : t = true → OK C (.ops all r :: k) (s.put o.dst (.d (.bool true)))) (h2 : t = false → OK C (.ops all r :: k) (s.put o.dst (.d (.bool false)))) : OK C (.ops all (o :: r) :: k) s :=
  ok_pure hw hp (by cases t with
    | true => exact h1 rfl
    | false => exact h2 rfl)
theorem ok_qtest {all r tl : List Oper} {o : Oper} {k : List It} {s : XS} {t : Bool} (hw : xwant s all o = some true) (hp : xpure L o.op s = some (.d (.bool t)))
    (h1 : t = true → OK C (.qops all r tl :: k) (s.put o.dst (.d (.bool true)))) (h2 : t = false → OK C (.qops all r tl :: k) (s.put o.dst (.d (.bool false)))) : OK C (.qops all (o :: r) tl :: k) s :=
  ok_qpure hw hp (by cases t with
    | true => exact h1 rfl
    | false => exact h2 rfl)
end
end Go.Proofs.Ytblmoikhfmkfnaa
