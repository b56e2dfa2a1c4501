/- The abstract machine, 16: a function's Spec from a run of its body; calls by Spec. -/
import Derived.Test.YtblmoikhfmkfnaaM15
namespace Go.Proofs.Ytblmoikhfmkfnaa
set_option linter.unusedSimpArgs false
set_option linter.unusedVariables false
open Go.RowKit Go

section
variable {P : Program} {L : List (Option Row)}

theorem repT_getV {w : World} {S : Nat → Prop} {φ : Phi} : ∀ (l : List V) (xs : List Value), V.repT w S φ l xs → ∀ (m i : Nat), V.rep w S φ (getV (l ++ List.replicate m .undef) i) ((xs ++ List.replicate m undef).toArray.getD i undef)
  | [], xs, h, m, i => by
    simp only [V.repT] at h
    subst h
    have : getV ([] ++ List.replicate m V.undef) i = .undef := by
      rw [getV_eq]
      simp only [List.nil_append, List.getElem?_replicate]
      split <;> rfl
    rw [this]; trivial
  | x :: l, _, ⟨y, ys, e, h1, h2⟩, m, 0 => by subst e; simpa [getV] using h1
  | x :: l, _, ⟨y, ys, e, h1, h2⟩, m, i + 1 => by
    subst e
    have := repT_getV l ys h2 m i
    simpa [getV] using this

/-- the state in which a function's body begins -/
def xinit (ds : List V) (m : Nat) : XS := ⟨ds ++ List.replicate m .undef, []⟩

/-- what reads as v reads as r -/
def Wk (v r : V) : Prop := ∀ (w : World) (S : Nat → Prop) (x : Value), V.rep w S [] v x → V.rep w S [] r x
theorem Wk.of_eq {v r : V} (h : v = r) : Wk v r := fun _ _ _ hx => h ▸ hx
theorem Wk.clip (es : Nat) (c : Bool) (xs : List D) : Wk (.d (.sl es c xs)) (.d (.sl es false xs)) := fun _ _ _ hx => hx.elim .inl fun ⟨b, o, cap, h1, h2, h3, _, h5⟩ => .inr ⟨b, o, cap, h1, h2, h3, fun h => (by cases h), h5⟩
theorem Wk.nil (es es' : Nat) (c' : Bool) : Wk (.d (.sl es true [])) (.d (.sl es' c' [])) := fun _ _ _ hx => by
  rcases hx with h | ⟨b, o, cap, h1, h2, h3, h4, _⟩
  · exact .inl h
  · have := h4 rfl
    simp only [List.length_nil] at this
    subst this
    exact .inl ⟨rfl, _, h1⟩
theorem Wk.tup1 {a a' : V} (h : Wk a a') : Wk (.tup [a]) (.tup [a']) := fun w S _ ⟨xs, e, y, ys, e1, h1, h2⟩ => ⟨xs, e, y, ys, e1, h w S y h1, h2⟩
theorem Wk.tup2 {a a' b b' : V} (h : Wk a a') (g : Wk b b') : Wk (.tup [a, b]) (.tup [a', b']) := fun w S _ ⟨xs, e, y, ys, e1, h1, z, zs, e2, h2, h3⟩ => ⟨xs, e, y, ys, e1, h w S y h1, z, zs, e2, g w S z h2, h3⟩
theorem Wk.tup3 {a a' b b' c c' : V} (h : Wk a a') (g : Wk b b') (k : Wk c c') : Wk (.tup [a, b, c]) (.tup [a', b', c']) := fun w S _ ⟨xs, e, y, ys, e1, h1, z, zs, e2, h2, u, us, e3, h3, h4⟩ => ⟨xs, e, y, ys, e1, h w S y h1, z, zs, e2, g w S z h2, u, us, e3, k w S u h3, h4⟩

theorem spec_of (hL : LayOk P L) (hm : P.follows .mixedOrders = true) {f : Nat} {fn : Func} {body : Code} (hf : P.funcs[f]? = some fn) (hb : fn.body = some body) (hname : (fn.name == "runtime.NumGoroutine") = false)
    {ds : List V} {res : V} (h : ∀ C : Cx P L, C.T = (fun s => ∃ v, xret L fn.results.toList fn.resultTypes.toList s = some v ∧ Wk v res) → OK C [.code body] (xinit ds (fn.ntmps - ds.length))) : Spec P f ds res := by
  refine ⟨⟨fn, hf, hname, by rw [hb]; rfl⟩, fun S w vs hvs => ?_⟩
  have hlen : ds.length = vs.length := by have := ((V.repT_iff _ _).1 hvs).1; simpa using this
  refine calls_of_wp hf hb ?_
  let R : Ending → World → Prop := fun e w' => ∃ v, e = .returned v ∧ Below w.heap.size w w' ∧ V.rep w' (fun b => S b ∨ w.heap.size ≤ b) [] res v
  let C : Cx P L :=
    { lay := hL, mixed := hm, S0 := S, w0 := w, φ0 := [], own := rfl, B := bodyPost P fn R
      T := fun s => ∃ v, xret L fn.results.toList fn.resultTypes.toList s = some v ∧ Wk v res
      ret := fun s φ a w' ht hg => by
        have hfresh : ∀ b, φ.has b → w.heap.size ≤ b := fun b hb => by
          rcases hg.frame.has b hb with ⟨id, o, h⟩ | h
          · simp at h
          · exact h
        obtain ⟨res1, ht1, ht2⟩ := ht
        exact ret_ok hL hg.sim ht1 hfresh fun v hv => ⟨v, rfl, ⟨hg.frame.os, hg.frame.tape, hg.frame.output, hg.frame.size, fun b hb => hg.frame.block b hb (fun ⟨id, o, h⟩ => by simp at h)⟩, ht2 _ _ _ hv⟩ }
  have hok := h C rfl
  refine hok [] _ w ⟨⟨fun i => ?_, ?_, ⟨rfl, fun id blk hh => by simp [xinit] at hh, fun id hh => by simp [xinit] at hh, fun i j b o o' hh => by simp at hh⟩, rfl⟩, FrameTo.refl _ _⟩
  · have CV : CarryV w S [] w (SS S w.heap.size []) [] := ⟨⟨fun b hb _ => ⟨.inl hb, fun ⟨id, o, h⟩ => by simp at h⟩, fun _ _ _ => rfl, Nat.le_refl _⟩, fun _ _ _ h => h, fun _ _ _ c T f _ h => ⟨c, T, f, h, Nat.le_refl _⟩⟩
    have := V.rep_mono CV _ _ (repT_getV _ _ hvs (fn.ntmps - ds.length) i)
    show V.rep w (SS S w.heap.size []) [] (getV (ds ++ List.replicate (fn.ntmps - ds.length) .undef) i) ((vs.toArray ++ Array.replicate (fn.ntmps - vs.toArray.size) undef).getD i undef)
    have e : (vs.toArray ++ Array.replicate (fn.ntmps - vs.toArray.size) undef) = (vs ++ List.replicate (fn.ntmps - ds.length) undef).toArray := by
      apply Array.ext'; simp [hlen]
    rw [e]; exact this
  · simp [xinit, hlen]

/-- forget the call's own block id -/
def dropId (id : Nat) (s : XS) : XS := ⟨V.killL id s.sl, (killMem id s.mem).set id none⟩
def dropIds : List Nat → XS → XS
  | [], s => s
  | id :: ids, s => dropIds ids (dropId id s)
theorem dropIds_append : ∀ (a b : List Nat) (s : XS), dropIds (a ++ b) s = dropIds b (dropIds a s)
  | [], _, _ => rfl
  | _ :: a, b, s => dropIds_append a b _

section
variable {w : World} {S0 : Nat → Prop} {n0 : Nat} {φ : Phi} {s : XS} {a : Act}
theorem sim_drop (H : Sim w (SS S0 n0 φ) φ s a) (id : Nat) : Sim w (SS S0 n0 (φ.set id none)) (φ.set id none) (dropId id s) a := by
  have hget : ∀ i, (φ.set id (none : Option (Nat × Nat)))[i]? = if i = id ∧ id < φ.length then some none else φ[i]? := fun i => by
    by_cases h : id < φ.length
    · rw [phi_set h]
      by_cases hi : i = id <;> simp [hi, h]
    · rw [List.set_eq_of_length_le (by omega)]
      rw [if_neg (by omega)]
  have hhas : ∀ b, Phi.has (φ.set id none) b → φ.has b := fun b ⟨i, o, hi⟩ => by
    rw [hget] at hi
    split at hi
    · cases hi
    · exact ⟨i, o, hi⟩
  have C : CarryK id w (SS S0 n0 φ) φ w (SS S0 n0 (φ.set id none)) (φ.set id none) :=
    ⟨⟨fun b hb _ => ⟨hb.1, fun hh => hb.2 (hhas b hh)⟩, fun _ _ _ => rfl, Nat.le_refl _⟩, fun i b o hi h => by rw [hget, if_neg (by omega)]; exact h, fun i b o c T f _ _ h => ⟨c, T, f, h, Nat.le_refl _⟩⟩
  refine ⟨fun i => ?_, by simp [dropId, killL_length, H.size], ?_, H.defers⟩
  · have := H.slots i
    simp only [dropId]
    rw [getV_eq] at this ⊢
    rw [killL_get]
    cases hs : s.sl[i]? with
    | none => trivial
    | some x => rw [hs] at this; exact V.rep_kill C x _ this
  · have hml : (killMem id s.mem).length = φ.length := by rw [killMem_length, H.mem.len]
    have hmem : ∀ i, (dropId id s).mem[i]? = if i = id ∧ id < φ.length then some none else (s.mem[i]?).map (·.map (Blk.kill id)) := fun i => by
      simp only [dropId]
      by_cases h : id < φ.length
      · by_cases hi : i = id
        · subst hi
          rw [List.getElem?_set_self (by rw [hml]; exact h), if_pos ⟨rfl, h⟩]
        · rw [List.getElem?_set_ne (Ne.symm hi), if_neg (by omega), killMem_get]
      · rw [List.set_eq_of_length_le (by rw [hml]; omega), if_neg (by omega), killMem_get]
    refine ⟨by simp [dropId, killMem_length, H.mem.len], fun i bk hi => ?_, fun i hi => ?_, fun i j b o o' hi hj => ?_⟩
    · rw [hmem] at hi
      split at hi
      · cases hi
      · rename_i hne
        cases hm : s.mem[i]? with
        | none => simp [hm] at hi
        | some ob =>
          cases ob with
          | none => simp [hm] at hi
          | some blk =>
            simp only [hm, Option.map_some, Option.some.injEq] at hi
            subst hi
            have hi' : i ≠ id := fun he => hne ⟨he, by rw [← he, H.mem.len]; exact (List.getElem?_eq_some_iff.1 hm).1⟩
            rcases H.mem.ent i blk hm with ⟨h0, es', h1⟩ | ⟨b, o, h0, h1, h2, h3, h4⟩
            · subst h1
              exact .inl ⟨by rw [hget, if_neg (by omega)]; exact h0, es', rfl⟩
            · exact .inr ⟨b, o, C.phi _ _ _ hi' h0, fun hh => hh.2 ⟨i, o, C.phi _ _ _ hi' h0⟩, h2, h3, Blk.rep_kill C rfl h4⟩
    · rw [hmem] at hi
      rw [hget]
      split at hi
      · rename_i hh; rw [if_pos hh]
      · rename_i hne
        rw [if_neg hne]
        cases hm : s.mem[i]? with
        | none => simp [hm] at hi
        | some ob =>
          cases ob with
          | none => exact H.mem.dead i hm
          | some blk => simp [hm] at hi
    · rw [hget] at hi hj
      split at hi
      · cases hi
      · split at hj
        · cases hj
        · exact H.mem.inj i j b o o' hi hj
theorem sim_drops : ∀ (ids : List Nat) (φ : Phi) (s : XS), Sim w (SS S0 n0 φ) φ s a → ∃ φ2, Sim w (SS S0 n0 φ2) φ2 (dropIds ids s) a ∧ (∀ b, φ2.has b → φ.has b) ∧ (∀ id, id ∈ ids → ∀ b o : Nat, φ[id]? = some (some (b, o)) → ¬ φ2.has b)
  | [], φ, s, H => ⟨φ, H, fun _ h => h, fun _ h => by simp at h⟩
  | id :: ids, φ, s, H => by
    obtain ⟨φ2, h1, h2, h3⟩ := sim_drops ids _ _ (sim_drop H id)
    have hget : ∀ i, (φ.set id (none : Option (Nat × Nat)))[i]? = if i = id ∧ id < φ.length then some none else φ[i]? := fun i => by
      by_cases h : id < φ.length
      · rw [phi_set h]
        by_cases hi : i = id <;> simp [hi, h]
      · rw [List.set_eq_of_length_le (by omega)]
        rw [if_neg (by omega)]
    have hhas : ∀ b, Phi.has (φ.set id none) b → φ.has b ∧ ∀ o : Nat, φ[id]? ≠ some (some (b, o)) := fun b ⟨i, o, hi⟩ => by
      rw [hget] at hi
      split at hi
      · cases hi
      · rename_i hne
        refine ⟨⟨i, o, hi⟩, fun o' ho' => ?_⟩
        have := H.mem.inj i id b o o' hi ho'
        exact hne ⟨this, by rw [← this]; exact (List.getElem?_eq_some_iff.1 hi).1⟩
    refine ⟨φ2, h1, fun b hb => (hhas b (h2 b hb)).1, fun j hj b o hjo => ?_⟩
    rcases List.mem_cons.1 hj with rfl | hj
    · exact fun hb => (hhas b (h2 b hb)).2 o hjo
    · by_cases hji : j = id ∧ id < φ.length
      · obtain ⟨rfl, _⟩ := hji
        exact fun hb => (hhas b (h2 b hb)).2 o hjo
      · exact h3 j hj b o (by rw [hget, if_neg hji]; exact hjo)
end

section
variable (L : List (Option Row))
/-- a call's function, what it is handed, and the call's own blocks among that -/
def xargs (s : XS) (c : Call) : Option (Nat × List V × List Nat) := match c.callee with
  | .value op => match s.ev op with
    | .fn f cap => match vimms L s c.argTypes.toList (c.args.toList.map s.ev), vimmC (vimm L s 4 0) cap with
      | some vs, some cs => some (f, vs ++ cs, V.idsL (c.args.toList.map s.ev) ++ V.idsL cap)
      | _, _ => none
    | _ => none
  | _ => none
end
theorem V.repT_append {w : World} {S : Nat → Prop} {φ : Phi} : ∀ (ds es : List V) (xs ys : List Value), V.repT w S φ ds xs → V.repT w S φ es ys → V.repT w S φ (ds ++ es) (xs ++ ys)
  | [], bs, xs, ys, h, h2 => by simp only [V.repT] at h; subst h; exact h2
  | d1 :: ds, es, _, ys, ⟨y, zs, e, h1, h2⟩, h4 => by
    subst e
    exact ⟨y, _, rfl, h1, V.repT_append ds es zs ys h2 h4⟩
theorem args_repT {w : World} {S : Nat → Prop} {φ : Phi} {s : XS} {a : Act} (H : Sim w S φ s a) : ∀ (l : List Operand), V.repT w S φ (l.map s.ev) (l.map a.eval)
  | [] => rfl
  | o :: l => ⟨_, _, rfl, ev_rep H o, args_repT H l⟩
theorem xargs_ok {w : World} {S0 : Nat → Prop} {n0 : Nat} {φ : Phi} {s : XS} {a : Act} (hL : LayOk P L) (H : Sim w (SS S0 n0 φ) φ s a) {c : Call} {f : Nat} {vs : List V} {ids : List Nat} (ha : xargs L s c = some (f, vs, ids)) (hcall : Callable P f) :
    ∃ args : List Value, (∀ (o : Oper), o.op = .call c → ∀ w1, (execOp a.eval o).run P w1 = .ok (.enter f args.toArray) w1) ∧
      ∀ S' : Nat → Prop, (∀ b, SS S0 n0 φ b → S' b) → (∀ id, id ∈ ids → ∀ b o : Nat, φ[id]? = some (some (b, o)) → S' b) → V.repT w S' [] vs args := by
  unfold xargs at ha
  split at ha
  · rename_i op hop
    split at ha
    · rename_i f' cap hf
      split at ha
      · rename_i vs1 cs h1 h2
        simp only [Option.some.injEq, Prod.mk.injEq] at ha
        obtain ⟨rfl, rfl, rfl⟩ := ha
        have hr := ev_rep H op
        rw [hf] at hr
        obtain ⟨xs, hx, hxs⟩ := hr
        refine ⟨c.args.toList.map a.eval ++ xs, fun o ho w1 => ?_, fun S' hS hid => ?_⟩
        · obtain ⟨fn, k1, k2, k3⟩ := hcall
          obtain ⟨body, hb⟩ : ∃ b, fn.body = some b := by cases hb : fn.body with
            | none => simp [hb] at k3
            | some b => exact ⟨b, rfl⟩
          have k2' : fn.name ≠ "runtime.NumGoroutine" := by simpa using k2
          have e : (c.args.toList.map a.eval ++ xs).toArray = c.args.map a.eval ++ xs.toArray := by
            apply Array.ext'; simp
          rw [e]
          simp [execOp, ho, resolve, hop, hx, Deferred.ofValue, invoke, callFunc, k1, k2', hb]
        · refine V.repT_append _ _ _ _ (vimms_rep hL H hS _ _ _ _ (fun id h => hid id (List.mem_append.2 (.inl h))) h1 (args_repT H c.args.toList)) ?_
          exact vimmC_rep (fun v d x => vimm_rep hL H hS 4 0 v d x) cap cs xs (fun id h => hid id (List.mem_append.2 (.inr h))) h2 hxs
      · cases ha
    · cases ha
  · cases ha

variable {C : Cx P L}
/-- a call: what its result may share with the arguments is no longer the call's own -/
theorem ok_call {all r : List Oper} {o : Oper} {k : List It} {s : XS} {c : Call} {f : Nat} {vs : List V} {ids idd : List Nat} {res : V}
    (hw : xwant s all o = some true) (ho : o.op = .call c) (ha : xargs L s c = some (f, vs, ids)) (hs : Spec P f vs res) (hids : idd = ids ∨ res.flat = true ∧ idd = [])
    (h : OK C (.ops all r :: k) ((dropIds idd s).put o.dst res)) : OK C (.ops all (o :: r) :: k) s := by
  intro φ a w hg
  obtain ⟨hcall, hspec⟩ := hs
  obtain ⟨φ2, hd1, hd2, hd3⟩ := sim_drops idd φ s hg.sim
  obtain ⟨args, hexec, hargs⟩ := xargs_ok C.lay hg.sim ha hcall
  show wpList P all.toArray (kQ C k) (o :: r) a w
  refine wpList_step fun K hK => ?_
  rw [if_pos (want_ok hg.sim hw)]
  unfold Oper.wp
  rw [hexec o ho w]
  have fresh : ∀ b, φ.has b → C.w0.heap.size ≤ b := fun b hb => by
    rcases hg.frame.has b hb with ⟨id, o, h⟩ | h
    · rw [C.own] at h; simp at h
    · exact h
  have fin : ∀ (w' : World) (v : Value), Below w.heap.size w w' → V.rep w' (SS C.S0 C.w0.heap.size φ2) φ2 res v → K (a.put o.dst v) w' := by
    intro w' v hb hv
    have CV : CarryV w (SS C.S0 C.w0.heap.size φ2) φ2 w' (SS C.S0 C.w0.heap.size φ2) φ2 :=
      ⟨⟨fun _ h _ => h, fun b _ hlt => hb.block b hlt, hb.size⟩, fun _ _ _ h => h, fun i b o c T f hp hh => ⟨c, T, f, by rw [hb.block b (hd1.mem.lt ⟨i, o, hp⟩).1]; exact hh, Nat.le_refl _⟩⟩
    have hg2 : Good C.S0 C.w0 C.φ0 (dropIds idd s) φ2 a w := ⟨hd1, hg.frame.trans ⟨rfl, rfl, rfl, Nat.le_refl _, fun _ _ _ => rfl, fun b hb => .inl (hd2 b hb)⟩⟩
    exact hK _ _ (h φ2 _ w' ((hg2.later hb).put o.dst hv))
  rcases hids with hids | ⟨hflat, _⟩
  · refine (hspec (fun b => SS C.S0 C.w0.heap.size φ b ∨ ∃ id, id ∈ ids ∧ ∃ o : Nat, φ[id]? = some (some (b, o))) w _ (hargs _ (fun b hb => .inl hb) (fun id hid b o h => .inr ⟨id, hid, o, h⟩))).mono ?_
    rintro e w' ⟨v, rfl, hb, hv⟩
    refine fin w' v hb (V.rep_mono (w := w') (w' := w') (φ := []) ?_ _ _ hv)
    refine ⟨⟨fun b hb' _ => ?_, fun _ _ _ => rfl, Nat.le_refl _⟩, fun _ _ _ h => by simp at h, fun _ _ _ c T f h _ => by simp at h⟩
    rcases hb' with (h1 | ⟨id, hid, o', h1⟩) | h1
    · exact ⟨h1.1, fun hh => h1.2 (hd2 b hh)⟩
    · exact ⟨.inr (fresh b ⟨id, o', h1⟩), hd3 id (hids ▸ hid) b o' h1⟩
    · refine ⟨.inr (Nat.le_trans hg.frame.size h1), fun hh => ?_⟩
      have := (hg.sim.mem.lt (hd2 b hh)).1
      omega
  · refine (hspec (fun b => SS C.S0 C.w0.heap.size φ b ∨ φ.has b) w _ (hargs _ (fun b hb => .inl hb) (fun id _ b o h => .inr ⟨id, o, h⟩))).mono ?_
    rintro e w' ⟨v, rfl, hb, hv⟩
    exact fin w' v hb (V.flat_rep hflat hv).1

/-- a call in a region whose order is open: what it returns holds no address -/
theorem ok_qcall {all r tl : List Oper} {o : Oper} {k : List It} {s : XS} {c : Call} {f : Nat} {vs : List V} {ids : List Nat} {res : V}
    (hw : xwant s all o = some true) (ho : o.op = .call c) (ha : xargs L s c = some (f, vs, ids)) (hs : Spec P f vs res) (hflat : res.flat = true)
    (h : OK C (.qops all r tl :: k) (s.put o.dst res)) : OK C (.qops all (o :: r) tl :: k) s := by
  intro φ a w hg
  obtain ⟨hcall, hspec⟩ := hs
  show wpQuiet _ _ _ _ (o :: r) a
  refine wpQuiet_step fun K hK => ?_
  rw [if_pos (want_ok hg.sim hw)]
  refine ⟨res.val, fun w1 hw1 => ?_, hK _ ?_⟩
  · unfold Oper.quietAt
    have hg1 := hg.later hw1
    obtain ⟨args, hexec, hargs⟩ := xargs_ok C.lay hg1.sim ha hcall
    rw [hexec o ho w1]
    refine ⟨rfl, ?_⟩
    refine (hspec (fun b => SS C.S0 C.w0.heap.size φ b ∨ φ.has b) w1 _ (hargs _ (fun b hb => .inl hb) (fun id _ b o h => .inr ⟨id, o, h⟩))).mono ?_
    rintro e w' ⟨v, rfl, hb, hv⟩
    exact ⟨by rw [(V.flat_rep (w' := w') (S' := fun _ => True) (φ' := []) hflat hv).2], hw1.trans (hb.mono hw1.size)⟩
  · have hres : V.rep w (SS C.S0 C.w0.heap.size φ) φ res res.val := by
      obtain ⟨args, hexec, hargs⟩ := xargs_ok C.lay hg.sim ha hcall
      obtain ⟨e, w', fr, ⟨v, rfl, hb, hv⟩, _⟩ := hspec (fun b => SS C.S0 C.w0.heap.size φ b ∨ φ.has b) w _ (hargs _ (fun b hb => .inl hb) (fun id _ b o h => .inr ⟨id, o, h⟩)) []
      have := V.flat_rep (w' := w) (S' := SS C.S0 C.w0.heap.size φ) (φ' := φ) hflat hv
      rw [← this.2]; exact this.1
    exact h φ _ w (hg.put o.dst hres)
end
end Go.Proofs.Ytblmoikhfmkfnaa
