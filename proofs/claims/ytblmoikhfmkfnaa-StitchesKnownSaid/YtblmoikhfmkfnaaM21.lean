/- The abstract machine, 21: more operations that leave memory alone: bytes as a string, a part of a slice, a capacity. -/
import Derived.Test.YtblmoikhfmkfnaaM16
import Derived.Laws.BytesString
namespace Go.Proofs.Ytblmoikhfmkfnaa
set_option linter.unusedSimpArgs false
set_option linter.unusedVariables false
open Go.RowKit Go

def byteOf : D → Option UInt8
  | .int .u8 n => some (UInt8.ofNat n.toNat)
  | _ => none
def bytesR : List D → Option (List UInt8)
  | [] => some []
  | x :: r => match byteOf x, bytesR r with
    | some b, some l => some (b :: l)
    | _, _ => none
@[irreducible] def bytes (xs : List D) : Option (List UInt8) := bytesR xs
theorem bytes_nil : bytes [] = some [] := by unfold bytes; rfl
theorem bytes_cons (x : D) (r : List D) : bytes (x :: r) = match byteOf x, bytes r with
    | some b, some l => some (b :: l)
    | _, _ => none := by unfold bytes; rfl
theorem byteOf_some {x : D} {b : UInt8} (h : byteOf x = some b) : ∃ n, x = .int .u8 n ∧ b = UInt8.ofNat n.toNat := by
  unfold byteOf at h
  split at h
  · simp only [Option.some.injEq] at h; exact ⟨_, rfl, h.symm⟩
  · cases h
def ofByte (b : UInt8) : D := .int .u8 b.toNat
theorem bytes_map : ∀ (l : List UInt8), bytes (l.map ofByte) = some l
  | [] => bytes_nil
  | b :: l => by
    rw [List.map_cons, bytes_cons, bytes_map l]
    simp [byteOf, ofByte]

section
variable (L : List (Option Row))
def xpart (re : Row) (v : V) (lo hi : Int → Option Int) (mx : Option (Option Int)) : Option V := match v with
  | .own es id off len _ => match Nat.beq es re.size, lo 0, hi (nint len) with
    | true, some a, some b => match sbndo a b len with
      | some (i, j) => match mx with
        | none => some (.own es id (nadd off i) (nsub j i) false)
        | some m => match m with
          | some m => match i, sbnd b m len with
            | 0, some (_, m) => some (.own es id off j (nateq j m))
            | _, _ => none
          | none => none
      | none => none
    | _, _, _ => none
  | .d (.sl es _ xs) => match Nat.beq es re.size, lo 0, hi (nint (llen xs)) with
    | true, some a, some b => match sbnd a b (llen xs) with
      | some (i, j) => match mx with
        | none => some (.d (.sl es false (lsub xs i j)))
        | some m => match m with
          | some m => match i, sbnd b m (llen xs) with
            | 0, some (_, m) => some (.d (.sl es (nateq j m) (lsub xs 0 j)))
            | _, _ => none
          | none => none
      | none => none
    | _, _, _ => none
  | _ => none
def xmax (s : XS) (hi mx : Option Operand) : Option (Option Int) := match mx with
  | none => none
  | some o => match hi, s.ev o with
    | some _, .d (.int _ m) => some (some m)
    | _, _ => some none
def xpure2 (op : Op) (s : XS) : Option V := match op with
  | .convert src dst x => match rowAt L src, rowAt L dst with
    | some rs, some rd => match rs.td, rd.td with
      | .sl e, .str => match rowAt L e with
        | some re => match re.td with
          | .int .u8 => match xcontent s re (s.ev x) with
            | some xs => match bytes xs with
              | some l => some (.d (.str l))
              | none => none
            | none => none
          | _ => none
        | none => none
      | _, _ => none
    | _, _ => none
  | .slice t x lo hi mx => match rowAt L t with
    | some r => match r.td with
      | .sl e => match rowAt L e with
        | some re => xpart re (s.ev x) (fun d => xbound s d lo) (fun d => xbound s d hi) (xmax s hi mx)
        | none => none
      | _ => none
    | none => none
  | .call c => match c.callee, c.args.toList, c.argTypes.toList with
    | .builtin .cap, [x], [t] => match rowAt L t with
      | some r => match r.td with
        | .sl _ => match s.ev x with
          | .own _ _ _ len true => some (.d (.int .i64 (nint len)))
          | .d (.sl _ true xs) => some (.d (.int .i64 (nint (llen xs))))
          | _ => none
        | _ => none
      | none => none
    | _, _, _ => none
  | _ => none
end

section
variable {P : Program} {L : List (Option Row)} {w : World} {S0 : Nat → Prop} {n0 : Nat} {φ : Phi} {s : XS} {a : Act}
theorem bytes_rep {w : World} {S : Nat → Prop} : ∀ (xs : List D) (l : List UInt8) (cs : List Value), bytes xs = some l → D.repF w S 1 xs cs → ∃ ns : List Int, cs = ns.map (Value.int .u8) ∧ l = ns.map (fun n => UInt8.ofNat n.toNat)
  | [], l, cs, h, hr => by
    rw [bytes_nil] at h
    simp only [Option.some.injEq] at h; subst h
    simp only [D.repF] at hr; subst hr
    exact ⟨[], rfl, rfl⟩
  | x :: xs, l, cs, h, hr => by
    rw [bytes_cons] at h
    split at h
    · rename_i b l' hb hl'
      obtain ⟨n, rfl, rfl⟩ := byteOf_some hb
      simp only [Option.some.injEq] at h; subst h
      obtain ⟨v, rest, rfl, h1, h2, h3⟩ := hr
      simp only [D.rep] at h1; subst h1
      obtain ⟨ns, rfl, rfl⟩ := bytes_rep xs l' rest hl' h3
      exact ⟨n :: ns, rfl, rfl⟩
    · cases h
theorem foldl_push : ∀ (ns : List Int) (b : ByteArray), ns.foldl (fun r n => r.push (UInt8.ofNat n.toNat)) b = ⟨b.data ++ (ns.map (fun n => UInt8.ofNat n.toNat)).toArray⟩
  | [], b => by cases b; simp
  | n :: ns, b => by
    rw [List.foldl_cons, foldl_push ns]
    apply ByteArray.ext
    apply Array.ext'
    simp [ByteArray.push]
theorem run_bytes_str (hL : LayOk P L) (H : Sim w (SS S0 n0 φ) φ s a) {src dst e : Nat} {rs rd re : Row} (hs : rowAt L src = some rs) (hd : rowAt L dst = some rd) (hst : rs.td = .sl e) (hdt : rd.td = .str) (he : rowAt L e = some re) (het : re.td = .int .u8)
    {q : V} {xs : List D} {l : List UInt8} (hx : xcontent s re q = some xs) (hb : bytes xs = some l) {v : Value} (hv : V.rep w (SS S0 n0 φ) φ q v) :
    (convert src dst v).run P w = .ok (.string ⟨l.toArray⟩) w := by
  obtain ⟨d1, k1, t1⟩ := (hL src rs hs).und
  obtain ⟨d2, k2, t2⟩ := (hL dst rd hd).und
  obtain ⟨d3, k3, t3⟩ := (hL e re he).und
  rw [hst] at t1; rw [hdt] at t2; rw [het] at t3
  simp only [tdOk] at t1 t2 t3
  subst t1 t2 t3
  obtain ⟨base, cap, cs, rfl, h2, h3, h4⟩ := xcontent_rep H (hL e re he) hx hv
  have hsz : re.size = 1 := (hL e re he).nagg (by rw [(hL e re he).agg, het]; rfl)
  rw [hsz] at h2
  obtain ⟨ns, rfl, rfl⟩ := bytes_rep xs l cs hb h2
  have hlen : xs.length = ns.length := by have := D.repF_length h2; simpa using this.symm
  rw [run_convert_bytes_string w src dst e base _ cap k1 k3 k2]
  cases base with
  | none =>
    have := h3 rfl
    subst this
    have : ns = [] := List.eq_nil_of_length_eq_zero (by simpa using hlen.symm)
    subst this
    simp [Conv.bytesToString]
    rfl
  | some ad =>
    have := run_loadCells_list (P := P) w ad (ns.map (Value.int .u8)) (fun j u hj => h4 ad rfl j u hj)
    rw [List.length_map, ← hlen] at this
    rw [run_bytesToString w ad xs.length cap ns this, foldl_push]
    congr 3
    simp [ByteArray.empty, ByteArray.emptyWithCapacity]
    try rfl
theorem bound_val {w : World} {S : Nat → Prop} {φ : Phi} (H : Sim w S φ s a) {o : Option Operand} {df n : Int} (ho : xbound s df o = some n) : (o = none ∧ n = df) ∨ ∃ k, o.map a.eval = some (.int k n) := by
  cases o with
  | none => simp only [xbound, Option.some.injEq] at ho; exact .inl ⟨rfl, ho.symm⟩
  | some o =>
    simp only [xbound] at ho
    split at ho
    · rename_i k m hm
      simp only [Option.some.injEq] at ho
      subst ho
      have := ev_rep H o
      rw [hm] at this
      simp only [V.rep, D.rep] at this
      exact .inr ⟨k, by simp [this]⟩
    · cases ho
def MxOk (s : XS) (hi mx : Option Operand) (m cap : Nat) : Prop := mx = none ∧ m = cap ∨ ∃ m0 : Int, xmax s hi mx = some (some m0) ∧ 0 ≤ m0 ∧ m = m0.toNat
/-- the bounds of a part of a slice -/
theorem bounds_run {w : World} {S : Nat → Prop} {φ : Phi} (H : Sim w S φ s a) {lo hi mx : Option Operand} {i j : Int} {len cap m : Nat} (hlo : xbound s 0 lo = some i) (hhi : xbound s (nint len) hi = some j)
    (hmx : MxOk s hi mx m cap) (h1 : 0 ≤ i) (h2 : i ≤ j) (h3 : j ≤ m) (h4 : m ≤ cap) (w' : World) :
    (Instr.sliceBounds true len cap (lo.map a.eval) (hi.map a.eval) (mx.map a.eval)).run P w' = .ok (i.toNat, j.toNat, m) w' := by
  have ej : (j.toNat : Int) = j := Int.toNat_of_nonneg (by omega)
  have low : ∀ (code : BoundsCode), (match lo.map a.eval with | some v => Instr.sliceBound v j.toNat code | none => pure 0 : Sem Nat).run P w' = .ok i.toNat w' := by
    intro code
    rcases bound_val H hlo with ⟨rfl, rfl⟩ | ⟨k, hk⟩
    · rfl
    · rw [hk]; exact run_sliceBound w' k i j.toNat code h1 (by omega)
  rcases hmx with ⟨rfl, rfl⟩ | ⟨m0, hm, hm0, rfl⟩
  · have high : (match hi.map a.eval with | some v => Instr.sliceBound v m .sliceAcap | none => pure len : Sem Nat).run P w' = .ok j.toNat w' := by
      rcases bound_val H hhi with ⟨rfl, rfl⟩ | ⟨k, hk⟩
      · simp [nint]
      · rw [hk]; exact run_sliceBound w' k j m _ (by omega) h3
    have lw := low .sliceB
    unfold Instr.sliceBounds
    cases hv : hi.map a.eval <;> cases lv : lo.map a.eval <;> simp only [hv, lv] at high lw ⊢ <;> simp_all [Sem.run_bind]
  · cases mx with
    | none => simp [xmax] at hm
    | some o =>
      cases hi with
      | none => simp [xmax] at hm
      | some h =>
        simp only [xmax] at hm
        split at hm
        · rename_i heq hmv
          simp only [Option.some.injEq] at hm
          have hm' := hm.symm
          subst hm'
          have hov := ev_rep H o
          rw [hmv] at hov
          simp only [V.rep, D.rep] at hov
          rcases bound_val H hhi with ⟨h0, _⟩ | ⟨k, hk⟩
          · cases h0
          · have mxr := fun (k : IntKind) => run_sliceBound (P := P) w' k m0 cap .slice3Acap hm0 (by omega)
            have hir := run_sliceBound (P := P) w' k j m0.toNat .slice3B (by omega) h3
            have lw := low .slice3C
            unfold Instr.sliceBounds
            cases lv : lo.map a.eval <;> simp only [lv] at lw ⊢ <;> simp_all [Sem.run_bind]
        · simp_all
theorem elem_of {t e : Nat} (h : P.underlying t = some (.slice e)) : P.elem t = e := by unfold Program.elem; rw [h]
theorem part_run {w : World} {S : Nat → Prop} {φ : Phi} (H : Sim w S φ s a) {t e : Nat} {r re : Row} (hr : RowOk P t r) (hrt : r.td = .sl e) (hre : RowOk P e re) {lo hi mx : Option Operand} {i j : Int} {base : Option Addr} {len cap m : Nat} (hlo : xbound s 0 lo = some i) (hhi : xbound s (nint len) hi = some j)
    (hmx : MxOk s hi mx m cap) (h1 : 0 ≤ i) (h2 : i ≤ j) (h3 : j ≤ m) (h4 : m ≤ cap) (w' : World) :
    (Instr.sliceAt t (.slice base len cap) (lo.map a.eval) (hi.map a.eval) (mx.map a.eval)).run P w' = .ok (sliced base i.toNat j.toNat m re.size) w' := by
  obtain ⟨d, hd, htd⟩ := hr.und
  rw [hrt] at htd; simp only [tdOk] at htd; subst htd
  have he := elem_of hd
  rw [run_sliceAt_slice w' t _ _ _ _ (by rw [he]; exact hd), run_slice_any w' t base len cap (by rw [he]; exact hd), bounds_run H hlo hhi hmx h1 h2 h3 h4 w', he]
  simp only [Result.andThen_ok, hre.run_size w']
theorem part_ok (H : Sim w (SS S0 n0 φ) φ s a) {t e : Nat} {r re : Row} (hr : RowOk P t r) (hrt : r.td = .sl e) (hre : RowOk P e re) {lo hi mx : Option Operand} {q x : V}
    (h : xpart re q (fun d => xbound s d lo) (fun d => xbound s d hi) (xmax s hi mx) = some x) :
    ∃ f : Value → Value, ∀ (w : World) v, V.rep w (SS S0 n0 φ) φ q v → V.rep w (SS S0 n0 φ) φ x (f v) ∧ ∀ w', (Instr.sliceAt t v (lo.map a.eval) (hi.map a.eval) (mx.map a.eval)).run P w' = .ok (f v) w' := by
  have mxn : xmax s hi mx = none → mx = none := fun hm => by cases mx with
    | none => rfl
    | some o => simp only [xmax] at hm; split at hm <;> cases hm
  unfold xpart at h
  split at h
  · rename_i es id off len clip
    split at h
    · rename_i i j hes hlo hhi
      have hes : es = re.size := Nat.eq_of_beq_eq_true hes
      subst hes
      split at h
      · rename_i i' j' hb
        unfold sbndo at hb
        split at hb
        · rename_i hc
          obtain ⟨c1, c2, c3, c4⟩ := hc
          simp only [Option.some.injEq, Prod.mk.injEq] at hb
          obtain ⟨rfl, rfl⟩ := hb
          split at h
          · rename_i hm
            simp only [Option.some.injEq] at h; subst h
            have hmx := mxn hm
            subst hmx
            refine ⟨fun v => match v with | .slice base len cap => sliced base i.toNat j.toNat cap re.size | _ => undef, fun w v hv => ?_⟩
            rcases hv with ⟨rfl, rfl, a0, rfl, hd⟩ | ⟨b, o, cap, cs, T, fz, hphi, rfl, g1, g2, g3, g4, g5⟩
            · have ei : i = 0 := by omega
              have ej : j = 0 := by omega
              subst ei ej
              exact ⟨.inl ⟨rfl, rfl, a0, by simp [sliced], by simpa [sliced] using hd⟩, fun w' => part_run H hr hrt hre hlo hhi (.inl ⟨rfl, rfl⟩) c1 c2 (by omega) (Nat.le_refl _) w'⟩
            · refine ⟨.inr ⟨b, o, cap - i.toNat, cs, T, fz, hphi, ?_, by rw [nsub_def]; omega, by omega, fun hh => (by cases hh), g4, ?_⟩, fun w' => part_run H hr hrt hre hlo hhi (.inl ⟨rfl, rfl⟩) c1 c2 (by omega) (Nat.le_refl _) w'⟩
              · show sliced (some ⟨b, o + off * re.size, none⟩) i.toNat j.toNat cap re.size = _
                unfold sliced
                rw [nadd_def, nsub_def]
                by_cases hi0 : i.toNat = 0
                · rw [hi0]
                  split <;> simp [Addr.add]
                · rw [if_neg (by omega)]
                  simp only [Option.map_some, addr_add]
                  rw [Nat.add_mul, Nat.add_assoc]
              · rw [nadd_def]
                rw [show off + i.toNat + (cap - i.toNat) = off + cap by omega]; exact g5
          · rename_i m hm
            split at h
            · rename_i m0
              split at h
              · rename_i x1 x2 y hi0 hb2
                unfold sbnd at hb2
                split at hb2
                · rename_i hc2
                  simp only [Option.some.injEq, Prod.mk.injEq] at hb2
                  obtain ⟨_, rfl⟩ := hb2
                  simp only [Option.some.injEq] at h; subst h
                  refine ⟨fun v => match v with | .slice base len cap => sliced base i.toNat j.toNat m0.toNat re.size | _ => undef, fun w v hv => ?_⟩
                  rcases hv with ⟨rfl, rfl, a0, rfl, hd⟩ | ⟨b, o, cap, cs, T, fz, hphi, rfl, g1, g2, g3, g4, g5⟩
                  · have ej : j = 0 := by omega
                    have em : m0 = 0 := by omega
                    have ei : i = 0 := by omega
                    subst ej em ei
                    exact ⟨.inl ⟨rfl, rfl, a0, by simp [sliced], by simpa [sliced] using hd⟩, fun w' => part_run H hr hrt hre hlo hhi (.inr ⟨0, hm, by omega, rfl⟩) c1 c2 (by omega) (by omega) w'⟩
                  · refine ⟨.inr ⟨b, o, m0.toNat, cs, T, fz, hphi, ?_, by omega, by omega, fun hh => by unfold nateq at hh; exact (eq_of_beq hh).symm, g4, ?_⟩, fun w' => part_run H hr hrt hre hlo hhi (.inr ⟨m0, hm, by omega, rfl⟩) c1 c2 (by omega) (by omega) w'⟩
                    · show sliced (some ⟨b, o + off * re.size, none⟩) i.toNat j.toNat m0.toNat re.size = _
                      unfold sliced
                      rw [hi0]
                      split <;> simp [Addr.add]
                    · exact Nat.le_trans (Nat.add_le_add_left (Nat.mul_le_mul_right _ (by omega)) _) g5
                · cases hb2
              · cases h
            · cases h
        · cases hb
      · cases h
    · cases h
  · rename_i es clip xs
    split at h
    · rename_i i j hes hlo hhi
      have hes : es = re.size := Nat.eq_of_beq_eq_true hes
      subst hes
      split at h
      · rename_i i' j' hb
        unfold sbnd at hb
        split at hb
        · rename_i hc
          obtain ⟨c1, c2, c3⟩ := hc
          simp only [Option.some.injEq, Prod.mk.injEq] at hb
          obtain ⟨rfl, rfl⟩ := hb
          simp only [llen] at c3 hhi
          have key : ∀ (m : Nat) (c' : Bool) (w : World) v, V.rep w (SS S0 n0 φ) φ (.d (.sl re.size clip xs)) v → (∀ base cap, v = .slice base xs.length cap → MxOk s hi mx m cap ∧ j ≤ m ∧ m ≤ cap) → (c' = true → j.toNat = m) →
              V.rep w (SS S0 n0 φ) φ (.d (.sl re.size c' (lsub xs i.toNat j.toNat))) (match v with | .slice base len cap => sliced base i.toNat j.toNat m re.size | _ => undef) ∧ ∀ w', (Instr.sliceAt t v (lo.map a.eval) (hi.map a.eval) (mx.map a.eval)).run P w' = .ok (match v with | .slice base len cap => sliced base i.toNat j.toNat m re.size | _ => undef) w' := by
            intro m c' w v hv hb hcl
            have hll : (lsub xs i.toNat j.toNat).length = j.toNat - i.toNat := by unfold lsub; rw [List.length_take, List.length_drop]; omega
            rcases hv with ⟨rfl, a0, rfl⟩ | ⟨b, o, cap, rfl, g1, g2, g3, g4, g5, g6⟩
            · obtain ⟨b1, b2, b3⟩ := hb a0 0 rfl
              have em : m = 0 := by omega
              simp only [List.length_nil] at c3
              have ei : i = 0 := by omega
              have ej : j = 0 := by omega
              subst em ei ej
              exact ⟨.inl ⟨by unfold lsub; simp, a0, by simp [sliced]⟩, fun w' => part_run H hr hrt hre hlo hhi b1 c1 c2 b2 b3 w'⟩
            · obtain ⟨b1, b2, b3⟩ := hb _ _ rfl
              refine ⟨?_, fun w' => part_run H hr hrt hre hlo hhi b1 c1 c2 b2 b3 w'⟩
              obtain ⟨cs, k1, k2⟩ := D.repE_iff.1 g6
              by_cases hm : m = i.toNat
              · refine .inr ⟨b, o, m - i.toNat, ?_, by omega, by omega, fun hh => by have := hcl hh; omega, g4, g5, ?_⟩
                · simp only [sliced, if_pos hm, hll]
                · have : lsub xs i.toNat j.toNat = [] := List.eq_nil_of_length_eq_zero (by omega)
                  rw [this]; trivial
              · refine .inr ⟨b, o + i.toNat * re.size, m - i.toNat, ?_, by omega, by omega, fun hh => by have := hcl hh; omega, g4, g5, ?_⟩
                · simp only [sliced, if_neg hm, hll, Option.map_some, addr_add]
                · refine D.repE_iff.2 ⟨_, by unfold lsub; exact D.repF_take (j.toNat - i.toNat) (D.repF_drop i.toNat k1), fun l u hl => ?_⟩
                  rw [List.getElem?_take] at hl
                  split at hl
                  · rw [List.getElem?_drop] at hl
                    have := k2 _ u hl
                    rwa [← Nat.add_assoc] at this
                  · cases hl
          split at h
          · rename_i hm
            simp only [Option.some.injEq] at h; subst h
            have hmx := mxn hm
            refine ⟨fun v => match v with | .slice base len cap => sliced base i.toNat j.toNat cap re.size | _ => undef, fun w v hv => ?_⟩
            have hv' := hv
            rcases hv' with ⟨rfl, a0, rfl⟩ | ⟨b, o, cap, rfl, g1, g2, g3, g4, g5, g6⟩
            · exact key 0 false w _ hv (fun base cap he => by simp only [Value.slice.injEq] at he; exact ⟨.inl ⟨hmx, he.2.2⟩, by simp only [List.length_nil] at c3; omega, by omega⟩) (fun h => by cases h)
            · exact key cap false w _ hv (fun base cap' he => by simp only [Value.slice.injEq] at he; exact ⟨.inl ⟨hmx, he.2.2⟩, by omega, by omega⟩) (fun h => by cases h)
          · rename_i m hm
            split at h
            · rename_i m0
              split at h
              · rename_i x1 x2 y hi0 hb2
                unfold sbnd at hb2
                split at hb2
                · rename_i hc2
                  simp only [llen] at hc2
                  simp only [Option.some.injEq, Prod.mk.injEq] at hb2
                  obtain ⟨_, rfl⟩ := hb2
                  simp only [Option.some.injEq] at h; subst h
                  refine ⟨fun v => match v with | .slice base len cap => sliced base i.toNat j.toNat m0.toNat re.size | _ => undef, fun w v hv => ?_⟩
                  have hv' := hv
                  rw [hi0] at key ⊢
                  rcases hv' with ⟨rfl, a0, rfl⟩ | ⟨b, o, cap, rfl, g1, g2, g3, g4, g5, g6⟩
                  · exact key m0.toNat _ w _ hv (fun base cap he => by simp only [Value.slice.injEq] at he; exact ⟨.inr ⟨m0, hm, by omega, rfl⟩, by omega, by simp only [List.length_nil] at hc2; omega⟩) (fun h => by unfold nateq at h; exact eq_of_beq h)
                  · exact key m0.toNat _ w _ hv (fun base cap' he => by simp only [Value.slice.injEq] at he; exact ⟨.inr ⟨m0, hm, by omega, rfl⟩, by omega, by omega⟩) (fun h => by unfold nateq at h; exact eq_of_beq h)
                · cases hb2
              · cases h
            · cases h
        · cases hb
      · cases h
    · cases h
  · cases h
theorem run_xpure2 (hL : LayOk P L) (H : Sim w (SS S0 n0 φ) φ s a) {o : Oper} {x : V} (h : xpure2 L o.op s = some x) :
    ∃ u, ∀ w', Sim w' (SS S0 n0 φ) φ s a → V.rep w' (SS S0 n0 φ) φ x u ∧ (execOp a.eval o).run P w' = .ok (.value u) w' := by
  have V1 : ∀ (m : Sem Value) (u : Value) (w' : World), m.run P w' = .ok u w' → ((do pure (.value (← m)) : Sem Next)).run P w' = .ok (.value u) w' := fun m u w' h => by simp [Sem.run_bind, h]
  cases ho : o.op <;> rw [ho] at h <;> simp only [xpure2] at h <;> first | (cases h; done) | skip
  case convert src dst y =>
    split at h
    · rename_i rs rd hs hd
      split at h
      · rename_i e hst hdt
        split at h
        · rename_i re he
          split at h
          · rename_i het
            split at h
            · rename_i xs hx
              split at h
              · rename_i l hl
                simp only [Option.some.injEq] at h; subst h
                exact ⟨_, fun w' H' => ⟨rfl, by rw [execOp, ho]; exact V1 _ _ _ (run_bytes_str hL H' hs hd hst hdt he het hx hl (ev_rep H' y))⟩⟩
              · cases h
            · cases h
          · cases h
        · cases h
      · cases h
    · cases h
  case slice t y lo hi mx =>
    split at h
    · rename_i r hr
      split at h
      · rename_i e hrt
        split at h
        · rename_i re he
          obtain ⟨f, hf⟩ := part_ok (P := P) H (hL t r hr) hrt (hL e re he) h
          exact ⟨f (a.eval y), fun w' H' => ⟨(hf w' _ (ev_rep H' y)).1, by rw [execOp, ho]; exact V1 _ _ _ ((hf w' _ (ev_rep H' y)).2 w')⟩⟩
        · cases h
      · cases h
    · cases h
  case call c =>
    split at h
    · rename_i y t hc1 hc2 hc3
      have e2 : c.args = #[y] := by rw [← Array.toArray_toList (xs := c.args), hc2]
      have e3 : c.argTypes = #[t] := by rw [← Array.toArray_toList (xs := c.argTypes), hc3]
      split at h
      · rename_i r hr
        split at h
        · rename_i e hrt
          obtain ⟨d, hd, htd⟩ := (hL t r hr).und
          rw [hrt] at htd; simp only [tdOk] at htd; subst htd
          have run : ∀ (base : Option Addr) (n c' : Nat) (w' : World), a.eval y = .slice base n c' → (execOp a.eval o).run P w' = .ok (.value (goInt c')) w' := by
            intro base n c' w' he
            have := run_cap_slice (P := P) w' t o.type base n c' (by rw [elem_of hd]; exact hd)
            simp [execOp, ho, resolve, hc1, invoke, builtin, e2, e3, he, this]
          split at h
          · rename_i es id off len hy
            simp only [Option.some.injEq] at h; subst h
            refine ⟨goInt len, fun w' H' => ⟨by unfold nint; rfl, ?_⟩⟩
            have hv := ev_rep H' y
            rw [hy] at hv
            rcases hv with ⟨rfl, rfl, a0, hv, _⟩ | ⟨b, o', cap, cs, T, fz, hphi, hv, g1, g2, g3, _⟩
            · exact run _ _ _ w' hv
            · rw [run _ _ _ w' hv, g3 rfl]
          · rename_i es xs hy
            simp only [Option.some.injEq] at h; subst h
            refine ⟨goInt xs.length, fun w' H' => ⟨by unfold llen nint; rfl, ?_⟩⟩
            have hv := ev_rep H' y
            rw [hy] at hv
            rcases hv with ⟨rfl, a0, hv⟩ | ⟨b, o', cap, hv, g1, g2, g3, _⟩
            · exact run _ _ _ w' hv
            · rw [run _ _ _ w' hv, g3 rfl]
          · cases h
        · cases h
      · cases h
    · cases h
end
section
variable {P : Program} {L : List (Option Row)} {C : Cx P L}
theorem ok_pure2 {all r : List Oper} {o : Oper} {k : List It} {s : XS} {x : V} (hw : xwant s all o = some true) (hp : xpure2 L o.op s = some x) (h : OK C (.ops all r :: k) (s.put o.dst x)) : OK C (.ops all (o :: r) :: k) s := by
  intro φ a w hg
  obtain ⟨u, h1⟩ := run_xpure2 C.lay hg.sim hp
  show wpList P all.toArray (kQ C k) (o :: r) a w
  refine wpList_step fun K hK => ?_
  rw [if_pos (want_ok hg.sim hw)]
  unfold Oper.wp
  rw [(h1 w hg.sim).2]
  exact hK _ _ (h φ _ w (hg.put o.dst (h1 w hg.sim).1))
theorem ok_qpure2 {all r tl : List Oper} {o : Oper} {k : List It} {s : XS} {x : V} (hw : xwant s all o = some true) (hp : xpure2 L o.op s = some x) (h : OK C (.qops all r tl :: k) (s.put o.dst x)) : OK C (.qops all (o :: r) tl :: k) s := by
  intro φ a w hg
  obtain ⟨u, h1⟩ := run_xpure2 C.lay hg.sim hp
  show wpQuiet _ _ _ _ (o :: r) a
  refine wpQuiet_step fun K hK => ?_
  rw [if_pos (want_ok hg.sim hw)]
  refine ⟨u, fun w' hw' => ?_, hK _ (h φ _ w (hg.put o.dst (h1 w hg.sim).1))⟩
  unfold Oper.quietAt
  rw [(h1 w' (hg.later hw').sim).2]
  exact ⟨rfl, rfl⟩
end
end Go.Proofs.Ytblmoikhfmkfnaa
