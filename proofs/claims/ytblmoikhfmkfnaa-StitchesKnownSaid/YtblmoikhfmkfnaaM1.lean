/- An abstract machine for the walks, 1: data, memory of a call's own, and how they are represented in a world. -/
import Derived.WalkKit
import Derived.StillTail
import Derived.BigQuiet
import Derived.Deep.LoopGhost
namespace Go.Proofs.Ytblmoikhfmkfnaa
set_option linter.unusedSimpArgs false
set_option linter.unusedVariables false
open Go.RowKit Go

/-- Data that nobody writes any more. 'sl es clip xs': a slice whose elements have es cells; clip: its capacity is its length. -/
inductive D where
  | int (k : IntKind) (n : Int)
  | bool (b : Bool)
  | str (l : List UInt8)
  | sc (v : Value)
  | agg (cs : List D)
  | sl (es : Nat) (clip : Bool) (xs : List D)
  deriving Inhabited

/-- What a slot holds. 'ptr': into a box of the call's own (a cell); 'own', 'aptr': a slice over, a pointer into an array of the call's own; 'iptr': into data. -/
inductive V where
  | d (x : D)
  | agg (cs : List V)
  | tup (vs : List V)
  | ptr (id off : Nat)
  | own (es id off len : Nat) (clip : Bool)
  | aptr (es id k off : Nat)
  | iptr (es : Nat) (xs : List D) (k off : Nat)
  | fn (f : Nat) (cap : List V)
  | undef
  deriving Inhabited

/-- A block of the call's own: cells one by one, or elements that are data. -/
inductive Blk where
  | box (cells : List V)
  | arr (es : Nat) (xs : List D)
  deriving Inhabited

def one (v : Value) : Bool := match v with | .agg _ => false | .tuple _ => false | _ => true

abbrev Phi := List (Option (Nat × Nat))

section
variable (w : World) (S : Nat → Prop)
mutual
/-- The value reads as the datum; all the memory that it takes lies in blocks of S. -/
def D.rep : D → Value → Prop
  | .int k n, x => x = .int k n
  | .bool b, x => x = .bool b
  | .str l, x => x = .string ⟨l.toArray⟩
  | .sc v, x => x = v ∧ one v = true
  | .agg cs, x => ∃ xs : List Value, x = .agg xs.toArray ∧ D.repL cs xs
  | .sl es clip ds, x => (ds = [] ∧ ∃ a, x = .slice a 0 0) ∨ ∃ b o cap, x = .slice (some ⟨b, o, none⟩) ds.length cap ∧ ds.length ≤ cap ∧ cap ≤ maxLen ∧ (clip = true → cap = ds.length) ∧ S b ∧ b < w.heap.size ∧ D.repE es b ds o
def D.repL : List D → List Value → Prop
  | [], xs => xs = []
  | d :: ds, xs => ∃ y ys, xs = y :: ys ∧ D.rep d y ∧ one y = true ∧ D.repL ds ys
def D.repE (es b : Nat) : List D → Nat → Prop
  | [], _ => True
  | d :: ds, o => (∃ x, D.rep d x ∧ x.cells.size = es ∧ ∀ j, j < es → w.cell? ⟨b, o + j, none⟩ = x.cells[j]?) ∧ D.repE es b ds (o + es)
end
end

section
variable (w : World) (S : Nat → Prop) (φ : Phi)
mutual
def V.rep : V → Value → Prop
  | .d x, v => D.rep w S x v
  | .agg cs, v => ∃ xs : List Value, v = .agg xs.toArray ∧ V.repL cs xs
  | .tup vs, v => ∃ xs : List Value, v = .tuple xs.toArray ∧ V.repT vs xs
  | .ptr id off, v => ∃ b o, φ[id]? = some (some (b, o)) ∧ v = .pointer (some ⟨b, o + off, none⟩)
  | .own es id off len clip, v => (len = 0 ∧ off = 0 ∧ ∃ a, v = .slice a 0 0 ∧ D.rep w S (.sl 0 true []) v) ∨ ∃ b o cap cs T fz, φ[id]? = some (some (b, o)) ∧ v = .slice (some ⟨b, o + off * es, none⟩) len cap ∧ len ≤ cap ∧ cap ≤ maxLen ∧ (clip = true → cap = len) ∧ w.heap[b]? = some (.cells cs T fz) ∧ o + (off + cap) * es ≤ cs.size
  | .aptr es id k off, v => ∃ b o, φ[id]? = some (some (b, o)) ∧ v = .pointer (some ⟨b, o + k * es + off, none⟩)
  | .iptr es xs k off, v => ∃ b o, v = .pointer (some ⟨b, o + k * es + off, none⟩) ∧ S b ∧ b < w.heap.size ∧ D.repE w S es b xs o
  | .fn f cap, v => ∃ xs : List Value, v = .func (.func f) #[] xs.toArray ∧ V.repT cap xs
  | .undef, _ => True
def V.repL : List V → List Value → Prop
  | [], xs => xs = []
  | z :: zs, xs => ∃ y ys, xs = y :: ys ∧ V.rep z y ∧ one y = true ∧ V.repL zs ys
def V.repT : List V → List Value → Prop
  | [], xs => xs = []
  | z :: zs, xs => ∃ y ys, xs = y :: ys ∧ V.rep z y ∧ V.repT zs ys
end
/-- A block: its cells lie from (b, o) on. -/
def Blk.rep (blk : Blk) (b o : Nat) : Prop :=
  match blk with
  | .box cells => ∀ j x, cells[j]? = some x → ∃ v, w.cell? ⟨b, o + j, none⟩ = some v ∧ one v = true ∧ V.rep w S φ x v
  | .arr es xs => D.repE w S es b xs o
structure MemRel (mem : List (Option Blk)) : Prop where
  len : φ.length = mem.length
  ent : ∀ (id : Nat) (blk : Blk), mem[id]? = some (some blk) → (φ[id]? = some none ∧ ∃ es, blk = .arr es []) ∨ ∃ b o : Nat, φ[id]? = some (some (b, o)) ∧ ¬ S b ∧ b < w.heap.size ∧ (∃ cs T fz, w.heap[b]? = some (.cells cs T fz) ∧ ∀ i, i < cs.size → ¬ (fz.1 ≤ i ∧ i < fz.2)) ∧ Blk.rep w S φ blk b o
  dead : ∀ id : Nat, mem[id]? = some none → φ[id]? = some none
  inj : ∀ i j b o o' : Nat, φ[i]? = some (some (b, o)) → φ[j]? = some (some (b, o')) → i = j
end

/-- b is one of the call's own blocks. -/
def Phi.has (φ : Phi) (b : Nat) : Prop := ∃ id o : Nat, φ[id]? = some (some (b, o))

/-- From w to w': what is not of φ's blocks is as it was; φ' has φ's blocks and new ones. -/
structure FrameTo (φ : Phi) (w : World) (φ' : Phi) (w' : World) : Prop where
  os : w'.os = w.os
  tape : w'.tape = w.tape
  output : w'.output = w.output
  size : w.heap.size ≤ w'.heap.size
  block : ∀ b, b < w.heap.size → ¬ φ.has b → w'.heap[b]? = w.heap[b]?
  has : ∀ b, φ'.has b → φ.has b ∨ w.heap.size ≤ b

theorem FrameTo.refl (φ : Phi) (w : World) : FrameTo φ w φ w := ⟨rfl, rfl, rfl, Nat.le_refl _, fun _ _ _ => rfl, fun _ h => .inl h⟩
theorem FrameTo.trans {φ φ' φ'' : Phi} {w w' w'' : World} (h : FrameTo φ w φ' w') (k : FrameTo φ' w' φ'' w'') : FrameTo φ w φ'' w'' := by
  refine ⟨k.os.trans h.os, k.tape.trans h.tape, k.output.trans h.output, Nat.le_trans h.size k.size, fun b hb hn => ?_, fun b hb => ?_⟩
  · rw [k.block b (Nat.lt_of_lt_of_le hb h.size) (fun hh => ?_), h.block b hb hn]
    rcases h.has b hh with h1 | h1
    · exact hn h1
    · omega
  · rcases k.has b hb with h1 | h1
    · exact h.has b h1
    · exact .inr (Nat.le_trans h.size h1)

/-! ### What carries a reading from one world to another -/
theorem cell_same {w w' : World} {b : Nat} (h : w'.heap[b]? = w.heap[b]?) (o : Nat) : w'.cell? ⟨b, o, none⟩ = w.cell? ⟨b, o, none⟩ := by
  simp only [World.cell?, h]

/-- All that lies in S is as it was, and lies in S'. -/
structure Carry (w : World) (S : Nat → Prop) (w' : World) (S' : Nat → Prop) : Prop where
  sub : ∀ b, S b → b < w.heap.size → S' b
  same : ∀ b, S b → b < w.heap.size → w'.heap[b]? = w.heap[b]?
  size : w.heap.size ≤ w'.heap.size

section
variable {w w' : World} {S S' : Nat → Prop}
mutual
theorem D.rep_mono (H : Carry w S w' S') : ∀ (d : D) (v : Value), D.rep w S d v → D.rep w' S' d v
  | .int _ _, _, h => h
  | .bool _, _, h => h
  | .str _, _, h => h
  | .sc _, _, h => h
  | .agg cs, _, ⟨xs, hx, h⟩ => ⟨xs, hx, D.repL_mono H cs xs h⟩
  | .sl es _ ds, _, h => h.elim .inl fun ⟨b, o, cap, h1, h2, h2', h3, h4, h5, h6⟩ => .inr ⟨b, o, cap, h1, h2, h2', h3, H.sub b h4 h5, Nat.lt_of_lt_of_le h5 H.size, D.repE_mono H es b (H.same b h4 h5) ds o h6⟩
theorem D.repL_mono (H : Carry w S w' S') : ∀ (ds : List D) (xs : List Value), D.repL w S ds xs → D.repL w' S' ds xs
  | [], _, h => h
  | d :: ds, _, ⟨y, ys, e, h1, h2, h3⟩ => ⟨y, ys, e, D.rep_mono H d y h1, h2, D.repL_mono H ds ys h3⟩
theorem D.repE_mono (H : Carry w S w' S') (es b : Nat) (hb : w'.heap[b]? = w.heap[b]?) : ∀ (ds : List D) (o : Nat), D.repE w S es b ds o → D.repE w' S' es b ds o
  | [], _, _ => trivial
  | d :: ds, o, ⟨⟨x, h1, h2, h3⟩, h4⟩ => ⟨⟨x, D.rep_mono H d x h1, h2, fun j hj => by rw [cell_same hb]; exact h3 j hj⟩, D.repE_mono H es b hb ds _ h4⟩
end
end

/-- .. and the call's own blocks keep their places and are no shorter. -/
structure CarryV (w : World) (S : Nat → Prop) (φ : Phi) (w' : World) (S' : Nat → Prop) (φ' : Phi) : Prop extends Carry w S w' S' where
  phi : ∀ id b o : Nat, φ[id]? = some (some (b, o)) → φ'[id]? = some (some (b, o))
  rows : ∀ (id b o : Nat) (cs : Array Value) (T : TypeId) (fz : Nat × Nat), φ[id]? = some (some (b, o)) → w.heap[b]? = some (.cells cs T fz) → ∃ cs' T' fz', w'.heap[b]? = some (.cells cs' T' fz') ∧ cs.size ≤ cs'.size

section
variable {w w' : World} {S S' : Nat → Prop} {φ φ' : Phi}
mutual
theorem V.rep_mono (H : CarryV w S φ w' S' φ') : ∀ (x : V) (v : Value), V.rep w S φ x v → V.rep w' S' φ' x v
  | .d x, v, h => D.rep_mono H.toCarry x v h
  | .agg cs, _, ⟨xs, hx, h⟩ => ⟨xs, hx, V.repL_mono H cs xs h⟩
  | .tup vs, _, ⟨xs, hx, h⟩ => ⟨xs, hx, V.repT_mono H vs xs h⟩
  | .ptr _ _, _, ⟨b, o, h1, h2⟩ => ⟨b, o, H.phi _ _ _ h1, h2⟩
  | .own _ _ _ _ _, _, h => h.elim (fun ⟨k1, k2, a, k3, k4⟩ => .inl ⟨k1, k2, a, k3, D.rep_mono H.toCarry (.sl 0 true []) _ k4⟩) fun ⟨b, o, cap, cs, T, fz, h1, h2, h3, h3', h4, h5, h6⟩ =>
    let ⟨cs', T', fz', h7, h8⟩ := H.rows _ _ _ _ _ _ h1 h5
    .inr ⟨b, o, cap, cs', T', fz', H.phi _ _ _ h1, h2, h3, h3', h4, h7, Nat.le_trans h6 h8⟩
  | .aptr _ _ _ _, _, ⟨b, o, h1, h2⟩ => ⟨b, o, H.phi _ _ _ h1, h2⟩
  | .iptr es xs _ _, _, ⟨b, o, h1, h2, h3, h4⟩ => ⟨b, o, h1, H.sub b h2 h3, Nat.lt_of_lt_of_le h3 H.size, D.repE_mono H.toCarry es b (H.same b h2 h3) xs o h4⟩
  | .fn _ cap, _, ⟨xs, hx, h⟩ => ⟨xs, hx, V.repT_mono H cap xs h⟩
  | .undef, _, _ => trivial
theorem V.repL_mono (H : CarryV w S φ w' S' φ') : ∀ (ds : List V) (xs : List Value), V.repL w S φ ds xs → V.repL w' S' φ' ds xs
  | [], _, h => h
  | x :: ds, _, ⟨y, ys, e, h1, h2, h3⟩ => ⟨y, ys, e, V.rep_mono H x y h1, h2, V.repL_mono H ds ys h3⟩
theorem V.repT_mono (H : CarryV w S φ w' S' φ') : ∀ (ds : List V) (xs : List Value), V.repT w S φ ds xs → V.repT w' S' φ' ds xs
  | [], _, h => h
  | x :: ds, _, ⟨y, ys, e, h1, h3⟩ => ⟨y, ys, e, V.rep_mono H x y h1, V.repT_mono H ds ys h3⟩
end
theorem Blk.rep_mono (H : CarryV w S φ w' S' φ') {blk : Blk} {b o : Nat} (hb : w'.heap[b]? = w.heap[b]?) (h : Blk.rep w S φ blk b o) : Blk.rep w' S' φ' blk b o := by
  cases blk with
  | box cells => exact fun j x hx => let ⟨v, h1, h2, h3⟩ := h j x hx; ⟨v, by rw [cell_same hb]; exact h1, h2, V.rep_mono H x v h3⟩
  | arr es xs => exact D.repE_mono H.toCarry es b hb xs o h
end
end Go.Proofs.Ytblmoikhfmkfnaa
