/- The abstract machine, 22: operations that ask for a word from outside (an index, a datum, memory that bears it), one lemma each; typed lists. -/
import Derived.Test.YtblmoikhfmkfnaaM20
namespace Go.Proofs.Ytblmoikhfmkfnaa
set_option linter.unusedSimpArgs false
set_option linter.unusedVariables false
open Go.RowKit Go

section
variable {L : List (Option Row)} {s : XS}
theorem xp_iaD {t : Nat} {x i : Operand} {r re : Row} {e es k : Nat} {c : Bool} {xs : List D} {kk : IntKind} {n : Int} (h1 : rowAt L t = some r) (h2 : r.td = .sl e) (h3 : rowAt L e = some re) (h4 : Nat.beq re.size es = true)
    (hx : s.ev x = .d (.sl es c xs)) (hi : s.ev i = .d (.int kk n)) (hk : idx n (llen xs) = some k) : xpure L (.indexAddr t x i) s = some (.iptr es xs k 0) := by
  simp only [xpure, hi, h1, hx, xindexAddr, h2, hk, h3, h4]
theorem xp_iaO {t : Nat} {x i : Operand} {r re : Row} {e es k id off len es' : Nat} {c : Bool} {ys : List D} {kk : IntKind} {n : Int} (h1 : rowAt L t = some r) (h2 : r.td = .sl e) (h3 : rowAt L e = some re) (h4 : Nat.beq re.size es = true)
    (hx : s.ev x = .own es id off len c) (hi : s.ev i = .d (.int kk n)) (hb : blkAt s.mem id = some (.arr es' ys)) (hk : idx n len = some k) : xpure L (.indexAddr t x i) s = some (.aptr es id (nadd off k) 0) := by
  simp only [xpure, hi, h1, hx, xindexAddr, h2, hk, h3, h4, hb]
theorem xp_iaB {t : Nat} {x i : Operand} {r re : Row} {e es k id off len : Nat} {c : Bool} {ys : List V} {kk : IntKind} {n : Int} (h1 : rowAt L t = some r) (h2 : r.td = .sl e) (h3 : rowAt L e = some re) (h4 : Nat.beq re.size es = true)
    (hx : s.ev x = .own es id off len c) (hi : s.ev i = .d (.int kk n)) (hb : blkAt s.mem id = some (.box ys)) (hk : idx n len = some k) : xpure L (.indexAddr t x i) s = some (.ptr id ((off + k) * es)) := by
  simp only [xpure, hi, h1, hx, xindexAddr, h2, hk, h3, h4, hb]
theorem xp_iaA {t : Nat} {x i : Operand} {r re : Row} {e m id off k : Nat} {kk : IntKind} {n : Int} (h1 : rowAt L t = some r) (h2 : r.td = .arr m e) (h3 : rowAt L e = some re)
    (hx : s.ev x = .ptr id off) (hi : s.ev i = .d (.int kk n)) (hk : idx n m = some k) : xpure L (.indexAddr t x i) s = some (.ptr id (off + k * re.size)) := by
  simp only [xpure, hi, h1, hx, xindexAddr, h2, hk, h3]
theorem xp_ldI {t : Nat} {p : Operand} {r : Row} {es k off : Nat} {xs : List D} {x : D} {v : V} (h1 : rowAt L t = some r) (hp : s.ev p = .iptr es xs k off) (hx : lget xs k = some x) (hv : xelem r es x off = some v) : xpure L (.load t p) s = some v := by
  simp only [xpure, h1, hp, xload, hx, hv]
theorem xp_ldA {t : Nat} {p : Operand} {r : Row} {es id k off : Nat} {xs : List D} {x : D} {v : V} (h1 : rowAt L t = some r) (hp : s.ev p = .aptr es id k off) (hb : blkAt s.mem id = some (.arr es xs)) (hx : lget xs k = some x) (hv : xelem r es x off = some v) : xpure L (.load t p) s = some v := by
  have : Nat.beq es es = true := Nat.beq_refl es
  simp only [xpure, h1, hp, xload, hb, this, hx, hv]
theorem xp_ixS {t : Nat} {x i : Operand} {r : Row} {l : List UInt8} {kk : IntKind} {n m : Int} (h1 : rowAt L t = some r) (h2 : r.td = .str) (hx : s.ev x = .d (.str l)) (hi : s.ev i = .d (.int kk n)) (hk : sget l n = some m) :
    xpure L (.index t x i) s = some (.d (.int .u8 m)) := by
  simp only [xpure, hi, h1, hx, xindex, h2, hk]
theorem xp_ixA {t : Nat} {x i : Operand} {r re : Row} {e m k : Nat} {cs : List D} {y : D} {kk : IntKind} {n : Int} (h1 : rowAt L t = some r) (h2 : r.td = .arr m e) (h3 : rowAt L e = some re) (hx : s.ev x = .d (.agg cs)) (hi : s.ev i = .d (.int kk n))
    (hk : idx n m = some k) (hd : dpart re (.agg cs) (k * re.size) = some y) : xpure L (.index t x i) s = some (.d y) := by
  simp only [xpure, hi, h1, hx, xindex, h2, hk, h3, hd]
theorem xp_quo {t d : Nat} {x y : Operand} {k : IntKind} {a b : Int} (hx : s.ev x = .d (.int k a)) (hy : s.ev y = .d (.int k b)) (hb : nz b = true) : xpure L (.binOp .quo t x y d) s = some (.d (.int k (iquo k a b))) := by
  simp [xpure, xbin, hx, hy, xint, hb]
theorem xp_rem {t d : Nat} {x y : Operand} {k : IntKind} {a b : Int} (hx : s.ev x = .d (.int k a)) (hy : s.ev y = .d (.int k b)) (hb : nz b = true) : xpure L (.binOp .rem t x y d) s = some (.d (.int k (irem a b))) := by
  simp [xpure, xbin, hx, hy, xint, hb]
theorem xp_cat {t d : Nat} {x y : Operand} {a b c : List UInt8} (hx : s.ev x = .d (.str a)) (hy : s.ev y = .d (.str b)) (hb : scat a b = some c) : xpure L (.binOp .add t x y d) s = some (.d (.str c)) := by
  simp only [xpure, xbin, hx, hy, xstr, hb]
theorem xp_ssl {t : Nat} {x : Operand} {lo hi : Option Operand} {r : Row} {l : List UInt8} {a b : Int} {i j : Nat} (h1 : rowAt L t = some r) (h2 : r.td = .str) (hx : s.ev x = .d (.str l)) (ha : xbound s 0 lo = some a) (hb : xbound s (slen l) hi = some b)
    (hk : sbnd a b (slenN l) = some (i, j)) : xpure L (.slice t x lo hi none) s = some (.d (.str (ssub l i j))) := by
  simp only [xpure, h1, h2, hx, xsliceStr, ha, hb, hk]
theorem xp_sslT {t : Nat} {x : Operand} {lo hi : Option Operand} {r : Row} {l out : List UInt8} {a b : Int} {i j : Nat} (h1 : rowAt L t = some r) (h2 : r.td = .str) (hx : s.ev x = .d (.str l)) (ha : xbound s 0 lo = some a) (hb : xbound s (slen l) hi = some b)
    (hk : sbnd a b (slenN l) = some (i, j)) (ho : ssub l i j = out) : xpure L (.slice t x lo hi none) s = some (.d (.str out)) := by
  rw [← ho]; exact xp_ssl h1 h2 hx ha hb hk
/-- a part of a slice that is data -/
theorem xp_slD {t e es i j : Nat} {x : Operand} {lo hi : Option Operand} {r re : Row} {c : Bool} {xs : List D} {a b : Int} (h1 : rowAt L t = some r) (h2 : r.td = .sl e) (h3 : rowAt L e = some re) (h4 : Nat.beq es re.size = true)
    (hx : s.ev x = .d (.sl es c xs)) (ha : xbound s 0 lo = some a) (hb : xbound s (nint (llen xs)) hi = some b) (hk : sbnd a b (llen xs) = some (i, j)) : xpure2 L (.slice t x lo hi none) s = some (.d (.sl es false (lsub xs i j))) := by
  simp only [xpure2, h1, h2, h3, xpart, hx, h4, ha, hb, hk, xmax]
theorem xp_slO {t e es i j id off len : Nat} {x : Operand} {lo hi : Option Operand} {r re : Row} {c : Bool} {a b : Int} (h1 : rowAt L t = some r) (h2 : r.td = .sl e) (h3 : rowAt L e = some re) (h4 : Nat.beq es re.size = true)
    (hx : s.ev x = .own es id off len c) (ha : xbound s 0 lo = some a) (hb : xbound s (nint len) hi = some b) (hk : sbndo a b len = some (i, j)) : xpure2 L (.slice t x lo hi none) s = some (.own es id (nadd off i) (nsub j i) false) := by
  simp only [xpure2, h1, h2, h3, xpart, hx, h4, ha, hb, hk, xmax]
theorem xp_bytes {src dst e : Nat} {x : Operand} {rs rd re : Row} {xs : List D} {l : List UInt8} (h1 : rowAt L src = some rs) (h2 : rowAt L dst = some rd) (h3 : rs.td = .sl e) (h4 : rd.td = .str) (h5 : rowAt L e = some re) (h6 : re.td = .int .u8)
    (hx : xcontent s re (s.ev x) = some xs) (hb : bytes xs = some l) : xpure2 L (.convert src dst x) s = some (.d (.str l)) := by
  simp only [xpure2, h1, h2, h3, h4, h5, h6, hx, hb]
theorem xe_make {t e n' m' : Nat} {l c : Operand} {r re : Row} {k1 k2 : IntKind} {n m : Int} {z : D} (h1 : rowAt L t = some r) (h2 : r.td = .sl e) (h3 : rowAt L e = some re) (hl : s.ev l = .d (.int k1 n)) (hc : s.ev c = .d (.int k2 m))
    (hz : zel re = some z) (hk : mkn n m re.bytes = some (n', m')) : xeff L (.makeSlice t l c) s = some (.own re.size s.mem.length 0 n' (sameOp l c), ⟨s.sl, s.mem ++ [some (.arr re.size (lrep n' z))]⟩) := by
  simp only [xeff, h1, h2, h3, hl, hc, hz, hk]
theorem xe_stA {t es id k off : Nat} {p x : Operand} {r : Row} {xs : List D} {v x0 x1 : D} (h1 : rowAt L t = some r) (hp : s.ev p = .aptr es id k off) (hb : blkAt s.mem id = some (.arr es xs)) (hx : s.ev x = .d v) (h0 : lget xs k = some x0)
    (hs : dsplice x0 off r v = some x1) : xeff L (.store t p x) s = some (.tup [], ⟨s.sl, s.mem.set id (some (.arr es (lset xs k x1)))⟩) := by
  have : Nat.beq es es = true := Nat.beq_refl es
  simp only [xeff, h1, hp, hb, hx, this, h0, hs]
/-- append to what is empty -/
theorem xe_app0 {c : Call} {t u e n es0 : Nat} {a b : Operand} {r ru re : Row} {ys : List D} (hc : c.callee = .builtin .append) (ha : c.args.toList = [a, b]) (hts : c.argTypes.toList = [t, u]) (h1 : rowAt L t = some r) (h1u : rowAt L u = some ru) (hu : Nat.beq t u = true)
    (h2 : r.td = .sl e) (h3 : rowAt L e = some re) (hy : xcontent s re (s.ev b) = some ys) (hx : s.ev a = .d (.sl es0 true [])) (hk : apn 0 (llen ys) re.bytes = some n) :
    xeff L (.call c) s = some (.own re.size s.mem.length 0 n false, ⟨V.killL s.mem.length s.sl, killMem s.mem.length s.mem ++ [some (.arr re.size ys)]⟩) := by
  simp only [xeff, hc, ha, hts, h1, h1u, h2, hu, h3, hy, hx, hk]
theorem xe_appO {c : Call} {t u e n es id len : Nat} {cl : Bool} {a b : Operand} {r ru re : Row} {xs ys : List D} (hc : c.callee = .builtin .append) (ha : c.args.toList = [a, b]) (hts : c.argTypes.toList = [t, u]) (h1 : rowAt L t = some r) (h1u : rowAt L u = some ru) (hu : Nat.beq t u = true)
    (h2 : r.td = .sl e) (h3 : rowAt L e = some re) (hx : s.ev a = .own es id 0 len cl) (h4 : Nat.beq es re.size = true) (hy : xcontent s re (s.ev b) = some ys) (hb : blkAt s.mem id = some (.arr es xs)) (hl : nateq len (llen xs) = true) (hk : apn len (llen ys) re.bytes = some n) :
    xeff L (.call c) s = some (.own es id 0 n false, ⟨V.killL id s.sl, (killMem id s.mem).set id (some (.arr es (lapp xs ys)))⟩) := by
  have : Nat.beq es es = true := Nat.beq_refl es
  simp only [xeff, hc, ha, hts, h1, h1u, h2, hu, h3, hx, h4, hy, hk, hb, this, hl]
end

/-! ### Tests, by the operation -/
section
variable {P : Program} {L : List (Option Row)} {C : Cx P L}
theorem tgb_o {all r : List Oper} {o : Oper} {k : List It} {s : XS} {t : Bool} {bop : BinOp} {ty d : Nat} {x y : Operand} (ho : o.op = .binOp bop ty x y d) (hw : xwant s all o = some true) (hp : xpure L (.binOp bop ty x y d) s = some (.d (.bool t)))
    (h : TG t (OK C (.ops all r :: k) (s.put o.dst (.d (.bool true)))) (OK C (.ops all r :: k) (s.put o.dst (.d (.bool false))))) : OK C (.ops all (o :: r) :: k) s := ok_tg hw (by rw [ho]; exact hp) h
theorem tgb_q {all r tl : List Oper} {o : Oper} {k : List It} {s : XS} {t : Bool} {bop : BinOp} {ty d : Nat} {x y : Operand} (ho : o.op = .binOp bop ty x y d) (hw : xwant s all o = some true) (hp : xpure L (.binOp bop ty x y d) s = some (.d (.bool t)))
    (h : TG t (OK C (.qops all r tl :: k) (s.put o.dst (.d (.bool true)))) (OK C (.qops all r tl :: k) (s.put o.dst (.d (.bool false))))) : OK C (.qops all (o :: r) tl :: k) s := ok_qtg hw (by rw [ho]; exact hp) h
theorem tgb_m {all : List Oper} {i : Nat} {r : List Nat} {o : Oper} {k : List It} {s : XS} {t : Bool} {bop : BinOp} {ty d : Nat} {x y : Operand} (hi : all[i]? = some o) (ho : o.op = .binOp bop ty x y d) (hw : xwant s all o = some true) (hp : xpure L (.binOp bop ty x y d) s = some (.d (.bool t)))
    (h : TG t (OK C (.mops all r :: k) (s.put o.dst (.d (.bool true)))) (OK C (.mops all r :: k) (s.put o.dst (.d (.bool false))))) : OK C (.mops all (i :: r) :: k) s := ok_mtg hi hw (by rw [ho]; exact hp) h
theorem tgl_o {all r : List Oper} {o : Oper} {k : List It} {s : XS} {t : Bool} {ty : Nat} {x : Operand} (ho : o.op = .load ty x) (hw : xwant s all o = some true) (hp : xpure L (.load ty x) s = some (.d (.bool t)))
    (h : TG t (OK C (.ops all r :: k) (s.put o.dst (.d (.bool true)))) (OK C (.ops all r :: k) (s.put o.dst (.d (.bool false))))) : OK C (.ops all (o :: r) :: k) s := ok_tg hw (by rw [ho]; exact hp) h
theorem tgl_q {all r tl : List Oper} {o : Oper} {k : List It} {s : XS} {t : Bool} {ty : Nat} {x : Operand} (ho : o.op = .load ty x) (hw : xwant s all o = some true) (hp : xpure L (.load ty x) s = some (.d (.bool t)))
    (h : TG t (OK C (.qops all r tl :: k) (s.put o.dst (.d (.bool true)))) (OK C (.qops all r tl :: k) (s.put o.dst (.d (.bool false))))) : OK C (.qops all (o :: r) tl :: k) s := ok_qtg hw (by rw [ho]; exact hp) h
theorem tgl_m {all : List Oper} {i : Nat} {r : List Nat} {o : Oper} {k : List It} {s : XS} {t : Bool} {ty : Nat} {x : Operand} (hi : all[i]? = some o) (ho : o.op = .load ty x) (hw : xwant s all o = some true) (hp : xpure L (.load ty x) s = some (.d (.bool t)))
    (h : TG t (OK C (.mops all r :: k) (s.put o.dst (.d (.bool true)))) (OK C (.mops all r :: k) (s.put o.dst (.d (.bool false))))) : OK C (.mops all (i :: r) :: k) s := ok_mtg hi hw (by rw [ho]; exact hp) h
end

/-! ### Loops with so many variables -/
section
variable {P : Program} {L : List (Option Row)} {C : Cx P L}
theorem ok_pause_mono {c : Code} {N N' : XS → Prop} {k : List It} {s : XS} (h : OK C (.code c :: .pause N :: k) s) (hn : ∀ s, N s → N' s) : OK C (.code c :: .pause N' :: k) s := by
  intro φ a w hg
  refine wp_mono (h φ a w hg) fun e a' w' hq => ?_
  cases e <;> first | exact hq | skip
  obtain ⟨s2, φ2, h1, h2⟩ := hq
  exact ⟨s2, φ2, hn s2 h1, h2⟩
theorem ok_loop1 {A0 : Type} {body : Code} {k : List It} {s : XS} (st : A0 → XS) (Inv : A0 → Prop) (μ : A0 → Nat) (a0 : A0) (hle : Le s (st a0)) (h0 : Inv a0)
    (h : ∀ a, Inv a → OK C (.code body :: .pause (fun s2 => ∃ a1, Le s2 (st a1) ∧ Inv a1 ∧ μ a1 < μ a) :: k) (st a)) : OK C (.code (.loop body) :: k) s :=
  ok_loopX (ι := A0) (fun p => st p) (fun p => Inv p) (fun p => μ p) a0 hle h0 fun p hp => ok_pause_mono (h p hp) fun s2 ⟨a1, h1⟩ => ⟨a1, h1⟩
theorem ok_loop2 {A0 A1 : Type} {body : Code} {k : List It} {s : XS} (st : A0 → A1 → XS) (Inv : A0 → A1 → Prop) (μ : A0 → A1 → Nat) (a0 : A0) (b0 : A1) (hle : Le s (st a0 b0)) (h0 : Inv a0 b0)
    (h : ∀ a b, Inv a b → OK C (.code body :: .pause (fun s2 => ∃ a1 b1, Le s2 (st a1 b1) ∧ Inv a1 b1 ∧ μ a1 b1 < μ a b) :: k) (st a b)) : OK C (.code (.loop body) :: k) s :=
  ok_loopX (ι := A0 × A1) (fun p => st p.1 p.2) (fun p => Inv p.1 p.2) (fun p => μ p.1 p.2) (a0, b0) hle h0 fun p hp => ok_pause_mono (h p.1 p.2 hp) fun s2 ⟨a1, b1, h1⟩ => ⟨(a1, b1), h1⟩
theorem ok_loop3 {A0 A1 A2 : Type} {body : Code} {k : List It} {s : XS} (st : A0 → A1 → A2 → XS) (Inv : A0 → A1 → A2 → Prop) (μ : A0 → A1 → A2 → Nat) (a0 : A0) (b0 : A1) (c0 : A2) (hle : Le s (st a0 b0 c0)) (h0 : Inv a0 b0 c0)
    (h : ∀ a b c, Inv a b c → OK C (.code body :: .pause (fun s2 => ∃ a1 b1 c1, Le s2 (st a1 b1 c1) ∧ Inv a1 b1 c1 ∧ μ a1 b1 c1 < μ a b c) :: k) (st a b c)) : OK C (.code (.loop body) :: k) s :=
  ok_loopX (ι := A0 × A1 × A2) (fun p => st p.1 p.2.1 p.2.2) (fun p => Inv p.1 p.2.1 p.2.2) (fun p => μ p.1 p.2.1 p.2.2) (a0, b0, c0) hle h0 fun p hp => ok_pause_mono (h p.1 p.2.1 p.2.2 hp) fun s2 ⟨a1, b1, c1, h1⟩ => ⟨(a1, b1, c1), h1⟩
theorem ok_loop4 {A0 A1 A2 A3 : Type} {body : Code} {k : List It} {s : XS} (st : A0 → A1 → A2 → A3 → XS) (Inv : A0 → A1 → A2 → A3 → Prop) (μ : A0 → A1 → A2 → A3 → Nat) (a0 : A0) (b0 : A1) (c0 : A2) (d0 : A3) (hle : Le s (st a0 b0 c0 d0)) (h0 : Inv a0 b0 c0 d0)
    (h : ∀ a b c d, Inv a b c d → OK C (.code body :: .pause (fun s2 => ∃ a1 b1 c1 d1, Le s2 (st a1 b1 c1 d1) ∧ Inv a1 b1 c1 d1 ∧ μ a1 b1 c1 d1 < μ a b c d) :: k) (st a b c d)) : OK C (.code (.loop body) :: k) s :=
  ok_loopX (ι := A0 × A1 × A2 × A3) (fun p => st p.1 p.2.1 p.2.2.1 p.2.2.2) (fun p => Inv p.1 p.2.1 p.2.2.1 p.2.2.2) (fun p => μ p.1 p.2.1 p.2.2.1 p.2.2.2) (a0, b0, c0, d0) hle h0 fun p hp => ok_pause_mono (h p.1 p.2.1 p.2.2.1 p.2.2.2 hp) fun s2 ⟨a1, b1, c1, d1, h1⟩ => ⟨(a1, b1, c1, d1), h1⟩
theorem ok_loop5 {A0 A1 A2 A3 A4 : Type} {body : Code} {k : List It} {s : XS} (st : A0 → A1 → A2 → A3 → A4 → XS) (Inv : A0 → A1 → A2 → A3 → A4 → Prop) (μ : A0 → A1 → A2 → A3 → A4 → Nat) (a0 : A0) (b0 : A1) (c0 : A2) (d0 : A3) (e0 : A4) (hle : Le s (st a0 b0 c0 d0 e0)) (h0 : Inv a0 b0 c0 d0 e0)
    (h : ∀ a b c d e, Inv a b c d e → OK C (.code body :: .pause (fun s2 => ∃ a1 b1 c1 d1 e1, Le s2 (st a1 b1 c1 d1 e1) ∧ Inv a1 b1 c1 d1 e1 ∧ μ a1 b1 c1 d1 e1 < μ a b c d e) :: k) (st a b c d e)) : OK C (.code (.loop body) :: k) s :=
  ok_loopX (ι := A0 × A1 × A2 × A3 × A4) (fun p => st p.1 p.2.1 p.2.2.1 p.2.2.2.1 p.2.2.2.2) (fun p => Inv p.1 p.2.1 p.2.2.1 p.2.2.2.1 p.2.2.2.2) (fun p => μ p.1 p.2.1 p.2.2.1 p.2.2.2.1 p.2.2.2.2) (a0, b0, c0, d0, e0) hle h0 fun p hp => ok_pause_mono (h p.1 p.2.1 p.2.2.1 p.2.2.2.1 p.2.2.2.2 hp) fun s2 ⟨a1, b1, c1, d1, e1, h1⟩ => ⟨(a1, b1, c1, d1, e1), h1⟩
theorem ok_loop6 {A0 A1 A2 A3 A4 A5 : Type} {body : Code} {k : List It} {s : XS} (st : A0 → A1 → A2 → A3 → A4 → A5 → XS) (Inv : A0 → A1 → A2 → A3 → A4 → A5 → Prop) (μ : A0 → A1 → A2 → A3 → A4 → A5 → Nat) (a0 : A0) (b0 : A1) (c0 : A2) (d0 : A3) (e0 : A4) (f0 : A5) (hle : Le s (st a0 b0 c0 d0 e0 f0)) (h0 : Inv a0 b0 c0 d0 e0 f0)
    (h : ∀ a b c d e f, Inv a b c d e f → OK C (.code body :: .pause (fun s2 => ∃ a1 b1 c1 d1 e1 f1, Le s2 (st a1 b1 c1 d1 e1 f1) ∧ Inv a1 b1 c1 d1 e1 f1 ∧ μ a1 b1 c1 d1 e1 f1 < μ a b c d e f) :: k) (st a b c d e f)) : OK C (.code (.loop body) :: k) s :=
  ok_loopX (ι := A0 × A1 × A2 × A3 × A4 × A5) (fun p => st p.1 p.2.1 p.2.2.1 p.2.2.2.1 p.2.2.2.2.1 p.2.2.2.2.2) (fun p => Inv p.1 p.2.1 p.2.2.1 p.2.2.2.1 p.2.2.2.2.1 p.2.2.2.2.2) (fun p => μ p.1 p.2.1 p.2.2.1 p.2.2.2.1 p.2.2.2.2.1 p.2.2.2.2.2) (a0, b0, c0, d0, e0, f0) hle h0 fun p hp => ok_pause_mono (h p.1 p.2.1 p.2.2.1 p.2.2.2.1 p.2.2.2.2.1 p.2.2.2.2.2 hp) fun s2 ⟨a1, b1, c1, d1, e1, f1, h1⟩ => ⟨(a1, b1, c1, d1, e1, f1), h1⟩
theorem ok_loop7 {A0 A1 A2 A3 A4 A5 A6 : Type} {body : Code} {k : List It} {s : XS} (st : A0 → A1 → A2 → A3 → A4 → A5 → A6 → XS) (Inv : A0 → A1 → A2 → A3 → A4 → A5 → A6 → Prop) (μ : A0 → A1 → A2 → A3 → A4 → A5 → A6 → Nat) (a0 : A0) (b0 : A1) (c0 : A2) (d0 : A3) (e0 : A4) (f0 : A5) (g0 : A6) (hle : Le s (st a0 b0 c0 d0 e0 f0 g0)) (h0 : Inv a0 b0 c0 d0 e0 f0 g0)
    (h : ∀ a b c d e f g, Inv a b c d e f g → OK C (.code body :: .pause (fun s2 => ∃ a1 b1 c1 d1 e1 f1 g1, Le s2 (st a1 b1 c1 d1 e1 f1 g1) ∧ Inv a1 b1 c1 d1 e1 f1 g1 ∧ μ a1 b1 c1 d1 e1 f1 g1 < μ a b c d e f g) :: k) (st a b c d e f g)) : OK C (.code (.loop body) :: k) s :=
  ok_loopX (ι := A0 × A1 × A2 × A3 × A4 × A5 × A6) (fun p => st p.1 p.2.1 p.2.2.1 p.2.2.2.1 p.2.2.2.2.1 p.2.2.2.2.2.1 p.2.2.2.2.2.2) (fun p => Inv p.1 p.2.1 p.2.2.1 p.2.2.2.1 p.2.2.2.2.1 p.2.2.2.2.2.1 p.2.2.2.2.2.2) (fun p => μ p.1 p.2.1 p.2.2.1 p.2.2.2.1 p.2.2.2.2.1 p.2.2.2.2.2.1 p.2.2.2.2.2.2) (a0, b0, c0, d0, e0, f0, g0) hle h0 fun p hp => ok_pause_mono (h p.1 p.2.1 p.2.2.1 p.2.2.2.1 p.2.2.2.2.1 p.2.2.2.2.2.1 p.2.2.2.2.2.2 hp) fun s2 ⟨a1, b1, c1, d1, e1, f1, g1, h1⟩ => ⟨(a1, b1, c1, d1, e1, f1, g1), h1⟩
end

/-! ### What the words answer -/
theorem idx_nat (k n : Nat) (h : k < n) : idx (k : Int) n = some k := by
  rw [idx_iff, if_pos ⟨by omega, by omega⟩]; simp
theorem idx_int (i : Int) (n : Nat) (h0 : 0 ≤ i) (h1 : i < n) : idx i n = some i.toNat := by rw [idx_iff, if_pos ⟨h0, h1⟩]
theorem llen_eq (xs : List D) : llen xs = xs.length := by unfold llen; rfl
theorem nint_eq (n : Nat) : nint n = (n : Int) := by unfold nint; rfl
theorem slenN_eq (l : List UInt8) : slenN l = l.length := by unfold slenN; rfl
theorem slen_eq (l : List UInt8) : slen l = (l.length : Int) := by unfold slen; rfl
theorem nadd_eq (a b : Nat) : nadd a b = a + b := nadd_def a b
theorem nsub_eq (a b : Nat) : nsub a b = a - b := nsub_def a b
theorem nateq_t (a b : Nat) : (nateq a b = true) = (a = b) := by unfold nateq; simp
theorem nz_t (b : Int) : (nz b = true) = (b ≠ 0) := by unfold nz; simp
theorem ww_ : (∀ (a b : Int), (ilt a b = true) = (a < b)) ∧ (∀ (a b : Int), (ilt a b = false) = (b ≤ a)) ∧ (∀ (a b : Int), (ile a b = true) = (a ≤ b)) ∧ (∀ (a b : Int), (ile a b = false) = (b < a)) ∧ (∀ (a b : Int), (ieq a b = true) = (a = b)) ∧ (∀ (a b : Int), (ieq a b = false) = (a ≠ b)) ∧ (∀ (b : Bool), (bnot b = true) = (b = false)) ∧ (∀ (b : Bool), (bnot b = false) = (b = true)) ∧ (∀ (a b : Bool), (beq a b = true) = (a = b)) ∧ (∀ (a b : Bool), (beq a b = false) = (a ≠ b)) ∧ (∀ (a b : Bool), (band a b = true) = (a = true ∧ b = true)) ∧ (∀ (a b : Bool), (band a b = false) = ¬ (a = true ∧ b = true)) ∧ (∀ (a b : List UInt8), (seq a b = true) = (a = b)) ∧ (∀ (a b : List UInt8), (seq a b = false) = (a ≠ b)) :=
  ⟨ilt_t, ilt_f, ile_t, ile_f, ieq_t, ieq_f, bnot_t, bnot_f, beq_t, beq_f, band_t, band_f, seq_t, seq_f⟩
theorem ll_ : (∀ (a b : Int), (ilt a b = true) = (a < b)) ∧ (∀ (a b : Int), (ilt a b = false) = (b ≤ a)) ∧ (∀ (a b : Int), (ile a b = true) = (a ≤ b)) ∧ (∀ (a b : Int), (ile a b = false) = (b < a)) ∧ (∀ (a b : Int), (ieq a b = true) = (a = b)) ∧ (∀ (a b : Int), (ieq a b = false) = (a ≠ b)) ∧ (∀ (b : Bool), (bnot b = true) = (b = false)) ∧ (∀ (b : Bool), (bnot b = false) = (b = true)) ∧ (∀ (a b : Bool), (beq a b = true) = (a = b)) ∧ (∀ (a b : Bool), (beq a b = false) = (a ≠ b)) ∧ (∀ (a b : Bool), (band a b = true) = (a = true ∧ b = true)) ∧ (∀ (a b : Bool), (band a b = false) = ¬ (a = true ∧ b = true)) ∧ (∀ (a b : List UInt8), (seq a b = true) = (a = b)) ∧ (∀ (a b : List UInt8), (seq a b = false) = (a ≠ b)) ∧ (∀ (xs : List D), llen xs = xs.length) ∧ (∀ (n : Nat), nint n = (n : Int)) ∧ (∀ (l : List UInt8), slen l = (l.length : Int)) ∧ (∀ (l : List UInt8), slenN l = l.length) ∧ (∀ (a b : Nat), nadd a b = a + b) ∧ (∀ (a b : Nat), nsub a b = a - b) ∧ (∀ (a b : Nat), (nateq a b = true) = (a = b)) ∧ (∀ (b : Int), (nz b = true) = (b ≠ 0)) :=
  ⟨ilt_t, ilt_f, ile_t, ile_f, ieq_t, ieq_f, bnot_t, bnot_f, beq_t, beq_f, band_t, band_f, seq_t, seq_f, llen_eq, nint_eq, slen_eq, slenN_eq, nadd_eq, nsub_eq, nateq_t, nz_t⟩
theorem lget_map {α : Type} {f : α → D} {l : List α} {k : Nat} {x : α} (h : l[k]? = some x) : lget (l.map f) k = some (f x) := by unfold lget; simp [h]
theorem lget_lt {α : Type} [Inhabited α] {f : α → D} {l : List α} {k : Nat} (h : k < l.length) : lget (l.map f) k = some (f (l.getD k default)) := by unfold lget; simp [h]
theorem drop_getD {α : Type} [Inhabited α] {l : List α} {n : Nat} (h : n < l.length) : l.drop n = l.getD n default :: l.drop (n + 1) := by
  rw [List.drop_eq_getElem_cons h]; simp [h]
theorem take_getD {α : Type} [Inhabited α] {l : List α} {n : Nat} (h : n < l.length) : l.take (n + 1) = l.take n ++ [l.getD n default] := by
  rw [List.take_succ_eq_append_getElem h]; simp [h]
theorem lset_map {α : Type} {f : α → D} {l : List α} {k : Nat} {x : α} : lset (l.map f) k (f x) = (l.set k x).map f := by unfold lset; rw [List.map_set]
theorem lapp_map {α : Type} {f : α → D} {l m : List α} : lapp (l.map f) (m.map f) = (l ++ m).map f := by unfold lapp; simp
theorem lapp_one {α : Type} {f : α → D} {l : List α} {x : α} : lapp (l.map f) [f x] = (l ++ [x]).map f := by unfold lapp; simp
theorem lsub_map {α : Type} {f : α → D} {l : List α} {i j : Nat} : lsub (l.map f) i j = ((l.drop i).take (j - i)).map f := by unfold lsub; simp [List.map_take, List.map_drop]
theorem lrep_map {α : Type} {f : α → D} {n : Nat} {x : α} : lrep n (f x) = (List.replicate n x).map f := by unfold lrep; simp
theorem mkn_eq (n : Nat) (bytes : Nat) (h1 : (n : Int) ≤ maxLen) (h2 : bytes * n ≤ 140737488355328) : mkn n n bytes = some (n, n) := by unfold mkn; rw [if_pos ⟨by omega, by omega, by omega, by rw [← Int.natCast_mul]; omega⟩]; simp
theorem apn_eq (a b bytes : Nat) (h : (a + b) * bytes ≤ 70368744177664) (h2 : a + b ≤ maxLen) : apn a b bytes = some (a + b) := by unfold apn; rw [if_pos ⟨h, h2⟩]
theorem apn_to (a b bytes n : Nat) (hn : n = a + b) (h : n ≤ 1000000) (h2 : bytes ≤ 10000) : apn a b bytes = some n := by
  subst hn; exact apn_eq a b bytes (Nat.le_trans (Nat.mul_le_mul h h2) (by decide)) (by unfold maxLen; omega)
theorem sbnd_nat (i j n : Nat) (h : i ≤ j) (h2 : j ≤ n) : sbnd (i : Int) (j : Int) n = some (i, j) := by unfold sbnd; rw [if_pos ⟨by omega, by omega, by omega⟩]; simp
theorem sbnd_int (i j : Int) (n : Nat) (h0 : 0 ≤ i) (h : i ≤ j) (h2 : j ≤ n) : sbnd i j n = some (i.toNat, j.toNat) := by unfold sbnd; rw [if_pos ⟨h0, h, h2⟩]
theorem sget_lt (l : List UInt8) (k : Nat) (h : k < l.length) : sget l (k : Int) = some (l[k].toNat : Int) := by unfold sget; rw [if_pos (by omega)]; simp [h]
theorem scat_eq (a b : List UInt8) (h : a.length + b.length ≤ 9223372036854775807) : scat a b = some (a ++ b) := by unfold scat; rw [if_pos h]

/-! ### .. with typed lists -/
theorem mkn_int (n : Int) (bytes : Nat) (h0 : 0 ≤ n) (h1 : n ≤ 1000000) (h2 : bytes ≤ 100000) : mkn n n bytes = some (n.toNat, n.toNat) := by
  obtain ⟨m, rfl⟩ : ∃ m : Nat, n = m := ⟨n.toNat, by omega⟩
  rw [mkn_eq m bytes (by unfold maxLen; omega) (by
    exact Nat.le_trans (Nat.mul_le_mul h2 (show m ≤ 1000000 by omega)) (by decide))]
  rfl
theorem mkn_cap (n m : Int) (bytes : Nat) (h0 : 0 ≤ n) (h3 : n ≤ m) (h1 : m ≤ 1000000) (h2 : bytes ≤ 100000) : mkn n m bytes = some (n.toNat, m.toNat) := by
  obtain ⟨k, rfl⟩ : ∃ k : Nat, m = k := ⟨m.toNat, by omega⟩
  unfold mkn
  rw [if_pos ⟨h0, h3, by unfold maxLen; omega, by
    rw [← Int.natCast_mul]
    have : bytes * k ≤ 100000 * 1000000 := Nat.mul_le_mul h2 (by omega)
    omega⟩]
theorem apn_small (a b bytes : Nat) (h : a ≤ 1000000) (h1 : b ≤ 1000000) (h2 : bytes ≤ 10000) : apn a b bytes = some (a + b) :=
  apn_eq a b bytes (by
    exact Nat.le_trans (Nat.mul_le_mul (show a + b ≤ 2000000 by omega) h2) (by decide)) (by unfold maxLen; omega)
section
variable {L : List (Option Row)} {s : XS}
theorem xe_makeT {α : Type} (f : α → D) (x0 : α) {t e n' m' : Nat} {l c : Operand} {r re : Row} {k1 k2 : IntKind} {n m : Int} (h1 : rowAt L t = some r) (h2 : r.td = .sl e) (h3 : rowAt L e = some re) (hl : s.ev l = .d (.int k1 n)) (hc : s.ev c = .d (.int k2 m))
    (hz : zel re = some (f x0)) (hk : mkn n m re.bytes = some (n', m')) : xeff L (.makeSlice t l c) s = some (.own re.size s.mem.length 0 n' (sameOp l c), ⟨s.sl, s.mem ++ [some (.arr re.size ((List.replicate n' x0).map f))]⟩) := by
  rw [← lrep_map]; exact xe_make h1 h2 h3 hl hc hz hk
theorem xe_stT {α : Type} {f : α → D} {t es id k off : Nat} {p x : Operand} {r : Row} {xs : List α} {v : D} {x0 x1 : α} (h1 : rowAt L t = some r) (hp : s.ev p = .aptr es id k off) (hb : blkAt s.mem id = some (.arr es (xs.map f))) (hx : s.ev x = .d v) (h0 : xs[k]? = some x0)
    (hs : dsplice (f x0) off r v = some (f x1)) : xeff L (.store t p x) s = some (.tup [], ⟨s.sl, s.mem.set id (some (.arr es ((xs.set k x1).map f)))⟩) := by
  rw [← lset_map]; exact xe_stA h1 hp hb hx (lget_map h0) hs
theorem xe_app0T {α : Type} {f : α → D} {c : Call} {t u e n es0 : Nat} {a b : Operand} {r ru re : Row} {ys : List α} (hc : c.callee = .builtin .append) (ha : c.args.toList = [a, b]) (hts : c.argTypes.toList = [t, u]) (h1 : rowAt L t = some r) (h1u : rowAt L u = some ru) (hu : Nat.beq t u = true)
    (h2 : r.td = .sl e) (h3 : rowAt L e = some re) (hy : xcontent s re (s.ev b) = some (ys.map f)) (hx : s.ev a = .d (.sl es0 true [])) (hk : apn 0 (llen (ys.map f)) re.bytes = some n) :
    xeff L (.call c) s = some (.own re.size s.mem.length 0 n false, ⟨V.killL s.mem.length s.sl, killMem s.mem.length s.mem ++ [some (.arr re.size (ys.map f))]⟩) := xe_app0 hc ha hts h1 h1u hu h2 h3 hy hx hk
theorem xe_appT {α : Type} {f : α → D} {c : Call} {t u e n es id len : Nat} {cl : Bool} {a b : Operand} {r ru re : Row} {xs ys : List α} (hc : c.callee = .builtin .append) (ha : c.args.toList = [a, b]) (hts : c.argTypes.toList = [t, u]) (h1 : rowAt L t = some r) (h1u : rowAt L u = some ru) (hu : Nat.beq t u = true)
    (h2 : r.td = .sl e) (h3 : rowAt L e = some re) (hx : s.ev a = .own es id 0 len cl) (h4 : Nat.beq es re.size = true) (hy : xcontent s re (s.ev b) = some (ys.map f)) (hb : blkAt s.mem id = some (.arr es (xs.map f))) (hl : nateq len (llen (xs.map f)) = true) (hk : apn len (llen (ys.map f)) re.bytes = some n) :
    xeff L (.call c) s = some (.own es id 0 n false, ⟨V.killL id s.sl, (killMem id s.mem).set id (some (.arr es ((xs ++ ys).map f)))⟩) := by
  rw [← lapp_map]; exact xe_appO hc ha hts h1 h1u hu h2 h3 hx h4 hy hb hl hk
theorem xe_appT1 {α : Type} {f : α → D} {c : Call} {t u e n es id len : Nat} {cl : Bool} {a b : Operand} {r ru re : Row} {xs : List α} {y : α} (hc : c.callee = .builtin .append) (ha : c.args.toList = [a, b]) (hts : c.argTypes.toList = [t, u]) (h1 : rowAt L t = some r) (h1u : rowAt L u = some ru) (hu : Nat.beq t u = true)
    (h2 : r.td = .sl e) (h3 : rowAt L e = some re) (hx : s.ev a = .own es id 0 len cl) (h4 : Nat.beq es re.size = true) (hy : xcontent s re (s.ev b) = some [f y]) (hb : blkAt s.mem id = some (.arr es (xs.map f))) (hl : nateq len (llen (xs.map f)) = true) (hk : apn len 1 re.bytes = some n) :
    xeff L (.call c) s = some (.own es id 0 n false, ⟨V.killL id s.sl, (killMem id s.mem).set id (some (.arr es ((xs ++ [y]).map f)))⟩) := by
  rw [← lapp_one]; exact xe_appO hc ha hts h1 h1u hu h2 h3 hx h4 hy hb hl (by rw [llen_eq]; exact hk)
end

section
variable {L : List (Option Row)} {s : XS}
theorem xcontent_d {re : Row} {es : Nat} {c : Bool} {xs : List D} (h : Nat.beq es re.size = true) : xcontent s re (.d (.sl es c xs)) = some xs := by
  unfold xcontent
  simp only [h]
  cases xs <;> rfl
theorem xcontent_o {re : Row} {es id off len : Nat} {c : Bool} {xs ys : List D} (h : Nat.beq es re.size = true) (hb : blkAt s.mem id = some (.arr es xs)) (hy : lsubc xs off len = some ys) : xcontent s re (.own es id off len c) = some ys := by
  have : Nat.beq es es = true := Nat.beq_refl es
  unfold xcontent
  simp only [h, hb, this, hy]
theorem lsubc_all (xs : List D) (n : Nat) (h : n = xs.length) : lsubc xs 0 n = some xs := by
  unfold lsubc
  rw [if_pos (by omega), h]
  simp
/-- append data to a literal slice of the call's own -/
theorem xe_appB {c : Call} {t u e n es id len : Nat} {cl : Bool} {a b : Operand} {r ru re : Row} {xs ys : List D} {cells : List V} (hc : c.callee = .builtin .append) (ha : c.args.toList = [a, b]) (hts : c.argTypes.toList = [t, u]) (h1 : rowAt L t = some r) (h1u : rowAt L u = some ru) (hu : Nat.beq t u = true)
    (h2 : r.td = .sl e) (h3 : rowAt L e = some re) (hx : s.ev a = .own es id 0 len cl) (h4 : Nat.beq es re.size = true) (hy : xcontent s re (s.ev b) = some ys) (hb : blkAt s.mem id = some (.box cells)) (hch : chunks re.agg re.size len cells = some xs) (hl : Nat.beq (len * es) cells.length = true) (hk : apn len (llen ys) re.bytes = some n) :
    xeff L (.call c) s = some (.own es id 0 n false, ⟨V.killL id s.sl, (killMem id s.mem).set id (some (.arr es (lapp xs ys)))⟩) := by
  simp only [xeff, hc, ha, hts, h1, h1u, h2, hu, h3, hx, h4, hy, hk, hb, hch, hl]
theorem lapp_nil (ys : List D) : lapp [] ys = ys := by unfold lapp; rfl
theorem xe_app0B {c : Call} {t u e n es id : Nat} {cl : Bool} {a b : Operand} {r ru re : Row} {ys : List D} (hc : c.callee = .builtin .append) (ha : c.args.toList = [a, b]) (hts : c.argTypes.toList = [t, u]) (h1 : rowAt L t = some r) (h1u : rowAt L u = some ru) (hu : Nat.beq t u = true)
    (h2 : r.td = .sl e) (h3 : rowAt L e = some re) (hx : s.ev a = .own es id 0 0 cl) (h4 : Nat.beq es re.size = true) (hy : xcontent s re (s.ev b) = some ys) (hb : blkAt s.mem id = some (.box [])) (hk : apn 0 (llen ys) re.bytes = some n) :
    xeff L (.call c) s = some (.own es id 0 n false, ⟨V.killL id s.sl, (killMem id s.mem).set id (some (.arr es ys))⟩) := by
  have := xe_appB (L := L) (s := s) (xs := []) hc ha hts h1 h1u hu h2 h3 hx h4 hy hb rfl (by simp) hk
  rwa [lapp_nil] at this
end
end Go.Proofs.Ytblmoikhfmkfnaa
