/- The package stitches: what its small functions do. -/
import Derived.Test.YtblmoikhfmkfnaaM18
import Derived.Test.YtblmoikhfmkfnaaM20
import Derived.Test.YtblmoikhfmkfnaaStSpec
namespace Go.Proofs.Ytblmoikhfmkfnaa
open Go.RowKit Go
set_option maxRecDepth 100000
set_option maxHeartbeats 4000000

/-- a stitch as data -/
@[reducible] def stD (k y a b : Int) (f : Bool) : D := .agg [.int .u8 k, .int .u8 y, .int .i64 a, .int .i64 b, .bool f]
@[reducible] def stV (k y a b : Int) (f : Bool) : V := .d (stD k y a b f)

theorem check_ok {k y a b : Int} {f : Bool} (h : St.Ok ⟨k, y, a, b, f⟩) : Spec Try.prog 17 [stV k y a b f] (.d (.int .i64 0)) := by
  refine spec_of lay_ok mixed_ok Try.func17 rfl (by kernel_rfl) fun C hT => ?_
  repeat' (refine xrun 100000 rfl ?_; first | refine ok_retv hT rfl ?_ | ((first | refine ok_tg rfl rfl ?_ | refine ok_qtg rfl rfl ?_ | refine ok_mtg rfl rfl rfl ?_); (first | refine tg_t (by first | assumption | exact ilt_v rfl | exact ile_v rfl | exact ieq_v rfl | exact nieq_t rfl | exact nieq_f rfl | exact ieq_self _ | exact nieq_self _ | exact seq_self _ | exact nseq_self _ | rfl) ?_ | refine tg_f (by first | assumption | exact ilt_v rfl | exact ile_v rfl | exact ieq_v rfl | exact nieq_t rfl | exact nieq_f rfl | exact ieq_self _ | exact nieq_self _ | exact seq_self _ | exact nseq_self _ | rfl) ?_ | refine tg_b (fun h => ?_) (fun h => ?_))) | refine ok_pure rfl rfl ?_ | refine ok_qpure rfl rfl ?_ | refine ok_mpure rfl rfl rfl ?_ | refine ok_eff rfl rfl ?_ | refine ok_pure2 rfl rfl ?_ | fail)
  all_goals first | rfl | (exfalso; (clear hT; simp only [ilt_t, ilt_f, ile_t, ile_f, ieq_t, ieq_f, bnot_t, bnot_f, beq_t, beq_f, band_t, band_f, seq_t, seq_f, St.Ok] at *; (try simp (disch := omega) only [iadd_i64, isub_i64, imul_i64, iadd_u8, iconv_i64, iconv_u8] at *); first | omega | (simp_all; done) | (simp_all; omega)))

theorem check_bad {k y a b : Int} {f : Bool} (h : ¬ St.Ok ⟨k, y, a, b, f⟩) : Spec Try.prog 17 [stV k y a b f] (.d (.int .i64 1)) := by
  refine spec_of lay_ok mixed_ok Try.func17 rfl (by kernel_rfl) fun C hT => ?_
  repeat' (refine xrun 100000 rfl ?_; first | refine ok_retv hT rfl ?_ | ((first | refine ok_tg rfl rfl ?_ | refine ok_qtg rfl rfl ?_ | refine ok_mtg rfl rfl rfl ?_); (first | refine tg_t (by first | assumption | exact ilt_v rfl | exact ile_v rfl | exact ieq_v rfl | exact nieq_t rfl | exact nieq_f rfl | exact ieq_self _ | exact nieq_self _ | exact seq_self _ | exact nseq_self _ | rfl) ?_ | refine tg_f (by first | assumption | exact ilt_v rfl | exact ile_v rfl | exact ieq_v rfl | exact nieq_t rfl | exact nieq_f rfl | exact ieq_self _ | exact nieq_self _ | exact seq_self _ | exact nseq_self _ | rfl) ?_ | refine tg_b (fun h => ?_) (fun h => ?_))) | refine ok_pure rfl rfl ?_ | refine ok_qpure rfl rfl ?_ | refine ok_mpure rfl rfl rfl ?_ | refine ok_eff rfl rfl ?_ | refine ok_pure2 rfl rfl ?_ | fail)
  all_goals first | rfl | (exfalso; (clear hT; simp only [ilt_t, ilt_f, ile_t, ile_f, ieq_t, ieq_f, bnot_t, bnot_f, beq_t, beq_f, band_t, band_f, seq_t, seq_f, St.Ok] at *; (try simp (disch := omega) only [iadd_i64, isub_i64, imul_i64, iadd_u8, iconv_i64, iconv_u8] at *); first | omega | (simp_all; done) | (simp_all; omega)))
theorem symbols_spec : Spec Try.prog 28 [] (.d (.agg [.int .u8 0, .int .u8 107, .int .u8 112, .int .u8 111, .int .u8 47, .int .u8 118, .int .u8 116, .int .u8 115, .int .u8 99])) := spec_run lay_ok mixed_ok 10000 (by kernel_rfl)
theorem counts_spec : Spec Try.prog 29 [] (.d (.agg [.int .i64 0, .int .i64 0, .int .i64 1, .int .i64 1, .int .i64 1, .int .i64 1, .int .i64 0, .int .i64 1, .int .i64 2, .int .i64 1, .int .i64 2, .int .i64 1, .int .i64 1, .int .i64 1, .int .i64 1, .int .i64 1, .int .i64 0, .int .i64 0])) := spec_run lay_ok mixed_ok 10000 (by kernel_rfl)
theorem lives_spec : Spec Try.prog 12 [] (.d (.bool true)) := spec_run lay_ok mixed_ok 100000 (by kernel_rfl)
theorem mirror_spec (k y a b : Int) (f : Bool) : Spec Try.prog 16 [stV k y a b f] (if k = 8 then stV k y b a !f else stV k y a b f) := by
  cases f
  all_goals
    refine spec_of lay_ok mixed_ok Try.func16 rfl (by kernel_rfl) fun C hT => ?_
    repeat' (refine xrun 100000 rfl ?_; first | refine ok_retv hT rfl ?_ | ((first | refine ok_tg rfl rfl ?_ | refine ok_qtg rfl rfl ?_ | refine ok_mtg rfl rfl rfl ?_); (first | refine tg_t (by first | assumption | exact ilt_v rfl | exact ile_v rfl | exact ieq_v rfl | exact nieq_t rfl | exact nieq_f rfl | exact ieq_self _ | exact nieq_self _ | exact seq_self _ | exact nseq_self _ | rfl) ?_ | refine tg_f (by first | assumption | exact ilt_v rfl | exact ile_v rfl | exact ieq_v rfl | exact nieq_t rfl | exact nieq_f rfl | exact ieq_self _ | exact nieq_self _ | exact seq_self _ | exact nseq_self _ | rfl) ?_ | refine tg_b (fun h => ?_) (fun h => ?_))) | refine ok_pure rfl rfl ?_ | refine ok_qpure rfl rfl ?_ | refine ok_mpure rfl rfl rfl ?_ | refine ok_eff rfl rfl ?_ | refine ok_pure2 rfl rfl ?_ | refine ok_drawn (by kernel_rfl) ?_ | fail)
    all_goals (clear hT; simp only [ilt_t, ilt_f, ile_t, ile_f, ieq_t, ieq_f, bnot_t, bnot_f, beq_t, beq_f, band_t, band_f, seq_t, seq_f] at *; simp [*, bnot])
theorem digit_spec (n : Int) (h0 : 0 ≤ n) (h1 : n ≤ 200) : Spec Try.prog 26 [.d (.int .i64 n)] (.d (.int .u8 (48 + n))) := by
  refine spec_of lay_ok mixed_ok Try.func26 rfl (by kernel_rfl) fun C hT => ?_
  repeat' (refine xrun 100000 rfl ?_; first | refine ok_retv hT rfl ?_ | ((first | refine ok_tg rfl rfl ?_ | refine ok_qtg rfl rfl ?_ | refine ok_mtg rfl rfl rfl ?_); (first | refine tg_t (by first | assumption | exact ilt_v rfl | exact ile_v rfl | exact ieq_v rfl | exact nieq_t rfl | exact nieq_f rfl | exact ieq_self _ | exact nieq_self _ | exact seq_self _ | exact nseq_self _ | rfl) ?_ | refine tg_f (by first | assumption | exact ilt_v rfl | exact ile_v rfl | exact ieq_v rfl | exact nieq_t rfl | exact nieq_f rfl | exact ieq_self _ | exact nieq_self _ | exact seq_self _ | exact nseq_self _ | rfl) ?_ | refine tg_b (fun h => ?_) (fun h => ?_))) | refine ok_pure rfl rfl ?_ | refine ok_qpure rfl rfl ?_ | refine ok_mpure rfl rfl rfl ?_ | refine ok_eff rfl rfl ?_ | refine ok_pure2 rfl rfl ?_ | refine ok_drawn (by kernel_rfl) ?_ | fail)
  all_goals rw [iadd_i64 (by omega) (by omega), iconv_u8 (by omega) (by omega)]
theorem kind_cases {k : Int} (h1 : 1 ≤ k) (h2 : k ≤ 8) : k = 1 ∨ k = 2 ∨ k = 3 ∨ k = 4 ∨ k = 5 ∨ k = 6 ∨ k = 7 ∨ k = 8 := by omega
theorem count_ok {k y a b : Int} {f : Bool} (h : St.Ok ⟨k, y, a, b, f⟩) : Spec Try.prog 25 [stV k y a b f] (.d (.agg [.int .i64 (St.needs ⟨k, y, a, b, f⟩), .int .i64 (St.makes ⟨k, y, a, b, f⟩)])) := by
  have h' := h
  simp only [St.Ok] at h'
  rw [show St.needs ⟨k, y, a, b, f⟩ = if k = 8 then a + b else if k = 3 then 0 else if k = 4 ∨ k = 5 then 2 else 1 from by simp [St.needs, h], show St.makes ⟨k, y, a, b, f⟩ = if k = 8 then a + b else 1 from by simp [St.makes, h]]
  have hc := check_ok h
  rcases kind_cases h'.1 h'.2.1 with rfl | rfl | rfl | rfl | rfl | rfl | rfl | rfl
  all_goals
    refine spec_of lay_ok mixed_ok Try.func25 rfl (by kernel_rfl) fun C hT => ?_
    repeat' (refine xrun 100000 rfl ?_; first | refine ok_retv hT rfl ?_ | ((first | refine ok_tg rfl rfl ?_ | refine ok_qtg rfl rfl ?_ | refine ok_mtg rfl rfl rfl ?_); (first | refine tg_t (by first | assumption | exact ilt_v rfl | exact ile_v rfl | exact ieq_v rfl | exact nieq_t rfl | exact nieq_f rfl | exact ieq_self _ | exact nieq_self _ | exact seq_self _ | exact nseq_self _ | rfl) ?_ | refine tg_f (by first | assumption | exact ilt_v rfl | exact ile_v rfl | exact ieq_v rfl | exact nieq_t rfl | exact nieq_f rfl | exact ieq_self _ | exact nieq_self _ | exact seq_self _ | exact nseq_self _ | rfl) ?_ | refine tg_b (fun h => ?_) (fun h => ?_))) | refine ok_pure rfl rfl ?_ | refine ok_qpure rfl rfl ?_ | refine ok_mpure rfl rfl rfl ?_ | refine ok_eff rfl rfl ?_ | refine ok_pure2 rfl rfl ?_ | refine ok_call rfl rfl rfl (hc) (.inr ⟨rfl, rfl⟩) ?_ | refine ok_qcall rfl rfl rfl (counts_spec) rfl ?_ | refine ok_drawn (by kernel_rfl) ?_ | fail)
  all_goals first | rfl | (simp only [ilt_t, ilt_f, ile_t, ile_f, ieq_t, ieq_f, bnot_t, bnot_f, beq_t, beq_f, band_t, band_f, seq_t, seq_f] at *; rw [iadd_i64 (by omega) (by omega)]; rfl)
theorem count_bad {k y a b : Int} {f : Bool} (h : ¬ St.Ok ⟨k, y, a, b, f⟩) : Spec Try.prog 25 [stV k y a b f] (.d (.agg [.int .i64 (St.needs ⟨k, y, a, b, f⟩), .int .i64 (St.makes ⟨k, y, a, b, f⟩)])) := by
  have hc := check_bad h
  rw [show St.needs ⟨k, y, a, b, f⟩ = 0 from by simp [St.needs, h], show St.makes ⟨k, y, a, b, f⟩ = 0 from by simp [St.makes, h]]
  refine spec_of lay_ok mixed_ok Try.func25 rfl (by kernel_rfl) fun C hT => ?_
  repeat' (refine xrun 100000 rfl ?_; first | refine ok_retv hT rfl ?_ | ((first | refine ok_tg rfl rfl ?_ | refine ok_qtg rfl rfl ?_ | refine ok_mtg rfl rfl rfl ?_); (first | refine tg_t (by first | assumption | exact ilt_v rfl | exact ile_v rfl | exact ieq_v rfl | exact nieq_t rfl | exact nieq_f rfl | exact ieq_self _ | exact nieq_self _ | exact seq_self _ | exact nseq_self _ | rfl) ?_ | refine tg_f (by first | assumption | exact ilt_v rfl | exact ile_v rfl | exact ieq_v rfl | exact nieq_t rfl | exact nieq_f rfl | exact ieq_self _ | exact nieq_self _ | exact seq_self _ | exact nseq_self _ | rfl) ?_ | refine tg_b (fun h => ?_) (fun h => ?_))) | refine ok_pure rfl rfl ?_ | refine ok_qpure rfl rfl ?_ | refine ok_mpure rfl rfl rfl ?_ | refine ok_eff rfl rfl ?_ | refine ok_pure2 rfl rfl ?_ | refine ok_call rfl rfl rfl (hc) (.inr ⟨rfl, rfl⟩) ?_ | fail)
  all_goals rfl
theorem count_spec (k y a b : Int) (f : Bool) : Spec Try.prog 25 [stV k y a b f] (.d (.agg [.int .i64 (St.needs ⟨k, y, a, b, f⟩), .int .i64 (St.makes ⟨k, y, a, b, f⟩)])) := by
  by_cases h : St.Ok ⟨k, y, a, b, f⟩
  · exact count_ok h
  · exact count_bad h
theorem needs_spec (k y a b : Int) (f : Bool) : Spec Try.prog 18 [stV k y a b f] (.d (.int .i64 (St.needs ⟨k, y, a, b, f⟩))) := by
  refine spec_of lay_ok mixed_ok Try.func18 rfl (by kernel_rfl) fun C hT => ?_
  repeat' (refine xrun 100000 rfl ?_; first | refine ok_retv hT rfl ?_ | ((first | refine ok_tg rfl rfl ?_ | refine ok_qtg rfl rfl ?_ | refine ok_mtg rfl rfl rfl ?_); (first | refine tg_t (by first | assumption | exact ilt_v rfl | exact ile_v rfl | exact ieq_v rfl | exact nieq_t rfl | exact nieq_f rfl | exact ieq_self _ | exact nieq_self _ | exact seq_self _ | exact nseq_self _ | rfl) ?_ | refine tg_f (by first | assumption | exact ilt_v rfl | exact ile_v rfl | exact ieq_v rfl | exact nieq_t rfl | exact nieq_f rfl | exact ieq_self _ | exact nieq_self _ | exact seq_self _ | exact nseq_self _ | rfl) ?_ | refine tg_b (fun h => ?_) (fun h => ?_))) | refine ok_pure rfl rfl ?_ | refine ok_qpure rfl rfl ?_ | refine ok_mpure rfl rfl rfl ?_ | refine ok_eff rfl rfl ?_ | refine ok_pure2 rfl rfl ?_ | refine ok_call rfl rfl rfl (count_spec k y a b f) (.inr ⟨rfl, rfl⟩) ?_ | refine ok_qcall rfl rfl rfl (count_spec k y a b f) rfl ?_ | refine ok_drawn (by kernel_rfl) ?_ | fail)
  all_goals rfl
theorem makes_spec (k y a b : Int) (f : Bool) : Spec Try.prog 15 [stV k y a b f] (.d (.int .i64 (St.makes ⟨k, y, a, b, f⟩))) := by
  refine spec_of lay_ok mixed_ok Try.func15 rfl (by kernel_rfl) fun C hT => ?_
  repeat' (refine xrun 100000 rfl ?_; first | refine ok_retv hT rfl ?_ | ((first | refine ok_tg rfl rfl ?_ | refine ok_qtg rfl rfl ?_ | refine ok_mtg rfl rfl rfl ?_); (first | refine tg_t (by first | assumption | exact ilt_v rfl | exact ile_v rfl | exact ieq_v rfl | exact nieq_t rfl | exact nieq_f rfl | exact ieq_self _ | exact nieq_self _ | exact seq_self _ | exact nseq_self _ | rfl) ?_ | refine tg_f (by first | assumption | exact ilt_v rfl | exact ile_v rfl | exact ieq_v rfl | exact nieq_t rfl | exact nieq_f rfl | exact ieq_self _ | exact nieq_self _ | exact seq_self _ | exact nseq_self _ | rfl) ?_ | refine tg_b (fun h => ?_) (fun h => ?_))) | refine ok_pure rfl rfl ?_ | refine ok_qpure rfl rfl ?_ | refine ok_mpure rfl rfl rfl ?_ | refine ok_eff rfl rfl ?_ | refine ok_pure2 rfl rfl ?_ | refine ok_call rfl rfl rfl (count_spec k y a b f) (.inr ⟨rfl, rfl⟩) ?_ | refine ok_qcall rfl rfl rfl (count_spec k y a b f) rfl ?_ | refine ok_drawn (by kernel_rfl) ?_ | fail)
  all_goals rfl
theorem bed_spec (k y a b : Int) (f : Bool) : Spec Try.prog 24 [stV k y a b f] (.d (.int .u8 (if St.back ⟨k, y, a, b, f⟩ then 1 else 0))) := by
  by_cases h : St.Ok ⟨k, y, a, b, f⟩
  · have hc := check_ok h
    refine spec_of lay_ok mixed_ok Try.func24 rfl (by kernel_rfl) fun C hT => ?_
    repeat' (refine xrun 100000 rfl ?_; first | refine ok_retv hT rfl ?_ | ((first | refine ok_tg rfl rfl ?_ | refine ok_qtg rfl rfl ?_ | refine ok_mtg rfl rfl rfl ?_); (first | refine tg_t (by first | assumption | exact ilt_v rfl | exact ile_v rfl | exact ieq_v rfl | exact nieq_t rfl | exact nieq_f rfl | exact ieq_self _ | exact nieq_self _ | exact seq_self _ | exact nseq_self _ | rfl) ?_ | refine tg_f (by first | assumption | exact ilt_v rfl | exact ile_v rfl | exact ieq_v rfl | exact nieq_t rfl | exact nieq_f rfl | exact ieq_self _ | exact nieq_self _ | exact seq_self _ | exact nseq_self _ | rfl) ?_ | refine tg_b (fun h => ?_) (fun h => ?_))) | refine ok_pure rfl rfl ?_ | refine ok_qpure rfl rfl ?_ | refine ok_mpure rfl rfl rfl ?_ | refine ok_eff rfl rfl ?_ | refine ok_pure2 rfl rfl ?_ | refine ok_call rfl rfl rfl (hc) (.inr ⟨rfl, rfl⟩) ?_ | refine ok_qcall rfl rfl rfl (hc) rfl ?_ | refine ok_drawn (by kernel_rfl) ?_ | fail)
    all_goals (clear hT hc; (try simp only [ilt_t, ilt_f, ile_t, ile_f, ieq_t, ieq_f, bnot_t, bnot_f, beq_t, beq_f, band_t, band_f, seq_t, seq_f] at *); (try subst_vars); simp_all [St.back])
  · have hc := check_bad h
    refine spec_of lay_ok mixed_ok Try.func24 rfl (by kernel_rfl) fun C hT => ?_
    repeat' (refine xrun 100000 rfl ?_; first | refine ok_retv hT rfl ?_ | ((first | refine ok_tg rfl rfl ?_ | refine ok_qtg rfl rfl ?_ | refine ok_mtg rfl rfl rfl ?_); (first | refine tg_t (by first | assumption | exact ilt_v rfl | exact ile_v rfl | exact ieq_v rfl | exact nieq_t rfl | exact nieq_f rfl | exact ieq_self _ | exact nieq_self _ | exact seq_self _ | exact nseq_self _ | rfl) ?_ | refine tg_f (by first | assumption | exact ilt_v rfl | exact ile_v rfl | exact ieq_v rfl | exact nieq_t rfl | exact nieq_f rfl | exact ieq_self _ | exact nieq_self _ | exact seq_self _ | exact nseq_self _ | rfl) ?_ | refine tg_b (fun h => ?_) (fun h => ?_))) | refine ok_pure rfl rfl ?_ | refine ok_qpure rfl rfl ?_ | refine ok_mpure rfl rfl rfl ?_ | refine ok_eff rfl rfl ?_ | refine ok_pure2 rfl rfl ?_ | refine ok_call rfl rfl rfl (hc) (.inr ⟨rfl, rfl⟩) ?_ | refine ok_qcall rfl rfl rfl (hc) rfl ?_ | refine ok_drawn (by kernel_rfl) ?_ | fail)
    all_goals (clear hT hc; (try simp only [ilt_t, ilt_f, ile_t, ile_f, ieq_t, ieq_f, bnot_t, bnot_f, beq_t, beq_f, band_t, band_f, seq_t, seq_f] at *); (try subst_vars); simp_all [St.back])
end Go.Proofs.Ytblmoikhfmkfnaa
