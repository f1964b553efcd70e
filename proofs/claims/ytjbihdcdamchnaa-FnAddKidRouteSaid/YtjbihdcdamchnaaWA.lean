/- A part of the proofs about laws of the page tree (see the text that bears the law): a small language of steps, its rules, and what the functions of the program return. -/
import Derived.Test.YtjbihdcdamchnaaLD
import Derived.Test.YtjbihdcdamchnaaSLa
set_option linter.all false
set_option linter.unusedVariables false
set_option linter.unusedSimpArgs false
set_option maxHeartbeats 4000000
namespace Go.V
open Go.Proofs.Try (prog)
theorem c_spec_inRange (k a b : Int) : PCon prog 74 [i64 k, i64 a, i64 b] (fun p => p = .bool (decide (a ≤ k) && decide (k ≤ b))) := by
  refine con_of_VS sl_spec_inRange (by simp) ?_
  refine VS_seq ?_
  refine VS_r0 rfl ?_
  refine q_mv rfl ?_
  refine rg_nil ?_
  refine VS_seq ?_
  refine VS_r0 rfl ?_
  refine q_mv rfl ?_
  refine q_mv rfl ?_
  refine q_leq rfl rfl ?_
  refine q_mv rfl ?_
  refine q_b rfl (fun g10 => ?_) (fun g10 => ?_)
  · try simp at g10
    refine q_t rfl ?_
    refine q_mv rfl ?_
    refine q_t rfl ?_
    refine q_mv rfl ?_
    refine q_t rfl ?_
    refine q_leq rfl rfl ?_
    refine q_pick_t rfl rfl ?_
    refine q_mv rfl ?_
    refine rg_nil ?_
    refine VS_ret ?_
    exact Bd.now ⟨_, rfl, (by first | rfl | (simp [*]; done) | (simp; omega) | (simp_all; done) | (simp_all; omega))⟩
  · try simp at g10
    refine q_f rfl ?_
    refine q_f rfl ?_
    refine q_f rfl ?_
    refine q_pick_f rfl rfl ?_
    refine q_mv rfl ?_
    refine rg_nil ?_
    refine VS_ret ?_
    exact Bd.now ⟨_, rfl, (by first | rfl | (simp [*]; done) | (simp; omega) | (simp_all; done) | (simp_all; omega))⟩
theorem c_impl_isKey (k : Int) : PCon prog 70 [i64 k] (fun p => p = .bool (decide (0 ≤ k) && decide (k ≤ 99))) := by
  refine con_of_VS sl_impl_isKey (by simp) ?_
  refine VS_seq ?_
  refine VS_r0 rfl ?_
  refine q_mv rfl ?_
  refine rg_nil ?_
  refine VS_seq ?_
  refine VS_r0 rfl ?_
  refine q_mv rfl ?_
  refine q_geq rfl rfl ?_
  refine q_mv rfl ?_
  refine q_b rfl (fun g5 => ?_) (fun g5 => ?_)
  · try simp at g5
    refine q_t rfl ?_
    refine q_mv rfl ?_
    refine q_t rfl ?_
    refine q_leq rfl rfl ?_
    refine q_pick_t rfl rfl ?_
    refine q_mv rfl ?_
    refine rg_nil ?_
    refine VS_ret ?_
    exact Bd.now ⟨_, rfl, (by first | rfl | (simp [*]; done) | (simp; omega) | (simp_all; done) | (simp_all; omega))⟩
  · try simp at g5
    refine q_f rfl ?_
    refine q_f rfl ?_
    refine q_pick_f rfl rfl ?_
    refine q_mv rfl ?_
    refine rg_nil ?_
    refine VS_ret ?_
    exact Bd.now ⟨_, rfl, (by first | rfl | (simp [*]; done) | (simp; omega) | (simp_all; done) | (simp_all; omega))⟩
theorem c_impl_isValue (k : Int) : PCon prog 67 [i64 k] (fun p => p = .bool (decide (-1000 ≤ k) && decide (k ≤ 1000))) := by
  refine con_of_VS sl_impl_isValue (by simp) ?_
  refine VS_seq ?_
  refine VS_r0 rfl ?_
  refine q_mv rfl ?_
  refine rg_nil ?_
  refine VS_seq ?_
  refine VS_r0 rfl ?_
  refine q_mv rfl ?_
  refine q_geq rfl rfl ?_
  refine q_mv rfl ?_
  refine q_b rfl (fun g5 => ?_) (fun g5 => ?_)
  · try simp at g5
    refine q_t rfl ?_
    refine q_mv rfl ?_
    refine q_t rfl ?_
    refine q_leq rfl rfl ?_
    refine q_pick_t rfl rfl ?_
    refine q_mv rfl ?_
    refine rg_nil ?_
    refine VS_ret ?_
    exact Bd.now ⟨_, rfl, (by first | rfl | (simp [*]; done) | (simp; omega) | (simp_all; done) | (simp_all; omega))⟩
  · try simp at g5
    refine q_f rfl ?_
    refine q_f rfl ?_
    refine q_pick_f rfl rfl ?_
    refine q_mv rfl ?_
    refine rg_nil ?_
    refine VS_ret ?_
    exact Bd.now ⟨_, rfl, (by first | rfl | (simp [*]; done) | (simp; omega) | (simp_all; done) | (simp_all; omega))⟩
theorem c_spec_allIn (xs : List Int) (a b : Int) (hl : xs.length ≤ 1000000000) : PCon prog 86 [ints xs, i64 a, i64 b] (fun p => p = .bool (xs.all fun k => decide (a ≤ k) && decide (k ≤ b))) := by
  refine con_of_VS sl_spec_allIn (by simp) ?_
  refine VS_seq ?_
  refine VS_r0 rfl ?_
  refine q_mv rfl ?_
  refine rg_nil ?_
  refine VS_seq ?_
  refine VS_seq ?_
  refine VS_r0 rfl ?_
  refine q_mv rfl ?_
  refine rg_nil ?_
  refine VS_block ?_
  refine VS_bd (Bd.keepL [(0, .pv (ints xs)), (1, .pv (i64 a)), (2, .pv (i64 b)), (6, .pv (.bool false)), (7, .pv (i64 0))] ⟨rfl, rfl, rfl, rfl, rfl, trivial⟩ ?_)
  refine VS_loop (fun mz E S => ∃ i : Nat, mz = xs.length - i ∧ (i ≤ xs.length) ∧ (∀ j, j < i → (decide (a ≤ nth xs j) && decide (nth xs j ≤ b)) = true) ∧ E = env [(0, .pv (ints xs)), (1, .pv (i64 a)), (2, .pv (i64 b)), (6, .pv (.bool false)), (7, .pv (i64 i))] ∧ S = []) ⟨_, 0, rfl, (by first | omega | (intros; omega) | simp), (by first | omega | (intros; omega) | simp), rfl, rfl⟩ ?_
  rintro mz _ _ ⟨i, hmeas, g1, g2, rfl, rfl⟩
  refine VS_seq ?_
  refine VS_seq ?_
  refine VS_r0 rfl ?_
  refine q_mv rfl ?_
  refine q_mv rfl ?_
  first | refine q_len_m rfl ?_ | refine q_len_s rfl ?_ | refine q_len_o rfl ?_ | refine q_len_n rfl ?_ | refine q_len_x rfl ?_
  refine q_lss rfl rfl ?_
  refine rg_nil ?_
  refine VS_cond rfl (fun c0 => ?_) (fun c0 => ?_)
  · try simp at c0
    refine VS_skip ?_
    refine VS_seq ?_
    refine VS_block ?_
    refine VS_seq ?_
    refine VS_r0 rfl ?_
    refine q_mv rfl ?_
    refine q_mv rfl ?_
    first | refine q_idx_c _ rfl rfl (by omega) (fun _ => rfl) ?_ | refine q_idx_m rfl rfl (by omega) (by omega) (fun _ => rfl) ?_ | refine q_idx_om rfl rfl (by omega) (by omega) rfl rfl ?_
    first | refine q_load_c rfl rfl rfl ?_ | refine q_load_r rfl rfl rfl rfl rfl rfl rfl ?_ | refine q_load_o rfl rfl rfl rfl rfl ?_
    refine q_mv rfl ?_
    refine q_mv rfl ?_
    refine q_callp (c_spec_inRange _ _ _) rfl trivial ?_
    refine q_not rfl ?_
    refine rg_nil ?_
    refine VS_cond rfl (fun c1 => ?_) (fun c1 => ?_)
    · try simp at c1
      refine VS_seq ?_
      refine VS_r0 rfl ?_
      refine q_mv rfl ?_
      refine rg_nil ?_
      refine VS_ret ?_
      exact Bd.now ⟨_, rfl, congrArg PV.bool (all_false i c0 (by simp; omega)).symm⟩
    · try simp at c1
      refine VS_skip ?_
      refine VS_r0 rfl ?_
      refine q_mv rfl ?_
      refine q_add rfl rfl (inR64 (by omega)) ?_
      refine q_mv rfl ?_
      refine rg_nil ?_
      refine Bd.keepL [(0, .pv (ints xs)), (1, .pv (i64 a)), (2, .pv (i64 b)), (6, .pv (.bool false)), (7, .pv (i64 (i + 1)))] ⟨rfl, rfl, rfl, rfl, rfl, trivial⟩ ⟨_, ?_, i + 1, rfl, ?_, ?_, rfl, rfl⟩
      · first | omega | assumption | rfl | (simp; omega)
      · first | omega | assumption | rfl | (simp; omega)
      · intro j hj
        by_cases e : j = i
        · subst e; simp_all
        · exact g2 j (by omega)
  · try simp at c0
    refine VS_exit ?_
    refine VS_seq ?_
    refine VS_r0 rfl ?_
    refine q_mv rfl ?_
    refine rg_nil ?_
    refine VS_ret ?_
    exact Bd.now ⟨_, rfl, congrArg PV.bool (all_true fun j hj => g2 j (by omega)).symm⟩
theorem c_spec_isIn (xs : List Int) (k : Int) (hl : xs.length ≤ 1000000000) : PCon prog 65 [ints xs, i64 k] (fun p => p = .bool (xs.contains k)) := by
  refine con_of_VS sl_spec_isIn (by simp) ?_
  refine VS_seq ?_
  refine VS_r0 rfl ?_
  refine q_mv rfl ?_
  refine rg_nil ?_
  refine VS_seq ?_
  refine VS_seq ?_
  refine VS_r0 rfl ?_
  refine q_mv rfl ?_
  refine rg_nil ?_
  refine VS_block ?_
  refine VS_bd (Bd.keepL [(0, .pv (ints xs)), (1, .pv (i64 k)), (4, .pv (.bool false)), (5, .pv (i64 0))] ⟨rfl, rfl, rfl, rfl, trivial⟩ ?_)
  refine VS_loop (fun mz E S => ∃ i : Nat, mz = xs.length - i ∧ (i ≤ xs.length) ∧ (∀ j, j < i → nth xs j ≠ k) ∧ E = env [(0, .pv (ints xs)), (1, .pv (i64 k)), (4, .pv (.bool false)), (5, .pv (i64 i))] ∧ S = []) ⟨_, 0, rfl, (by first | omega | (intros; omega) | simp), (by first | omega | (intros; omega) | simp), rfl, rfl⟩ ?_
  rintro mz _ _ ⟨i, hmeas, g1, g2, rfl, rfl⟩
  refine VS_seq ?_
  refine VS_seq ?_
  refine VS_r0 rfl ?_
  refine q_mv rfl ?_
  refine q_mv rfl ?_
  first | refine q_len_m rfl ?_ | refine q_len_s rfl ?_ | refine q_len_o rfl ?_ | refine q_len_n rfl ?_ | refine q_len_x rfl ?_
  refine q_lss rfl rfl ?_
  refine rg_nil ?_
  refine VS_cond rfl (fun c0 => ?_) (fun c0 => ?_)
  · try simp at c0
    refine VS_skip ?_
    refine VS_seq ?_
    refine VS_block ?_
    refine VS_seq ?_
    refine VS_r0 rfl ?_
    refine q_mv rfl ?_
    refine q_mv rfl ?_
    first | refine q_idx_c _ rfl rfl (by omega) (fun _ => rfl) ?_ | refine q_idx_m rfl rfl (by omega) (by omega) (fun _ => rfl) ?_ | refine q_idx_om rfl rfl (by omega) (by omega) rfl rfl ?_
    first | refine q_load_c rfl rfl rfl ?_ | refine q_load_r rfl rfl rfl rfl rfl rfl rfl ?_ | refine q_load_o rfl rfl rfl rfl rfl ?_
    refine q_mv rfl ?_
    refine q_eql rfl rfl ?_
    refine rg_nil ?_
    refine VS_cond rfl (fun c1 => ?_) (fun c1 => ?_)
    · try simp at c1
      refine VS_seq ?_
      refine VS_r0 rfl ?_
      refine q_mv rfl ?_
      refine rg_nil ?_
      refine VS_ret ?_
      exact Bd.now ⟨_, rfl, congrArg PV.bool (has_true i c0 c1).symm⟩
    · try simp at c1
      refine VS_skip ?_
      refine VS_r0 rfl ?_
      refine q_mv rfl ?_
      refine q_add rfl rfl (inR64 (by omega)) ?_
      refine q_mv rfl ?_
      refine rg_nil ?_
      refine Bd.keepL [(0, .pv (ints xs)), (1, .pv (i64 k)), (4, .pv (.bool false)), (5, .pv (i64 (i + 1)))] ⟨rfl, rfl, rfl, rfl, trivial⟩ ⟨_, ?_, i + 1, rfl, ?_, ?_, rfl, rfl⟩
      · first | omega | assumption | rfl | (simp; omega)
      · first | omega | assumption | rfl | (simp; omega)
      · intro j hj
        by_cases e : j = i
        · subst e; simp_all
        · exact g2 j (by omega)
  · try simp at c0
    refine VS_exit ?_
    refine VS_seq ?_
    refine VS_r0 rfl ?_
    refine q_mv rfl ?_
    refine rg_nil ?_
    refine VS_ret ?_
    exact Bd.now ⟨_, rfl, congrArg PV.bool (has_false fun j hj => g2 j (by omega)).symm⟩
theorem c_laws_isIn (xs : List Int) (k : Int) (hl : xs.length ≤ 1000000000) : PCon prog 44 [ints xs, i64 k] (fun p => p = .bool (xs.contains k)) := by
  refine con_of_VS sl_laws_isIn (by simp) ?_
  refine VS_seq ?_
  refine VS_r0 rfl ?_
  refine q_mv rfl ?_
  refine rg_nil ?_
  refine VS_seq ?_
  refine VS_seq ?_
  refine VS_r0 rfl ?_
  refine q_mv rfl ?_
  refine rg_nil ?_
  refine VS_block ?_
  refine VS_bd (Bd.keepL [(0, .pv (ints xs)), (1, .pv (i64 k)), (4, .pv (.bool false)), (5, .pv (i64 0))] ⟨rfl, rfl, rfl, rfl, trivial⟩ ?_)
  refine VS_loop (fun mz E S => ∃ i : Nat, mz = xs.length - i ∧ (i ≤ xs.length) ∧ (∀ j, j < i → nth xs j ≠ k) ∧ E = env [(0, .pv (ints xs)), (1, .pv (i64 k)), (4, .pv (.bool false)), (5, .pv (i64 i))] ∧ S = []) ⟨_, 0, rfl, (by first | omega | (intros; omega) | simp), (by first | omega | (intros; omega) | simp), rfl, rfl⟩ ?_
  rintro mz _ _ ⟨i, hmeas, g1, g2, rfl, rfl⟩
  refine VS_seq ?_
  refine VS_seq ?_
  refine VS_r0 rfl ?_
  refine q_mv rfl ?_
  refine q_mv rfl ?_
  first | refine q_len_m rfl ?_ | refine q_len_s rfl ?_ | refine q_len_o rfl ?_ | refine q_len_n rfl ?_ | refine q_len_x rfl ?_
  refine q_lss rfl rfl ?_
  refine rg_nil ?_
  refine VS_cond rfl (fun c0 => ?_) (fun c0 => ?_)
  · try simp at c0
    refine VS_skip ?_
    refine VS_seq ?_
    refine VS_block ?_
    refine VS_seq ?_
    refine VS_r0 rfl ?_
    refine q_mv rfl ?_
    refine q_mv rfl ?_
    first | refine q_idx_c _ rfl rfl (by omega) (fun _ => rfl) ?_ | refine q_idx_m rfl rfl (by omega) (by omega) (fun _ => rfl) ?_ | refine q_idx_om rfl rfl (by omega) (by omega) rfl rfl ?_
    first | refine q_load_c rfl rfl rfl ?_ | refine q_load_r rfl rfl rfl rfl rfl rfl rfl ?_ | refine q_load_o rfl rfl rfl rfl rfl ?_
    refine q_mv rfl ?_
    refine q_eql rfl rfl ?_
    refine rg_nil ?_
    refine VS_cond rfl (fun c1 => ?_) (fun c1 => ?_)
    · try simp at c1
      refine VS_seq ?_
      refine VS_r0 rfl ?_
      refine q_mv rfl ?_
      refine rg_nil ?_
      refine VS_ret ?_
      exact Bd.now ⟨_, rfl, congrArg PV.bool (has_true i c0 c1).symm⟩
    · try simp at c1
      refine VS_skip ?_
      refine VS_r0 rfl ?_
      refine q_mv rfl ?_
      refine q_add rfl rfl (inR64 (by omega)) ?_
      refine q_mv rfl ?_
      refine rg_nil ?_
      refine Bd.keepL [(0, .pv (ints xs)), (1, .pv (i64 k)), (4, .pv (.bool false)), (5, .pv (i64 (i + 1)))] ⟨rfl, rfl, rfl, rfl, trivial⟩ ⟨_, ?_, i + 1, rfl, ?_, ?_, rfl, rfl⟩
      · first | omega | assumption | rfl | (simp; omega)
      · first | omega | assumption | rfl | (simp; omega)
      · intro j hj
        by_cases e : j = i
        · subst e; simp_all
        · exact g2 j (by omega)
  · try simp at c0
    refine VS_exit ?_
    refine VS_seq ?_
    refine VS_r0 rfl ?_
    refine q_mv rfl ?_
    refine rg_nil ?_
    refine VS_ret ?_
    exact Bd.now ⟨_, rfl, congrArg PV.bool (has_false fun j hj => g2 j (by omega)).symm⟩
theorem c_spec_validKeys (xs : List Int) (hl : xs.length ≤ 1000000000) : PCon prog 73 [ints xs] (fun p => p = .bool (goodKeys xs)) := by
  refine con_of_VS sl_spec_validKeys (by simp) ?_
  refine VS_seq ?_
  refine VS_r0 rfl ?_
  refine q_mv rfl ?_
  refine rg_nil ?_
  refine VS_seq ?_
  refine VS_seq ?_
  refine VS_r0 rfl ?_
  refine q_mv rfl ?_
  refine rg_nil ?_
  refine VS_block ?_
  refine VS_bd (Bd.keepL [(0, .pv (ints xs)), (2, .pv (.bool false)), (3, .pv (i64 1))] ⟨rfl, rfl, rfl, trivial⟩ ?_)
  refine VS_loop (fun mz E S => ∃ i : Nat, mz = xs.length - i ∧ (1 ≤ i) ∧ (∀ j, j + 1 < i → nth xs j < nth xs (j + 1)) ∧ E = env [(0, .pv (ints xs)), (2, .pv (.bool false)), (3, .pv (i64 i))] ∧ S = []) ⟨_, 1, rfl, (by first | omega | (intros; omega) | simp), (by first | omega | (intros; omega) | simp), rfl, rfl⟩ ?_
  rintro mz _ _ ⟨i, hmeas, g1, g2, rfl, rfl⟩
  refine VS_seq ?_
  refine VS_seq ?_
  refine VS_r0 rfl ?_
  refine q_mv rfl ?_
  refine q_mv rfl ?_
  first | refine q_len_m rfl ?_ | refine q_len_s rfl ?_ | refine q_len_o rfl ?_ | refine q_len_n rfl ?_ | refine q_len_x rfl ?_
  refine q_lss rfl rfl ?_
  refine rg_nil ?_
  refine VS_cond rfl (fun c0 => ?_) (fun c0 => ?_)
  · try simp at c0
    refine VS_skip ?_
    refine VS_seq ?_
    refine VS_block ?_
    refine VS_seq ?_
    refine VS_r1 hmix rfl ?_
    refine q_mv rfl ?_
    refine q_mv rfl ?_
    first | refine q_idx_c _ rfl rfl (by omega) (fun _ => rfl) ?_ | refine q_idx_m rfl rfl (by omega) (by omega) (fun _ => rfl) ?_ | refine q_idx_om rfl rfl (by omega) (by omega) rfl rfl ?_
    first | refine q_load_c rfl rfl rfl ?_ | refine q_load_r rfl rfl rfl rfl rfl rfl rfl ?_ | refine q_load_o rfl rfl rfl rfl rfl ?_
    refine q_mv rfl ?_
    refine q_mv rfl ?_
    refine q_sub rfl rfl (inR64 (by omega)) ?_
    first | refine q_idx_c _ rfl rfl (by omega) (fun _ => rfl) ?_ | refine q_idx_m rfl rfl (by omega) (by omega) (fun _ => rfl) ?_ | refine q_idx_om rfl rfl (by omega) (by omega) rfl rfl ?_
    first | refine q_load_c rfl rfl rfl ?_ | refine q_load_r rfl rfl rfl rfl rfl rfl rfl ?_ | refine q_load_o rfl rfl rfl rfl rfl ?_
    refine q_leq rfl rfl ?_
    refine rg_nil ?_
    refine VS_cond rfl (fun c1 => ?_) (fun c1 => ?_)
    · try simp at c1
      refine VS_seq ?_
      refine VS_r0 rfl ?_
      refine q_mv rfl ?_
      refine rg_nil ?_
      refine VS_ret ?_
      exact Bd.now ⟨_, rfl, congrArg PV.bool (good_false i g1 c0 (by simpa using c1)).symm⟩
    · try simp at c1
      refine VS_skip ?_
      refine VS_r0 rfl ?_
      refine q_mv rfl ?_
      refine q_add rfl rfl (inR64 (by omega)) ?_
      refine q_mv rfl ?_
      refine rg_nil ?_
      refine Bd.keepL [(0, .pv (ints xs)), (2, .pv (.bool false)), (3, .pv (i64 (i + 1)))] ⟨rfl, rfl, rfl, trivial⟩ ⟨_, ?_, i + 1, rfl, ?_, ?_, rfl, rfl⟩
      · first | omega | assumption | rfl | (simp; omega)
      · first | omega | assumption | rfl | (simp; omega)
      · intro j hj
        by_cases e : j + 1 = i
        · have e2 : i - 1 = j := by omega
          have e3 : ((i : Int) - 1).toNat = j := by omega
          simp only [e2, e3] at c1
          rw [e]
          omega
        · exact g2 j (by omega)
  · try simp at c0
    refine VS_exit ?_
    refine VS_seq ?_
    refine VS_r0 rfl ?_
    refine q_mv rfl ?_
    refine q_callp (c_spec_allIn _ _ _ hl) rfl trivial ?_
    refine q_mv rfl ?_
    refine rg_nil ?_
    refine VS_ret ?_
    exact Bd.now ⟨_, rfl, congrArg PV.bool (good_all fun j hj => g2 j (by omega)).symm⟩
theorem c_impl_ValidKeys (xs : List Int) (hl : xs.length ≤ 1000000000) : PCon prog 41 [ints xs] (fun p => p = .bool (goodKeys xs)) := by
  refine con_of_VS sl_impl_ValidKeys (by simp) ?_
  refine VS_seq ?_
  refine VS_r0 rfl ?_
  refine q_mv rfl ?_
  refine rg_nil ?_
  refine VS_seq ?_
  refine VS_seq ?_
  refine VS_r0 rfl ?_
  refine q_mv rfl ?_
  first | refine q_len_m rfl ?_ | refine q_len_s rfl ?_ | refine q_len_o rfl ?_ | refine q_len_n rfl ?_ | refine q_len_x rfl ?_
  refine q_mv rfl ?_
  refine rg_nil ?_
  refine VS_block ?_
  refine VS_bd (Bd.keepL [(0, .pv (ints xs)), (2, .pv (.bool false)), (5, .pv (ints xs)), (6, .pv (i64 xs.length)), (7, .pv (i64 0))] ⟨rfl, rfl, rfl, rfl, rfl, trivial⟩ ?_)
  refine VS_loop (fun mz E S => ∃ i : Nat, mz = xs.length - i ∧ (i ≤ xs.length) ∧ (∀ j, j < i → 0 ≤ nth xs j ∧ nth xs j ≤ 99) ∧ (∀ j, j + 1 < i → nth xs j < nth xs (j + 1)) ∧ E = env [(0, .pv (ints xs)), (2, .pv (.bool false)), (5, .pv (ints xs)), (6, .pv (i64 xs.length)), (7, .pv (i64 i))] ∧ S = []) ⟨_, 0, rfl, (by first | omega | (intros; omega) | simp), (by first | omega | (intros; omega) | simp), (by first | omega | (intros; omega) | simp), rfl, rfl⟩ ?_
  rintro mz _ _ ⟨i, hmeas, g0, g1, g2, rfl, rfl⟩
  refine VS_seq ?_
  refine VS_r0 rfl ?_
  refine q_lss rfl rfl ?_
  refine rg_nil ?_
  refine VS_seq ?_
  refine VS_cond rfl (fun c0 => ?_) (fun c0 => ?_)
  · try simp at c0
    refine VS_skip ?_
    refine VS_seq ?_
    refine VS_block ?_
    refine VS_seq ?_
    refine VS_r0 rfl ?_
    refine q_mv rfl ?_
    first | refine q_idx_c _ rfl rfl (by omega) (fun _ => rfl) ?_ | refine q_idx_m rfl rfl (by omega) (by omega) (fun _ => rfl) ?_ | refine q_idx_om rfl rfl (by omega) (by omega) rfl rfl ?_
    first | refine q_load_c rfl rfl rfl ?_ | refine q_load_r rfl rfl rfl rfl rfl rfl rfl ?_ | refine q_load_o rfl rfl rfl rfl rfl ?_
    refine q_mv rfl ?_
    refine q_mv rfl ?_
    refine rg_nil ?_
    refine VS_seq ?_
    refine VS_seq ?_
    refine VS_r0 rfl ?_
    refine q_mv rfl ?_
    refine q_callp (c_impl_isKey _) rfl trivial ?_
    refine q_not rfl ?_
    refine rg_nil ?_
    refine VS_cond rfl (fun c1 => ?_) (fun c1 => ?_)
    · try simp at c1
      refine VS_seq ?_
      refine VS_r0 rfl ?_
      refine q_mv rfl ?_
      refine rg_nil ?_
      refine VS_ret ?_
      exact Bd.now ⟨_, rfl, congrArg PV.bool (good_false2 i c0 (by simp; omega)).symm⟩
    · try simp at c1
      refine VS_skip ?_
      refine VS_seq ?_
      refine VS_r0 rfl ?_
      refine q_mv rfl ?_
      refine q_gtr rfl rfl ?_
      refine q_mv rfl ?_
      refine q_b rfl (fun g17 => ?_) (fun g17 => ?_)
      · try simp at g17
        refine q_t rfl ?_
        refine q_mv rfl ?_
        refine q_t rfl ?_
        refine q_mv rfl ?_
        refine q_t rfl ?_
        refine q_sub rfl rfl (inR64 (by omega)) ?_
        refine q_t rfl ?_
        first | refine q_idx_c _ rfl rfl (by omega) (fun _ => rfl) ?_ | refine q_idx_m rfl rfl (by omega) (by omega) (fun _ => rfl) ?_ | refine q_idx_om rfl rfl (by omega) (by omega) rfl rfl ?_
        refine q_t rfl ?_
        first | refine q_load_c rfl rfl rfl ?_ | refine q_load_r rfl rfl rfl rfl rfl rfl rfl ?_ | refine q_load_o rfl rfl rfl rfl rfl ?_
        refine q_t rfl ?_
        refine q_mv rfl ?_
        refine q_t rfl ?_
        refine q_geq rfl rfl ?_
        refine q_pick_t rfl rfl ?_
        refine rg_nil ?_
        refine VS_cond rfl (fun c2 => ?_) (fun c2 => ?_)
        · try simp at c2
          refine VS_seq ?_
          refine VS_r0 rfl ?_
          refine q_mv rfl ?_
          refine rg_nil ?_
          refine VS_ret ?_
          exact Bd.now ⟨_, rfl, congrArg PV.bool (good_false i (by omega) c0 (by simpa using c2)).symm⟩
        · try simp at c2
          refine VS_skip ?_
          refine VS_r0 rfl ?_
          refine q_add rfl rfl (inR64 (by omega)) ?_
          refine q_mv rfl ?_
          refine rg_nil ?_
          refine Bd.keepL [(0, .pv (ints xs)), (2, .pv (.bool false)), (5, .pv (ints xs)), (6, .pv (i64 xs.length)), (7, .pv (i64 (i + 1)))] ⟨rfl, rfl, rfl, rfl, rfl, trivial⟩ ⟨_, ?_, i + 1, rfl, ?_, ?_, ?_, rfl, rfl⟩
          · first | omega | assumption | rfl | (simp; omega)
          · first | omega | assumption | rfl | (simp; omega)
          · intro j hj
            by_cases e : j = i
            · subst e; omega
            · exact g1 j (by omega)
          · intro j hj
            by_cases e : j + 1 = i
            · have e2 : i - 1 = j := by omega
              have e3 : ((i : Int) - 1).toNat = j := by omega
              first | (exfalso; omega) | (simp only [e2, e3] at c2; rw [e]; omega)
            · exact g2 j (by omega)
      · try simp at g17
        refine q_f rfl ?_
        refine q_f rfl ?_
        refine q_f rfl ?_
        refine q_f rfl ?_
        refine q_f rfl ?_
        refine q_f rfl ?_
        refine q_f rfl ?_
        refine q_pick_f rfl rfl ?_
        refine rg_nil ?_
        refine VS_cond rfl (fun e => by cases e) (fun _ => ?_)
        refine VS_skip ?_
        refine VS_r0 rfl ?_
        refine q_add rfl rfl (inR64 (by omega)) ?_
        refine q_mv rfl ?_
        refine rg_nil ?_
        refine Bd.keepL [(0, .pv (ints xs)), (2, .pv (.bool false)), (5, .pv (ints xs)), (6, .pv (i64 xs.length)), (7, .pv (i64 (i + 1)))] ⟨rfl, rfl, rfl, rfl, rfl, trivial⟩ ⟨_, ?_, i + 1, rfl, ?_, ?_, ?_, rfl, rfl⟩
        · first | omega | assumption | rfl | (simp; omega)
        · first | omega | assumption | rfl | (simp; omega)
        · intro j hj
          by_cases e : j = i
          · subst e; omega
          · exact g1 j (by omega)
        · intro j hj
          by_cases e : j + 1 = i
          · have e2 : i - 1 = j := by omega
            have e3 : ((i : Int) - 1).toNat = j := by omega
            first | (exfalso; omega) | (simp only [e2, e3] at c2; rw [e]; omega)
          · exact g2 j (by omega)
  · try simp at c0
    refine VS_exit ?_
    refine VS_seq ?_
    refine VS_r0 rfl ?_
    refine q_mv rfl ?_
    refine rg_nil ?_
    refine VS_ret ?_
    exact Bd.now ⟨_, rfl, congrArg PV.bool (good_true (fun j hj => g1 j (by omega)) (fun j hj => g2 j (by omega))).symm⟩
theorem c_spec_below (xs : List Int) (k : Int) (hl : xs.length ≤ 1000000000) : PCon prog 66 [ints xs, i64 k] (fun p => p = i64 (upTo xs (k - 1))) := by
  refine con_of_VS sl_spec_below (by simp) ?_
  refine VS_seq ?_
  refine VS_r0 rfl ?_
  refine q_mv rfl ?_
  refine rg_nil ?_
  refine VS_seq ?_
  refine VS_r0 rfl ?_
  refine q_mv rfl ?_
  refine rg_nil ?_
  refine VS_seq ?_
  refine VS_block ?_
  refine VS_bd (Bd.keepL [(0, .pv (ints xs)), (1, .pv (i64 k)), (5, .pv (i64 0))] ⟨rfl, rfl, rfl, trivial⟩ ?_)
  refine VS_loop (fun mz E S => ∃ i : Nat, mz = xs.length - i ∧ (i ≤ xs.length) ∧ (∀ j, j < i → nth xs j ≤ k - 1) ∧ E = env [(0, .pv (ints xs)), (1, .pv (i64 k)), (5, .pv (i64 i))] ∧ S = []) ⟨_, 0, rfl, (by first | omega | (intros; omega) | simp), (by first | omega | (intros; omega) | simp), rfl, rfl⟩ ?_
  rintro mz _ _ ⟨i, hmeas, g0, g1, rfl, rfl⟩
  refine VS_seq ?_
  refine VS_seq ?_
  refine VS_r0 rfl ?_
  refine q_mv rfl ?_
  refine q_mv rfl ?_
  first | refine q_len_m rfl ?_ | refine q_len_s rfl ?_ | refine q_len_o rfl ?_ | refine q_len_n rfl ?_ | refine q_len_x rfl ?_
  refine q_lss rfl rfl ?_
  refine q_mv rfl ?_
  refine q_b rfl (fun g10 => ?_) (fun g10 => ?_)
  · try simp at g10
    refine q_t rfl ?_
    refine q_mv rfl ?_
    refine q_t rfl ?_
    refine q_mv rfl ?_
    refine q_t rfl ?_
    first | refine q_idx_c _ rfl rfl (by omega) (fun _ => rfl) ?_ | refine q_idx_m rfl rfl (by omega) (by omega) (fun _ => rfl) ?_ | refine q_idx_om rfl rfl (by omega) (by omega) rfl rfl ?_
    refine q_t rfl ?_
    first | refine q_load_c rfl rfl rfl ?_ | refine q_load_r rfl rfl rfl rfl rfl rfl rfl ?_ | refine q_load_o rfl rfl rfl rfl rfl ?_
    refine q_t rfl ?_
    refine q_mv rfl ?_
    refine q_t rfl ?_
    refine q_lss rfl rfl ?_
    refine q_pick_t rfl rfl ?_
    refine rg_nil ?_
    refine VS_cond rfl (fun c0 => ?_) (fun c0 => ?_)
    · try simp at c0
      refine VS_skip ?_
      refine VS_block ?_
      refine VS_r0 rfl ?_
      refine q_mv rfl ?_
      refine q_add rfl rfl (inR64 (by omega)) ?_
      refine q_mv rfl ?_
      refine rg_nil ?_
      refine Bd.keepL [(0, .pv (ints xs)), (1, .pv (i64 k)), (5, .pv (i64 (i + 1)))] ⟨rfl, rfl, rfl, trivial⟩ ⟨_, ?_, i + 1, rfl, ?_, ?_, rfl, rfl⟩
      · first | omega | assumption | rfl | (simp; omega)
      · first | omega | assumption | rfl | (simp; omega)
      · intro j hj
        by_cases e : j = i
        · subst e; first | omega | (simp at c0; omega)
        · exact g1 j (by omega)
    · try simp at c0
      refine VS_exit ?_
      refine VS_seq ?_
      refine VS_r0 rfl ?_
      refine q_mv rfl ?_
      refine q_mv rfl ?_
      refine rg_nil ?_
      refine VS_ret ?_
      exact Bd.now ⟨_, rfl, congrArg (fun n : Nat => i64 n) (upTo_eq g0 g1 (fun _ => by first | omega | (simp at c0; omega))).symm⟩
  · try simp at g10
    refine q_f rfl ?_
    refine q_f rfl ?_
    refine q_f rfl ?_
    refine q_f rfl ?_
    refine q_f rfl ?_
    refine q_f rfl ?_
    refine q_pick_f rfl rfl ?_
    refine rg_nil ?_
    refine VS_cond rfl (fun e => by cases e) (fun _ => ?_)
    refine VS_exit ?_
    refine VS_seq ?_
    refine VS_r0 rfl ?_
    refine q_mv rfl ?_
    refine q_mv rfl ?_
    refine rg_nil ?_
    refine VS_ret ?_
    exact Bd.now ⟨_, rfl, congrArg (fun n : Nat => i64 n) (upTo_eq g0 g1 (fun _ => by first | omega | (simp at c0; omega))).symm⟩
theorem c_impl_KeysUpTo_1 (xs : List Int) (k : Int) (i : Nat) (hi : i < xs.length) : PCon prog 95 [i64 i, .con (ints xs), .con (i64 k)] (fun p => p = .bool (decide (k < nth xs i))) := by
  refine con_of_VS sl_impl_KeysUpTo_1 (by simp) ?_
  refine VS_seq ?_
  refine VS_r0 rfl ?_
  refine q_mv rfl ?_
  refine rg_nil ?_
  refine VS_seq ?_
  refine VS_r1 hmix rfl ?_
  first | refine q_load_c rfl rfl rfl ?_ | refine q_load_r rfl rfl rfl rfl rfl rfl rfl ?_ | refine q_load_o rfl rfl rfl rfl rfl ?_
  refine q_mv rfl ?_
  first | refine q_idx_c _ rfl rfl (by omega) (fun _ => rfl) ?_ | refine q_idx_m rfl rfl (by omega) (by omega) (fun _ => rfl) ?_ | refine q_idx_om rfl rfl (by omega) (by omega) rfl rfl ?_
  first | refine q_load_c rfl rfl rfl ?_ | refine q_load_r rfl rfl rfl rfl rfl rfl rfl ?_ | refine q_load_o rfl rfl rfl rfl rfl ?_
  first | refine q_load_c rfl rfl rfl ?_ | refine q_load_r rfl rfl rfl rfl rfl rfl rfl ?_ | refine q_load_o rfl rfl rfl rfl rfl ?_
  refine q_gtr rfl rfl ?_
  refine q_mv rfl ?_
  refine rg_nil ?_
  refine VS_ret ?_
  exact Bd.now ⟨_, rfl, by simp⟩
theorem c_impl_KeysBelow_1 (xs : List Int) (k : Int) (i : Nat) (hi : i < xs.length) : PCon prog 76 [i64 i, .con (ints xs), .con (i64 k)] (fun p => p = .bool (decide (k ≤ nth xs i))) := by
  refine con_of_VS sl_impl_KeysBelow_1 (by simp) ?_
  refine VS_seq ?_
  refine VS_r0 rfl ?_
  refine q_mv rfl ?_
  refine rg_nil ?_
  refine VS_seq ?_
  refine VS_r1 hmix rfl ?_
  first | refine q_load_c rfl rfl rfl ?_ | refine q_load_r rfl rfl rfl rfl rfl rfl rfl ?_ | refine q_load_o rfl rfl rfl rfl rfl ?_
  refine q_mv rfl ?_
  first | refine q_idx_c _ rfl rfl (by omega) (fun _ => rfl) ?_ | refine q_idx_m rfl rfl (by omega) (by omega) (fun _ => rfl) ?_ | refine q_idx_om rfl rfl (by omega) (by omega) rfl rfl ?_
  first | refine q_load_c rfl rfl rfl ?_ | refine q_load_r rfl rfl rfl rfl rfl rfl rfl ?_ | refine q_load_o rfl rfl rfl rfl rfl ?_
  first | refine q_load_c rfl rfl rfl ?_ | refine q_load_r rfl rfl rfl rfl rfl rfl rfl ?_ | refine q_load_o rfl rfl rfl rfl rfl ?_
  refine q_geq rfl rfl ?_
  refine q_mv rfl ?_
  refine rg_nil ?_
  refine VS_ret ?_
  exact Bd.now ⟨_, rfl, by simp⟩
theorem c_sort_Search (f : FuncId) (caps : List PV) (n m : Nat) (hf : callable prog f = true) (hcp : toPVs (caps.map .pv) = some caps) (hq : ∀ i : Nat, i < n → PCon prog f (i64 i :: caps) (fun p => p = .bool (decide (m ≤ i)))) (hm : m ≤ n) (hn : n ≤ 1000000000) : PCon prog 75 [i64 n, .clo f caps] (fun p => p = i64 m) := by
  refine con_of_VS sl_sort_Search (by simp) ?_
  refine VS_seq ?_
  refine VS_r0 rfl ?_
  refine q_mv rfl ?_
  refine rg_nil ?_
  refine VS_seq ?_
  refine VS_r0 rfl ?_
  refine q_mv rfl ?_
  refine q_mv rfl ?_
  refine q_mv rfl ?_
  refine rg_nil ?_
  refine VS_seq ?_
  refine VS_block ?_
  refine VS_bd (Bd.keepL [(1, .pv (.clo f caps)), (5, .pv (i64 0)), (6, .pv (i64 n))] ⟨rfl, rfl, rfl, trivial⟩ ?_)
  refine VS_loop (fun mz E S => ∃ a : Nat, ∃ b : Nat, mz = b - a ∧ (a ≤ m) ∧ (m ≤ b) ∧ (b ≤ n) ∧ E = env [(1, .pv (.clo f caps)), (5, .pv (i64 a)), (6, .pv (i64 b))] ∧ S = []) ⟨_, 0, n, rfl, (by first | omega | (intros; omega) | simp), (by first | omega | (intros; omega) | simp), (by first | omega | (intros; omega) | simp), rfl, rfl⟩ ?_
  rintro mz _ _ ⟨a, b, hmeas, g0, g1, g2, rfl, rfl⟩
  refine VS_seq ?_
  refine VS_seq ?_
  refine VS_r0 rfl ?_
  refine q_mv rfl ?_
  refine q_mv rfl ?_
  refine q_lss rfl rfl ?_
  refine rg_nil ?_
  refine VS_cond rfl (fun c0 => ?_) (fun c0 => ?_)
  · try simp at c0
    refine VS_skip ?_
    refine VS_block ?_
    refine VS_seq ?_
    refine VS_r0 rfl ?_
    refine q_mv rfl ?_
    refine q_mv rfl ?_
    refine q_add rfl rfl (inR64 (by omega)) ?_
    refine q_conv rfl (inR64u (by omega)) ?_
    refine q_shr rfl rfl ⟨by omega, by omega, by omega⟩ ?_
    have hmid : (((a : Int) + b) / 2 ^ (1 : Int).toNat) = ((a + b) / 2 : Nat) := by simp
    rw [hmid]
    refine q_conv rfl (inR64 (by omega)) ?_
    refine q_mv rfl ?_
    refine rg_nil ?_
    refine VS_seq ?_
    refine VS_r0 rfl ?_
    refine q_mv rfl ?_
    refine q_mv rfl ?_
    refine q_callvp rfl rfl hf (hq ((a + b) / 2) (by omega)) (show toPVs (.pv (i64 ((a + b) / 2 : Nat)) :: caps.map .pv) = _ by simp only [toPVs, hcp]; rfl) trivial ?_
    refine q_not rfl ?_
    refine rg_nil ?_
    refine VS_cond rfl (fun c1 => ?_) (fun c1 => ?_)
    · try simp at c1
      refine VS_r0 rfl ?_
      refine q_mv rfl ?_
      refine q_add rfl rfl (inR64 (by omega)) ?_
      refine q_mv rfl ?_
      refine rg_nil ?_
      refine Bd.keepL [(1, .pv (.clo f caps)), (5, .pv (i64 ((a + b) / 2 + 1))), (6, .pv (i64 b))] ⟨rfl, rfl, rfl, trivial⟩ ⟨_, ?_, (a + b) / 2 + 1, b, rfl, ?_, ?_, ?_, rfl, rfl⟩
      · first | omega | assumption | rfl | (simp; omega)
      · first | omega | assumption | rfl | (simp; omega)
      · first | omega | assumption | rfl | (simp; omega)
      · first | omega | assumption | rfl | (simp; omega)
    · try simp at c1
      refine VS_r0 rfl ?_
      refine q_mv rfl ?_
      refine q_mv rfl ?_
      refine rg_nil ?_
      refine Bd.keepL [(1, .pv (.clo f caps)), (5, .pv (i64 a)), (6, .pv (i64 ((a + b) / 2)))] ⟨rfl, rfl, rfl, trivial⟩ ⟨_, ?_, a, (a + b) / 2, rfl, ?_, ?_, ?_, rfl, rfl⟩
      · first | omega | assumption | rfl | (simp; omega)
      · first | omega | assumption | rfl | (simp; omega)
      · first | omega | assumption | rfl | (simp; omega)
      · first | omega | assumption | rfl | (simp; omega)
  · try simp at c0
    refine VS_exit ?_
    refine VS_seq ?_
    refine VS_r0 rfl ?_
    refine q_mv rfl ?_
    refine q_mv rfl ?_
    refine rg_nil ?_
    refine VS_ret ?_
    exact Bd.now ⟨_, rfl, congrArg (fun n : Nat => i64 n) (by omega)⟩
theorem c_impl_KeysUpTo (xs : List Int) (k : Int) (hl : xs.length ≤ 1000000000) : PCon prog 80 [ints xs, i64 k] (fun p => p = i64 (if goodKeys xs then (upTo xs k : Int) else -1)) := by
  refine con_of_VS sl_impl_KeysUpTo (by simp) ?_
  refine VS_seq ?_
  refine VS_r0 rfl ?_
  refine q_box rfl rfl rfl trivial ?_
  refine q_box rfl rfl rfl trivial ?_
  refine q_mv rfl ?_
  refine rg_nil ?_
  refine VS_bd (Bd.freezeL 0 [ints xs] [(3, .ptr 1 0 0), (2, .pv (.con (ints xs))), (4, .pv (i64 0))] rfl rfl ⟨rfl, rfl, rfl, trivial⟩ rfl ?_)
  refine VS_bd (Bd.freezeL 1 [i64 k] [(3, .pv (.con (i64 k))), (2, .pv (.con (ints xs))), (4, .pv (i64 0))] rfl rfl ⟨rfl, rfl, rfl, trivial⟩ rfl ?_)
  refine VS_seq ?_
  refine VS_seq ?_
  refine VS_r0 rfl ?_
  first | refine q_load_c rfl rfl rfl ?_ | refine q_load_r rfl rfl rfl rfl rfl rfl rfl ?_ | refine q_load_o rfl rfl rfl rfl rfl ?_
  refine q_callp (c_impl_ValidKeys xs hl) rfl trivial ?_
  refine q_not rfl ?_
  refine rg_nil ?_
  refine VS_cond rfl (fun c0 => ?_) (fun c0 => ?_)
  · try simp at c0
    refine VS_seq ?_
    refine VS_r0 rfl ?_
    refine q_mv rfl ?_
    refine rg_nil ?_
    refine VS_ret ?_
    exact Bd.now ⟨_, rfl, by simp [c0]⟩
  · try simp at c0
    refine VS_skip ?_
    refine VS_seq ?_
    refine VS_r0 rfl ?_
    first | refine q_load_c rfl rfl rfl ?_ | refine q_load_r rfl rfl rfl rfl rfl rfl rfl ?_ | refine q_load_o rfl rfl rfl rfl rfl ?_
    first | refine q_len_m rfl ?_ | refine q_len_s rfl ?_ | refine q_len_o rfl ?_ | refine q_len_n rfl ?_ | refine q_len_x rfl ?_
    refine q_mkf rfl rfl ?_
    refine q_callp (c_sort_Search _ [.con (ints xs), .con (i64 k)] xs.length (upTo xs k) (by kernel_rfl) rfl (fun i hi => (c_impl_KeysUpTo_1 xs k i hi).mono fun p e => e.trans (congrArg PV.bool (upTo_dec c0 hi))) (upTo_le _ _) hl) rfl trivial ?_
    refine q_mv rfl ?_
    refine rg_nil ?_
    refine VS_ret ?_
    exact Bd.now ⟨_, rfl, by simp [c0]⟩
theorem c_impl_KeysBelow (xs : List Int) (k : Int) (hl : xs.length ≤ 1000000000) : PCon prog 36 [ints xs, i64 k] (fun p => p = i64 (if goodKeys xs then (upTo xs (k - 1) : Int) else -1)) := by
  refine con_of_VS sl_impl_KeysBelow (by simp) ?_
  refine VS_seq ?_
  refine VS_r0 rfl ?_
  refine q_box rfl rfl rfl trivial ?_
  refine q_box rfl rfl rfl trivial ?_
  refine q_mv rfl ?_
  refine rg_nil ?_
  refine VS_bd (Bd.freezeL 0 [ints xs] [(3, .ptr 1 0 0), (2, .pv (.con (ints xs))), (4, .pv (i64 0))] rfl rfl ⟨rfl, rfl, rfl, trivial⟩ rfl ?_)
  refine VS_bd (Bd.freezeL 1 [i64 k] [(3, .pv (.con (i64 k))), (2, .pv (.con (ints xs))), (4, .pv (i64 0))] rfl rfl ⟨rfl, rfl, rfl, trivial⟩ rfl ?_)
  refine VS_seq ?_
  refine VS_seq ?_
  refine VS_r0 rfl ?_
  first | refine q_load_c rfl rfl rfl ?_ | refine q_load_r rfl rfl rfl rfl rfl rfl rfl ?_ | refine q_load_o rfl rfl rfl rfl rfl ?_
  refine q_callp (c_impl_ValidKeys xs hl) rfl trivial ?_
  refine q_not rfl ?_
  refine rg_nil ?_
  refine VS_cond rfl (fun c0 => ?_) (fun c0 => ?_)
  · try simp at c0
    refine VS_seq ?_
    refine VS_r0 rfl ?_
    refine q_mv rfl ?_
    refine rg_nil ?_
    refine VS_ret ?_
    exact Bd.now ⟨_, rfl, by simp [c0]⟩
  · try simp at c0
    refine VS_skip ?_
    refine VS_seq ?_
    refine VS_r0 rfl ?_
    first | refine q_load_c rfl rfl rfl ?_ | refine q_load_r rfl rfl rfl rfl rfl rfl rfl ?_ | refine q_load_o rfl rfl rfl rfl rfl ?_
    first | refine q_len_m rfl ?_ | refine q_len_s rfl ?_ | refine q_len_o rfl ?_ | refine q_len_n rfl ?_ | refine q_len_x rfl ?_
    refine q_mkf rfl rfl ?_
    refine q_callp (c_sort_Search _ [.con (ints xs), .con (i64 k)] xs.length (upTo xs (k - 1)) (by kernel_rfl) rfl (fun i hi => (c_impl_KeysBelow_1 xs k i hi).mono fun p e => e.trans (congrArg PV.bool (below_dec c0 hi))) (upTo_le _ _) hl) rfl trivial ?_
    refine q_mv rfl ?_
    refine rg_nil ?_
    refine VS_ret ?_
    exact Bd.now ⟨_, rfl, by simp [c0]⟩
theorem c_spec_validInner (ks cs : List Int) (hk : ks.length ≤ 1000000000) (hc : cs.length ≤ 1000000000) : PCon prog 52 [innP ks cs] (fun p => p = .bool (goodInner ks cs)) := by
  refine con_of_VS sl_spec_validInner (by simp) ?_
  refine VS_seq ?_
  refine VS_r0 rfl ?_
  refine q_box rfl rfl rfl trivial ?_
  refine q_mv rfl ?_
  refine rg_nil ?_
  refine VS_seq ?_
  refine VS_seq ?_
  refine VS_r0 rfl ?_
  refine q_mv rfl ?_
  refine rg_nil ?_
  refine VS_block ?_
  refine VS_bd (Bd.keepL [(1, .ptr 0 0 0), (2, .pv (.bool false)), (3, .pv (i64 0))] ⟨rfl, rfl, rfl, trivial⟩ ?_)
  refine VS_loop (fun mz E S => ∃ i : Nat, mz = cs.length - i ∧ (i ≤ cs.length) ∧ (∀ j, j < i → (cs.take j).contains (nth cs j) = false) ∧ E = env [(1, .ptr 0 0 0), (2, .pv (.bool false)), (3, .pv (i64 i))] ∧ S = [some ⟨25, 2, [.pv (innP ks cs)]⟩]) ⟨_, 0, rfl, (by first | omega | (intros; omega) | simp), (by first | omega | (intros; omega) | simp), rfl, rfl⟩ ?_
  rintro mz _ _ ⟨i, hmeas, g0, g2, rfl, rfl⟩
  refine VS_seq ?_
  refine VS_seq ?_
  refine VS_r0 rfl ?_
  refine q_mv rfl ?_
  first | refine q_fld_r rfl ?_ | refine q_fld_c rfl rfl ?_
  first | refine q_load_c rfl rfl rfl ?_ | refine q_load_r rfl rfl rfl rfl rfl rfl rfl ?_ | refine q_load_o rfl rfl rfl rfl rfl ?_
  first | refine q_len_m rfl ?_ | refine q_len_s rfl ?_ | refine q_len_o rfl ?_ | refine q_len_n rfl ?_ | refine q_len_x rfl ?_
  refine q_lss rfl rfl ?_
  refine rg_nil ?_
  refine VS_cond rfl (fun c0 => ?_) (fun c0 => ?_)
  · try simp at c0
    refine VS_skip ?_
    refine VS_seq ?_
    refine VS_block ?_
    refine VS_seq ?_
    refine VS_r2 _ hmix (Sub.refl _) ?_
    first | refine q_fld_r rfl ?_ | refine q_fld_c rfl rfl ?_
    first | refine q_load_c rfl rfl rfl ?_ | refine q_load_r rfl rfl rfl rfl rfl rfl rfl ?_ | refine q_load_o rfl rfl rfl rfl rfl ?_
    refine q_mv rfl ?_
    refine q_slc_m (xs := cs) (f := fun k => i64 k) 0 i rfl rfl rfl ⟨rfl, rfl, by omega, by omega⟩ (fun _ => rfl) ?_
    first | refine q_fld_r rfl ?_ | refine q_fld_c rfl rfl ?_
    first | refine q_load_c rfl rfl rfl ?_ | refine q_load_r rfl rfl rfl rfl rfl rfl rfl ?_ | refine q_load_o rfl rfl rfl rfl rfl ?_
    refine q_mv rfl ?_
    first | refine q_idx_c _ rfl rfl (by omega) (fun _ => rfl) ?_ | refine q_idx_m rfl rfl (by omega) (by omega) (fun _ => rfl) ?_ | refine q_idx_om rfl rfl (by omega) (by omega) rfl rfl ?_
    first | refine q_load_c rfl rfl rfl ?_ | refine q_load_r rfl rfl rfl rfl rfl rfl rfl ?_ | refine q_load_o rfl rfl rfl rfl rfl ?_
    refine q_last ?_
    refine q_callp (c_spec_isIn (cs.take i) (nth cs i) (by simp; omega)) rfl (by first | exact trivial | exact Sub.nil | exact Sub.refl _ | exact Sub.app _ _ | exact SubL.sub (by repeat (first | exact SubL.nil | apply SubL.none | apply SubL.some | apply SubL.sh | apply SubL.eq)) | (refine Sub.of_eq ?_; intro o ob h; rcases o with _ | _ | _ | _ | _ | o <;> simp_all)) ?_
    refine rg_nil ?_
    refine VS_cond rfl (fun c1 => ?_) (fun c1 => ?_)
    · try simp at c1
      refine VS_seq ?_
      refine VS_r0 rfl ?_
      refine q_mv rfl ?_
      refine rg_nil ?_
      refine VS_ret ?_
      exact Bd.now ⟨_, rfl, congrArg PV.bool (by simp [goodInner, nodup_false i c0 (by simpa using c1)])⟩
    · try simp at c1
      refine VS_skip ?_
      refine VS_r0 rfl ?_
      refine q_mv rfl ?_
      refine q_add rfl rfl (inR64 (by omega)) ?_
      refine q_mv rfl ?_
      refine rg_nil ?_
      refine Bd.keepL [(1, .ptr 0 0 0), (2, .pv (.bool false)), (3, .pv (i64 (i + 1)))] ⟨rfl, rfl, rfl, trivial⟩ ⟨_, ?_, i + 1, rfl, ?_, ?_, rfl, rfl⟩
      · first | omega | assumption | rfl | (simp; omega)
      · first | omega | assumption | rfl | (simp; omega)
      · intro j hj
        by_cases e : j = i
        · subst e; simpa using c1
        · exact g2 j (by omega)
  · try simp at c0
    refine VS_exit ?_
    refine VS_seq ?_
    refine VS_r0 rfl ?_
    have nd : nodupI cs = true := nodup_true fun j hj => g2 j (by omega)
    refine q_fld_r rfl ?_
    first | refine q_load_c rfl rfl rfl ?_ | refine q_load_r rfl rfl rfl rfl rfl rfl rfl ?_ | refine q_load_o rfl rfl rfl rfl rfl ?_
    refine q_callp (c_spec_validKeys ks hk) rfl trivial ?_
    refine q_mv rfl ?_
    refine q_b rfl (fun g24 => ?_) (fun g24 => ?_)
    · try simp at g24
      refine q_t rfl ?_
      first | refine q_fld_r rfl ?_ | refine q_fld_c rfl rfl ?_
      refine q_t rfl ?_
      first | refine q_load_c rfl rfl rfl ?_ | refine q_load_r rfl rfl rfl rfl rfl rfl rfl ?_ | refine q_load_o rfl rfl rfl rfl rfl ?_
      refine q_t rfl ?_
      first | refine q_len_m rfl ?_ | refine q_len_s rfl ?_ | refine q_len_o rfl ?_ | refine q_len_n rfl ?_ | refine q_len_x rfl ?_
      refine q_t rfl ?_
      refine q_callp (c_spec_inRange _ _ _) rfl trivial ?_
      refine q_pick_t rfl rfl ?_
      refine q_mv rfl ?_
      refine q_b rfl (fun g30 => ?_) (fun g30 => ?_)
      · try simp at g30
        refine q_t rfl ?_
        first | refine q_fld_r rfl ?_ | refine q_fld_c rfl rfl ?_
        refine q_t rfl ?_
        first | refine q_load_c rfl rfl rfl ?_ | refine q_load_r rfl rfl rfl rfl rfl rfl rfl ?_ | refine q_load_o rfl rfl rfl rfl rfl ?_
        refine q_t rfl ?_
        first | refine q_len_m rfl ?_ | refine q_len_s rfl ?_ | refine q_len_o rfl ?_ | refine q_len_n rfl ?_ | refine q_len_x rfl ?_
        refine q_t rfl ?_
        first | refine q_fld_r rfl ?_ | refine q_fld_c rfl rfl ?_
        refine q_t rfl ?_
        first | refine q_load_c rfl rfl rfl ?_ | refine q_load_r rfl rfl rfl rfl rfl rfl rfl ?_ | refine q_load_o rfl rfl rfl rfl rfl ?_
        refine q_t rfl ?_
        first | refine q_len_m rfl ?_ | refine q_len_s rfl ?_ | refine q_len_o rfl ?_ | refine q_len_n rfl ?_ | refine q_len_x rfl ?_
        refine q_t rfl ?_
        refine q_add rfl rfl (inR64 (by omega)) ?_
        refine q_t rfl ?_
        refine q_eql rfl rfl ?_
        refine q_pick_t rfl rfl ?_
        refine q_mv rfl ?_
        refine q_b rfl (fun g40 => ?_) (fun g40 => ?_)
        · try simp at g40
          refine q_t rfl ?_
          first | refine q_fld_r rfl ?_ | refine q_fld_c rfl rfl ?_
          refine q_t rfl ?_
          first | refine q_load_c rfl rfl rfl ?_ | refine q_load_r rfl rfl rfl rfl rfl rfl rfl ?_ | refine q_load_o rfl rfl rfl rfl rfl ?_
          refine q_t rfl ?_
          refine q_callp (c_spec_allIn cs _ _ hc) rfl trivial ?_
          refine q_pick_t rfl rfl ?_
          refine q_mv rfl ?_
          refine rg_nil ?_
          refine VS_ret ?_
          refine Bd.now ⟨_, rfl, congrArg PV.bool ?_⟩
          first | (simp [goodInner, nd, *]; done) | (simp [goodInner, nd, *]; intros; exfalso; omega) | (simp [goodInner, nd, *]; omega)
        · try simp at g40
          refine q_f rfl ?_
          refine q_f rfl ?_
          refine q_f rfl ?_
          refine q_pick_f rfl rfl ?_
          refine q_mv rfl ?_
          refine rg_nil ?_
          refine VS_ret ?_
          refine Bd.now ⟨_, rfl, congrArg PV.bool ?_⟩
          first | (simp [goodInner, nd, *]; done) | (simp [goodInner, nd, *]; intros; exfalso; omega) | (simp [goodInner, nd, *]; omega)
      · try simp at g30
        refine q_f rfl ?_
        refine q_f rfl ?_
        refine q_f rfl ?_
        refine q_f rfl ?_
        refine q_f rfl ?_
        refine q_f rfl ?_
        refine q_f rfl ?_
        refine q_f rfl ?_
        refine q_pick_f rfl rfl ?_
        refine q_mv rfl ?_
        refine q_f rfl ?_
        refine q_f rfl ?_
        refine q_f rfl ?_
        refine q_pick_f rfl rfl ?_
        refine q_mv rfl ?_
        refine rg_nil ?_
        refine VS_ret ?_
        refine Bd.now ⟨_, rfl, congrArg PV.bool ?_⟩
        first | (simp [goodInner, nd, *]; done) | (simp [goodInner, nd, *]; intros; exfalso; omega) | (simp [goodInner, nd, *]; omega)
    · try simp at g24
      refine q_f rfl ?_
      refine q_f rfl ?_
      refine q_f rfl ?_
      refine q_f rfl ?_
      refine q_pick_f rfl rfl ?_
      refine q_mv rfl ?_
      refine q_f rfl ?_
      refine q_f rfl ?_
      refine q_f rfl ?_
      refine q_f rfl ?_
      refine q_f rfl ?_
      refine q_f rfl ?_
      refine q_f rfl ?_
      refine q_f rfl ?_
      refine q_pick_f rfl rfl ?_
      refine q_mv rfl ?_
      refine q_f rfl ?_
      refine q_f rfl ?_
      refine q_f rfl ?_
      refine q_pick_f rfl rfl ?_
      refine q_mv rfl ?_
      refine rg_nil ?_
      refine VS_ret ?_
      refine Bd.now ⟨_, rfl, congrArg PV.bool ?_⟩
      first | (simp [goodInner, nd, *]; done) | (simp [goodInner, nd, *]; intros; exfalso; omega) | (simp [goodInner, nd, *]; omega)
theorem c_impl_ValidInner (ks cs : List Int) (hk : ks.length ≤ 1000000000) (hc : cs.length ≤ 1000000000) : PCon prog 20 [innP ks cs] (fun p => p = .bool (goodInner ks cs)) := by
  refine con_of_VS sl_impl_ValidInner (by simp) ?_
  refine VS_seq ?_
  refine VS_r0 rfl ?_
  refine q_box rfl rfl rfl trivial ?_
  refine q_mv rfl ?_
  refine rg_nil ?_
  refine VS_seq ?_
  refine VS_seq ?_
  refine VS_r0 rfl ?_
  first | refine q_fld_r rfl ?_ | refine q_fld_c rfl rfl ?_
  first | refine q_load_c rfl rfl rfl ?_ | refine q_load_r rfl rfl rfl rfl rfl rfl rfl ?_ | refine q_load_o rfl rfl rfl rfl rfl ?_
  first | refine q_len_m rfl ?_ | refine q_len_s rfl ?_ | refine q_len_o rfl ?_ | refine q_len_n rfl ?_ | refine q_len_x rfl ?_
  refine q_lss rfl rfl ?_
  refine q_mv rfl ?_
  refine q_b rfl (fun g10 => ?_) (fun g10 => ?_)
  · try simp at g10
    refine q_t rfl ?_
    first | refine q_fld_r rfl ?_ | refine q_fld_c rfl rfl ?_
    refine q_t rfl ?_
    first | refine q_load_c rfl rfl rfl ?_ | refine q_load_r rfl rfl rfl rfl rfl rfl rfl ?_ | refine q_load_o rfl rfl rfl rfl rfl ?_
    refine q_t rfl ?_
    first | refine q_len_m rfl ?_ | refine q_len_s rfl ?_ | refine q_len_o rfl ?_ | refine q_len_n rfl ?_ | refine q_len_x rfl ?_
    refine q_t rfl ?_
    refine q_gtr rfl rfl ?_
    refine q_pick_f rfl rfl ?_
    refine q_mv rfl ?_
    refine q_b rfl (fun g16 => ?_) (fun g16 => ?_)
    · try simp at g16
      refine q_t rfl ?_
      first | refine q_fld_r rfl ?_ | refine q_fld_c rfl rfl ?_
      refine q_t rfl ?_
      first | refine q_load_c rfl rfl rfl ?_ | refine q_load_r rfl rfl rfl rfl rfl rfl rfl ?_ | refine q_load_o rfl rfl rfl rfl rfl ?_
      refine q_t rfl ?_
      refine q_callp (c_impl_ValidKeys ks hk) rfl trivial ?_
      refine q_t rfl ?_
      refine q_not rfl ?_
      refine q_pick_f rfl rfl ?_
      refine rg_nil ?_
      refine VS_cond rfl (fun c0 => ?_) (fun c0 => ?_)
      · try simp at c0
        refine VS_seq ?_
        refine VS_r0 rfl ?_
        refine q_mv rfl ?_
        refine rg_nil ?_
        refine VS_ret ?_
        refine Bd.now ⟨_, rfl, congrArg PV.bool ?_⟩
        first | (simp [goodInner, *]; done) | (simp [goodInner]; intros; exfalso; omega)
      · try simp at c0
        refine VS_skip ?_
        refine VS_seq ?_
        refine VS_seq ?_
        refine VS_r0 rfl ?_
        first | refine q_fld_r rfl ?_ | refine q_fld_c rfl rfl ?_
        first | refine q_load_c rfl rfl rfl ?_ | refine q_load_r rfl rfl rfl rfl rfl rfl rfl ?_ | refine q_load_o rfl rfl rfl rfl rfl ?_
        first | refine q_len_m rfl ?_ | refine q_len_s rfl ?_ | refine q_len_o rfl ?_ | refine q_len_n rfl ?_ | refine q_len_x rfl ?_
        first | refine q_fld_r rfl ?_ | refine q_fld_c rfl rfl ?_
        first | refine q_load_c rfl rfl rfl ?_ | refine q_load_r rfl rfl rfl rfl rfl rfl rfl ?_ | refine q_load_o rfl rfl rfl rfl rfl ?_
        first | refine q_len_m rfl ?_ | refine q_len_s rfl ?_ | refine q_len_o rfl ?_ | refine q_len_n rfl ?_ | refine q_len_x rfl ?_
        refine q_add rfl rfl (inR64 (by omega)) ?_
        refine q_neq rfl rfl ?_
        refine rg_nil ?_
        refine VS_cond rfl (fun c1 => ?_) (fun c1 => ?_)
        · try simp at c1
          refine VS_seq ?_
          refine VS_r0 rfl ?_
          refine q_mv rfl ?_
          refine rg_nil ?_
          refine VS_ret ?_
          refine Bd.now ⟨_, rfl, congrArg PV.bool ?_⟩
          simp [goodInner, c1]
        · try simp at c1
          refine VS_skip ?_
          refine VS_seq ?_
          refine VS_r0 rfl ?_
          refine q_alloc trivial ?_
          refine rg_nil ?_
          refine VS_seq ?_
          refine VS_seq ?_
          refine VS_r0 rfl ?_
          first | refine q_fld_r rfl ?_ | refine q_fld_c rfl rfl ?_
          first | refine q_load_c rfl rfl rfl ?_ | refine q_load_r rfl rfl rfl rfl rfl rfl rfl ?_ | refine q_load_o rfl rfl rfl rfl rfl ?_
          first | refine q_len_m rfl ?_ | refine q_len_s rfl ?_ | refine q_len_o rfl ?_ | refine q_len_n rfl ?_ | refine q_len_x rfl ?_
          refine q_mv rfl ?_
          refine rg_nil ?_
          refine VS_block ?_
          refine VS_bd (Bd.keepL [(1, .ptr 0 0 0), (2, .pv (.bool false)), (3, .ptr 1 0 0), (31, .pv (ints cs)), (32, .pv (i64 cs.length)), (33, .pv (i64 0))] ⟨rfl, rfl, rfl, rfl, rfl, rfl, trivial⟩ ?_)
          refine VS_loop (fun mz E S => ∃ i : Nat, mz = cs.length - i ∧ (i ≤ cs.length) ∧ (∀ j, j < i → (0 ≤ nth cs j ∧ nth cs j ≤ 15) ∧ (cs.take j).contains (nth cs j) = false) ∧ E = env [(1, .ptr 0 0 0), (2, .pv (.bool false)), (3, .ptr 1 0 0), (31, .pv (ints cs)), (32, .pv (i64 cs.length)), (33, .pv (i64 i))] ∧ S = [some ⟨25, 2, [.pv (innP ks cs)]⟩, some ⟨70, 16, [.agg (boolsD 16 fun v => (cs.take i).contains (v : Int))]⟩]) ⟨_, 0, rfl, (by first | omega | (intros; omega) | simp), (by first | omega | (intros; omega) | simp), rfl, rfl⟩ ?_
          rintro mz _ _ ⟨i, hmeas, g0, g2, rfl, rfl⟩
          refine VS_seq ?_
          refine VS_r0 rfl ?_
          refine q_lss rfl rfl ?_
          refine rg_nil ?_
          refine VS_seq ?_
          refine VS_cond rfl (fun c2 => ?_) (fun c2 => ?_)
          · try simp at c2
            refine VS_skip ?_
            refine VS_seq ?_
            refine VS_block ?_
            refine VS_seq ?_
            refine VS_r0 rfl ?_
            refine q_idx_m rfl rfl (by omega) (by omega) (fun _ => rfl) ?_
            simp only [Int.toNat_natCast]
            first | refine q_load_c rfl rfl rfl ?_ | refine q_load_r rfl rfl rfl rfl rfl rfl rfl ?_ | refine q_load_o rfl rfl rfl rfl rfl ?_
            refine q_mv rfl ?_
            refine rg_nil ?_
            refine VS_seq ?_
            refine VS_seq ?_
            refine VS_r0 rfl ?_
            refine q_mv rfl ?_
            refine q_lss rfl rfl ?_
            refine q_mv rfl ?_
            refine q_b rfl (fun g39 => ?_) (fun g39 => ?_)
            · try simp at g39
              refine q_t rfl ?_
              refine q_mv rfl ?_
              refine q_t rfl ?_
              refine q_geq rfl rfl ?_
              refine q_pick_f rfl rfl ?_
              refine q_mv rfl ?_
              refine q_b rfl (fun g43 => ?_) (fun g43 => ?_)
              · try simp at g43
                refine q_t rfl ?_
                refine q_mv rfl ?_
                refine q_t rfl ?_
                first | refine q_aidx_r rfl rfl ⟨by omega, by omega⟩ ?_ | refine q_aidx_c rfl rfl ⟨by omega, by omega, rfl⟩ ?_ ?_
                refine q_t rfl ?_
                refine q_load_r (d := .pv (.bool ((cs.take i).contains (((nth cs i).toNat : Nat) : Int)))) rfl rfl rfl rfl rfl ?_ rfl ?_
                · rw [show 0 + (nth cs i).toNat * 1 = (nth cs i).toNat by omega]; exact boolsD_get (f := fun v : Nat => (cs.take i).contains (v : Int)) (by omega)
                refine q_pick_f rfl rfl ?_
                refine rg_nil ?_
                refine VS_cond rfl (fun c3 => ?_) (fun c3 => ?_)
                · try simp at c3
                  refine VS_seq ?_
                  refine VS_r0 rfl ?_
                  refine q_mv rfl ?_
                  refine rg_nil ?_
                  refine VS_ret ?_
                  refine Bd.now ⟨_, rfl, congrArg PV.bool ?_⟩
                  first | (simp [goodInner, all_false (q := fun k => decide (0 ≤ k) && decide (k ≤ 15)) i c2 (by simp; omega)]; done) | (have e2 : max (nth cs i) 0 = nth cs i := (by omega); rw [e2] at c3; simp [goodInner, nodup_false i c2 (by simpa using c3)])
                · try simp at c3
                  refine VS_skip ?_
                  refine VS_r0 rfl ?_
                  refine q_mv rfl ?_
                  first | refine q_aidx_r rfl rfl ⟨by omega, by omega⟩ ?_ | refine q_aidx_c rfl rfl ⟨by omega, by omega, rfl⟩ ?_ ?_
                  refine q_store (z := .agg (boolsD 16 fun v => if v = (nth cs i).toNat then true else (cs.take i).contains (v : Int))) rfl rfl rfl rfl rfl rfl ⟨rfl, rfl, ?_, rfl, ?_⟩ ?_ trivial ?_
                  · show _ ≤ 16
                    omega
                  · intro h; cases h
                  · rw [show 0 + (nth cs i).toNat * 1 = (nth cs i).toNat by omega]
                    exact congrArg D.agg (boolsD_set (by omega))
                  refine rg_nil ?_
                  refine VS_r0 rfl ?_
                  refine q_add rfl rfl (inR64 (by omega)) ?_
                  refine q_mv rfl ?_
                  refine rg_nil ?_
                  refine Bd.keepL [(1, .ptr 0 0 0), (2, .pv (.bool false)), (3, .ptr 1 0 0), (31, .pv (ints cs)), (32, .pv (i64 cs.length)), (33, .pv (i64 (i + 1)))] ⟨rfl, rfl, rfl, rfl, rfl, rfl, trivial⟩ ⟨_, ?_, i + 1, rfl, ?_, ?_, rfl, (congrArg (fun f : Nat → Bool => ([some (⟨25, 2, [.pv (innP ks cs)]⟩ : Ob), some (⟨70, 16, [.agg (boolsD 16 f)]⟩ : Ob)] : Store)) (seen_step (by omega) (by omega)))⟩
                  · first | omega | assumption | rfl | (simp; omega)
                  · first | omega | assumption | rfl | (simp; omega)
                  · intro j hj
                    by_cases e : j = i
                    · subst e
                      have e2 : max (nth cs j) 0 = nth cs j := by omega
                      rw [e2] at c3
                      exact ⟨by omega, by simpa using c3⟩
                    · exact g2 j (by omega)
              · try simp at g43
                refine q_f rfl ?_
                refine q_f rfl ?_
                refine q_f rfl ?_
                refine q_pick_t rfl rfl ?_
                refine rg_nil ?_
                refine VS_cond rfl (fun _ => ?_) (fun e => by cases e)
                refine VS_seq ?_
                refine VS_r0 rfl ?_
                refine q_mv rfl ?_
                refine rg_nil ?_
                refine VS_ret ?_
                refine Bd.now ⟨_, rfl, congrArg PV.bool ?_⟩
                first | (simp [goodInner, all_false (q := fun k => decide (0 ≤ k) && decide (k ≤ 15)) i c2 (by simp; omega)]; done) | (have e2 : max (nth cs i) 0 = nth cs i := (by omega); rw [e2] at c3; simp [goodInner, nodup_false i c2 (by simpa using c3)])
            · try simp at g39
              refine q_f rfl ?_
              refine q_f rfl ?_
              refine q_pick_t rfl rfl ?_
              refine q_mv rfl ?_
              refine q_f rfl ?_
              refine q_f rfl ?_
              refine q_f rfl ?_
              refine q_pick_t rfl rfl ?_
              refine rg_nil ?_
              refine VS_cond rfl (fun _ => ?_) (fun e => by cases e)
              refine VS_seq ?_
              refine VS_r0 rfl ?_
              refine q_mv rfl ?_
              refine rg_nil ?_
              refine VS_ret ?_
              refine Bd.now ⟨_, rfl, congrArg PV.bool ?_⟩
              first | (simp [goodInner, all_false (q := fun k => decide (0 ≤ k) && decide (k ≤ 15)) i c2 (by simp; omega)]; done) | (have e2 : max (nth cs i) 0 = nth cs i := (by omega); rw [e2] at c3; simp [goodInner, nodup_false i c2 (by simpa using c3)])
          · try simp at c2
            refine VS_exit ?_
            refine VS_seq ?_
            refine VS_r0 rfl ?_
            refine q_mv rfl ?_
            refine rg_nil ?_
            refine VS_ret ?_
            refine Bd.now ⟨_, rfl, congrArg PV.bool ?_⟩
            have e1 := nodup_true (xs := cs) fun j hj => (g2 j (by omega)).2
            have e2 := all_true (xs := cs) (q := fun k => decide (0 ≤ k) && decide (k ≤ 15)) fun j hj => by have := (g2 j (by omega)).1; simp; omega
            simp only [goodInner, e1, e2, c0]
            simp
            omega
    · try simp at g16
      refine q_f rfl ?_
      refine q_f rfl ?_
      refine q_f rfl ?_
      refine q_f rfl ?_
      refine q_pick_t rfl rfl ?_
      refine rg_nil ?_
      refine VS_cond rfl (fun _ => ?_) (fun e => by cases e)
      refine VS_seq ?_
      refine VS_r0 rfl ?_
      refine q_mv rfl ?_
      refine rg_nil ?_
      refine VS_ret ?_
      refine Bd.now ⟨_, rfl, congrArg PV.bool ?_⟩
      first | (simp [goodInner, *]; done) | (simp [goodInner]; intros; exfalso; omega)
  · try simp at g10
    refine q_f rfl ?_
    refine q_f rfl ?_
    refine q_f rfl ?_
    refine q_f rfl ?_
    refine q_pick_t rfl rfl ?_
    refine q_mv rfl ?_
    refine q_f rfl ?_
    refine q_f rfl ?_
    refine q_f rfl ?_
    refine q_f rfl ?_
    refine q_pick_t rfl rfl ?_
    refine rg_nil ?_
    refine VS_cond rfl (fun _ => ?_) (fun e => by cases e)
    refine VS_seq ?_
    refine VS_r0 rfl ?_
    refine q_mv rfl ?_
    refine rg_nil ?_
    refine VS_ret ?_
    refine Bd.now ⟨_, rfl, congrArg PV.bool ?_⟩
    first | (simp [goodInner, *]; done) | (simp [goodInner]; intros; exfalso; omega)
theorem c_impl_RouteKey (ks cs : List Int) (k : Int) (hk : ks.length ≤ 1000000000) (hc : cs.length ≤ 1000000000) : PCon prog 45 [innP ks cs, i64 k] (fun p => p = i64 (if goodInner ks cs then nth cs (upTo ks k) else -1)) := by
  refine con_of_VS sl_impl_RouteKey (by simp) ?_
  refine VS_seq ?_
  refine VS_r0 rfl ?_
  refine q_box rfl rfl rfl trivial ?_
  refine q_mv rfl ?_
  refine rg_nil ?_
  refine VS_seq ?_
  refine VS_seq ?_
  refine VS_r0 rfl ?_
  first | refine q_load_c rfl rfl rfl ?_ | refine q_load_ra rfl rfl rfl rfl rfl (by first | (simp; done) | (simp [setAt]; done)) rfl ?_
  refine q_callp (c_impl_ValidInner ks cs hk hc) rfl trivial ?_
  refine q_not rfl ?_
  refine rg_nil ?_
  refine VS_cond rfl (fun c0 => ?_) (fun c0 => ?_)
  · try simp at c0
    refine VS_seq ?_
    refine VS_r0 rfl ?_
    refine q_mv rfl ?_
    refine rg_nil ?_
    refine VS_ret ?_
    exact Bd.now ⟨_, rfl, by simp [c0, goodInner_keys]⟩
  · try simp at c0
    refine VS_skip ?_
    refine VS_seq ?_
    refine VS_r2 _ hmix (Sub.refl _) ?_
    first | refine q_fld_r rfl ?_ | refine q_fld_c rfl rfl ?_
    first | refine q_load_c rfl rfl rfl ?_ | refine q_load_r rfl rfl rfl rfl rfl rfl rfl ?_ | refine q_load_o rfl rfl rfl rfl rfl ?_
    first | refine q_fld_r rfl ?_ | refine q_fld_c rfl rfl ?_
    first | refine q_load_c rfl rfl rfl ?_ | refine q_load_r rfl rfl rfl rfl rfl rfl rfl ?_ | refine q_load_o rfl rfl rfl rfl rfl ?_
    refine q_mv rfl ?_
    refine q_callp (c_impl_KeysUpTo ks k hk) rfl (by first | exact trivial | exact Sub.nil | exact Sub.refl _ | exact Sub.app _ _ | exact SubL.sub (by repeat (first | exact SubL.nil | apply SubL.none | apply SubL.some | apply SubL.sh | apply SubL.eq)) | (refine Sub.of_eq ?_; intro o ob h; rcases o with _ | _ | _ | _ | _ | o <;> simp_all)) ?_
    have l1 := goodInner_len c0
    have l2 := upTo_le ks k
    have l3 := goodInner_keys c0
    rw [if_pos l3]
    refine q_idx_m rfl rfl (by omega) (by omega) (fun _ => rfl) ?_
    first | refine q_load_c rfl rfl rfl ?_ | refine q_load_r rfl rfl rfl rfl rfl rfl rfl ?_ | refine q_load_o rfl rfl rfl rfl rfl ?_
    refine q_mv rfl ?_
    refine rg_nil ?_
    refine VS_ret ?_
    exact Bd.now ⟨_, rfl, by simp [c0, goodInner_keys]⟩
end Go.V

set_option maxHeartbeats 4000000
namespace Go.V
open Go.Proofs.Try (prog)
theorem c_spec_copyInts (xs : List Int) (hl : xs.length ≤ 1000000000) : NewS prog 61 3 1 [ints xs] (dI xs) := by
  refine callS_of_VS sl_spec_copyInts (by simp) ?_
  refine VS_seq ?_
  refine VS_r0 rfl ?_
  refine q_mv rfl ?_
  refine rg_nil ?_
  refine VS_seq ?_
  refine VS_r0 rfl ?_
  refine q_lit0 ?_
  refine q_mv rfl ?_
  refine q_app_zm (ys := xs) (f := fun k => .pv (i64 k)) rfl (elems_I xs) (cell_I xs) ⟨by omega, by omega⟩ trivial ?_
  refine q_mv rfl ?_
  refine rg_nil ?_
  refine VS_ret ?_
  exact Bd.now ⟨ownD 0 (dI xs), by cases xs <;> rfl, rfl, rfl⟩
theorem c_spec_reader_pick (bs : List Int) (hb : isU8 bs) (hbl : bs.length ≤ 2000) (p : Int) (hp : 0 ≤ p) (n : Int) (hp2 : p ≤ 1000000000000) (hn : n ≤ 1000000000000) : RdS prog 56 90 bs p [i64 n] (fun x q => ∃ v : Int, x = i64 v ∧ (0 ≤ v ∧ (v < n ∨ v = 0)) ∧ q = p + 1) := by
  refine callS_of_VS sl_spec_reader_pick (by simp) ?_
  refine VS_seq ?_
  refine VS_r0 rfl ?_
  refine q_mv rfl ?_
  refine rg_nil ?_
  refine VS_seq ?_
  refine VS_r0 rfl ?_
  refine q_mv rfl ?_
  refine q_mv rfl ?_
  first | refine q_nilc_r rfl ?_ | refine q_nilc_c rfl ?_
  first | refine q_fld_r rfl ?_ | refine q_fld_c rfl rfl ?_
  first | refine q_load_c rfl rfl rfl ?_ | refine q_load_r rfl rfl rfl rfl rfl rfl rfl ?_ | refine q_load_o rfl rfl rfl rfl rfl ?_
  refine q_add rfl rfl (inR64 (by omega)) ?_
  first | refine q_nilc_r rfl ?_ | refine q_nilc_c rfl ?_
  first | refine q_fld_r rfl ?_ | refine q_fld_c rfl rfl ?_
  refine q_store rfl rfl rfl rfl rfl rfl ⟨rfl, rfl, Nat.le_refl 2, rfl, by simp [isOne]⟩ rfl trivial ?_
  refine rg_nil ?_
  refine VS_st [some (rdr 90 bs (p + 1))] rfl ?_
  refine VS_seq ?_
  refine VS_seq ?_
  refine VS_r0 rfl ?_
  refine q_mv rfl ?_
  refine q_lss rfl rfl ?_
  refine q_mv rfl ?_
  refine q_b rfl (fun g17 => ?_) (fun g17 => ?_)
  · try simp at g17
    refine q_t rfl ?_
    refine q_mv rfl ?_
    refine q_t rfl ?_
    first | refine q_nilc_r rfl ?_ | refine q_nilc_c rfl ?_
    refine q_t rfl ?_
    first | refine q_fld_r rfl ?_ | refine q_fld_c rfl rfl ?_
    refine q_t rfl ?_
    first | refine q_load_c rfl rfl rfl ?_ | refine q_load_r rfl rfl rfl rfl rfl rfl rfl ?_ | refine q_load_o rfl rfl rfl rfl rfl ?_
    refine q_t rfl ?_
    first | refine q_len_m rfl ?_ | refine q_len_s rfl ?_ | refine q_len_o rfl ?_ | refine q_len_n rfl ?_ | refine q_len_x rfl ?_
    refine q_t rfl ?_
    refine q_eql rfl rfl ?_
    refine q_pick_f rfl rfl ?_
    refine rg_nil ?_
    refine VS_cond rfl (fun c0 => ?_) (fun c0 => ?_)
    · try simp at c0
      refine VS_seq ?_
      refine VS_r0 rfl ?_
      refine q_mv rfl ?_
      refine rg_nil ?_
      refine VS_ret ?_
      exact Bd.now ⟨_, rfl, _, _, _, rfl, ⟨0, rfl, ⟨Int.le_refl _, .inr rfl⟩, rfl⟩, rfl⟩
    · try simp at c0
      refine VS_skip ?_
      refine VS_seq ?_
      refine VS_r0 rfl ?_
      refine q_mv rfl ?_
      first | refine q_nilc_r rfl ?_ | refine q_nilc_c rfl ?_
      first | refine q_fld_r rfl ?_ | refine q_fld_c rfl rfl ?_
      first | refine q_load_c rfl rfl rfl ?_ | refine q_load_r rfl rfl rfl rfl rfl rfl rfl ?_ | refine q_load_o rfl rfl rfl rfl rfl ?_
      refine q_sub rfl rfl (inR64 (by omega)) ?_
      rw [show p + 1 - 1 = p by omega]
      refine q_mv rfl ?_
      refine rg_nil ?_
      refine VS_seq ?_
      refine VS_seq ?_
      refine VS_r0 rfl ?_
      refine q_mv rfl ?_
      refine q_mv rfl ?_
      first | refine q_nilc_r rfl ?_ | refine q_nilc_c rfl ?_
      first | refine q_fld_r rfl ?_ | refine q_fld_c rfl rfl ?_
      first | refine q_load_c rfl rfl rfl ?_ | refine q_load_r rfl rfl rfl rfl rfl rfl rfl ?_ | refine q_load_o rfl rfl rfl rfl rfl ?_
      first | refine q_len_m rfl ?_ | refine q_len_s rfl ?_ | refine q_len_o rfl ?_ | refine q_len_n rfl ?_ | refine q_len_x rfl ?_
      refine q_lss rfl rfl ?_
      refine rg_nil ?_
      refine VS_cond rfl (fun c1 => ?_) (fun c1 => ?_)
      · try simp at c1
        refine VS_seq ?_
        refine VS_r0 rfl ?_
        have q0 := hb.nth (i := p.toNat) (by omega)
        refine q_mv rfl ?_
        first | refine q_nilc_r rfl ?_ | refine q_nilc_c rfl ?_
        first | refine q_fld_r rfl ?_ | refine q_fld_c rfl rfl ?_
        first | refine q_load_c rfl rfl rfl ?_ | refine q_load_r rfl rfl rfl rfl rfl rfl rfl ?_ | refine q_load_o rfl rfl rfl rfl rfl ?_
        refine q_mv rfl ?_
        first | refine q_idx_c _ rfl rfl (by omega) (fun _ => rfl) ?_ | refine q_idx_m rfl rfl (by omega) (by omega) (fun _ => rfl) ?_ | refine q_idx_om rfl rfl (by omega) (by omega) rfl rfl ?_
        first | refine q_load_c rfl rfl rfl ?_ | refine q_load_r rfl rfl rfl rfl rfl rfl rfl ?_ | refine q_load_o rfl rfl rfl rfl rfl ?_
        refine q_conv rfl (inR64 (by omega)) ?_
        refine q_mv rfl ?_
        refine q_rem rfl rfl ⟨by omega, by omega⟩ ?_
        refine q_mv rfl ?_
        refine rg_nil ?_
        refine VS_ret ?_
        exact Bd.now ⟨_, rfl, _, _, _, rfl, ⟨_, rfl, ⟨Int.emod_nonneg _ (by omega), .inl (Int.emod_lt_of_pos _ (by omega))⟩, rfl⟩, rfl⟩
      · try simp at c1
        refine VS_skip ?_
        refine VS_seq ?_
        refine VS_r1 hmix rfl ?_
        have hpos : (0 : Int) < bs.length := by have := List.length_pos_iff.2 (show bs ≠ [] by assumption); omega
        have e1 := Int.emod_nonneg p (show (bs.length : Int) ≠ 0 by omega)
        have e2 := Int.emod_lt_of_pos p hpos
        have e3 := Int.emod_nonneg (p * 7 + 3) (show (bs.length : Int) ≠ 0 by omega)
        have e4 := Int.emod_lt_of_pos (p * 7 + 3) hpos
        have q1 := hb.nth (i := (p % bs.length).toNat) (by omega)
        have q2 := hb.nth (i := ((p * 7 + 3) % bs.length).toNat) (by omega)
        have e5 : 0 ≤ p / (bs.length : Int) := Int.ediv_nonneg hp (by omega)
        have e6 : p / (bs.length : Int) ≤ p := Int.ediv_le_self _ hp
        refine q_mv rfl ?_
        first | refine q_nilc_r rfl ?_ | refine q_nilc_c rfl ?_
        first | refine q_fld_r rfl ?_ | refine q_fld_c rfl rfl ?_
        first | refine q_load_c rfl rfl rfl ?_ | refine q_load_r rfl rfl rfl rfl rfl rfl rfl ?_ | refine q_load_o rfl rfl rfl rfl rfl ?_
        refine q_mv rfl ?_
        refine q_mv rfl ?_
        first | refine q_nilc_r rfl ?_ | refine q_nilc_c rfl ?_
        first | refine q_fld_r rfl ?_ | refine q_fld_c rfl rfl ?_
        first | refine q_load_c rfl rfl rfl ?_ | refine q_load_r rfl rfl rfl rfl rfl rfl rfl ?_ | refine q_load_o rfl rfl rfl rfl rfl ?_
        first | refine q_len_m rfl ?_ | refine q_len_s rfl ?_ | refine q_len_o rfl ?_ | refine q_len_n rfl ?_ | refine q_len_x rfl ?_
        refine q_rem rfl rfl ⟨by omega, by omega⟩ ?_
        first | refine q_idx_c _ rfl rfl (by omega) (fun _ => rfl) ?_ | refine q_idx_m rfl rfl (by omega) (by omega) (fun _ => rfl) ?_ | refine q_idx_om rfl rfl (by omega) (by omega) rfl rfl ?_
        first | refine q_load_c rfl rfl rfl ?_ | refine q_load_r rfl rfl rfl rfl rfl rfl rfl ?_ | refine q_load_o rfl rfl rfl rfl rfl ?_
        refine q_conv rfl (inR64 (by omega)) ?_
        refine q_mul rfl rfl (inR64 (by omega)) ?_
        refine q_mv rfl ?_
        first | refine q_nilc_r rfl ?_ | refine q_nilc_c rfl ?_
        first | refine q_fld_r rfl ?_ | refine q_fld_c rfl rfl ?_
        first | refine q_load_c rfl rfl rfl ?_ | refine q_load_r rfl rfl rfl rfl rfl rfl rfl ?_ | refine q_load_o rfl rfl rfl rfl rfl ?_
        refine q_mv rfl ?_
        refine q_mul rfl rfl (inR64 (by omega)) ?_
        refine q_add rfl rfl (inR64 (by omega)) ?_
        refine q_mv rfl ?_
        first | refine q_nilc_r rfl ?_ | refine q_nilc_c rfl ?_
        first | refine q_fld_r rfl ?_ | refine q_fld_c rfl rfl ?_
        first | refine q_load_c rfl rfl rfl ?_ | refine q_load_r rfl rfl rfl rfl rfl rfl rfl ?_ | refine q_load_o rfl rfl rfl rfl rfl ?_
        first | refine q_len_m rfl ?_ | refine q_len_s rfl ?_ | refine q_len_o rfl ?_ | refine q_len_n rfl ?_ | refine q_len_x rfl ?_
        refine q_rem rfl rfl ⟨by omega, by omega⟩ ?_
        first | refine q_idx_c _ rfl rfl (by omega) (fun _ => rfl) ?_ | refine q_idx_m rfl rfl (by omega) (by omega) (fun _ => rfl) ?_ | refine q_idx_om rfl rfl (by omega) (by omega) rfl rfl ?_
        first | refine q_load_c rfl rfl rfl ?_ | refine q_load_r rfl rfl rfl rfl rfl rfl rfl ?_ | refine q_load_o rfl rfl rfl rfl rfl ?_
        refine q_conv rfl (inR64 (by omega)) ?_
        refine q_mul rfl rfl (inR64 (by omega)) ?_
        refine q_add rfl rfl (inR64 (by omega)) ?_
        refine q_mv rfl ?_
        refine q_mul rfl rfl (inR64 (by omega)) ?_
        refine q_add rfl rfl (inR64 (by omega)) ?_
        refine q_mv rfl ?_
        refine q_mv rfl ?_
        first | refine q_nilc_r rfl ?_ | refine q_nilc_c rfl ?_
        first | refine q_fld_r rfl ?_ | refine q_fld_c rfl rfl ?_
        first | refine q_load_c rfl rfl rfl ?_ | refine q_load_r rfl rfl rfl rfl rfl rfl rfl ?_ | refine q_load_o rfl rfl rfl rfl rfl ?_
        first | refine q_len_m rfl ?_ | refine q_len_s rfl ?_ | refine q_len_o rfl ?_ | refine q_len_n rfl ?_ | refine q_len_x rfl ?_
        refine q_quo rfl rfl ⟨by omega, by omega, inR64 (by omega)⟩ ?_
        refine q_mul rfl rfl (inR64 (by omega)) ?_
        refine q_add rfl rfl (inR64 (by omega)) ?_
        refine q_mv rfl ?_
        refine rg_nil ?_
        refine VS_seq ?_
        refine VS_r0 rfl ?_
        refine q_mv rfl ?_
        refine q_mv rfl ?_
        refine q_quo rfl rfl ⟨by omega, by omega, inR64 (by omega)⟩ ?_
        refine q_xor rfl rfl ⟨by omega, by omega, (inR64 (by omega)).2, (inR64 (by omega)).2⟩ ?_
        refine q_mv rfl ?_
        refine rg_nil ?_
        refine VS_seq ?_
        refine VS_r0 rfl ?_
        refine q_mv rfl ?_
        refine q_mv rfl ?_
        refine q_rem rfl rfl ⟨by omega, by omega⟩ ?_
        refine q_mv rfl ?_
        refine rg_nil ?_
        refine VS_ret ?_
        exact Bd.now ⟨_, rfl, _, _, _, rfl, ⟨_, rfl, ⟨Int.emod_nonneg _ (by omega), .inl (Int.emod_lt_of_pos _ (by omega))⟩, rfl⟩, rfl⟩
  · try simp at g17
    refine q_f rfl ?_
    refine q_f rfl ?_
    refine q_f rfl ?_
    refine q_f rfl ?_
    refine q_f rfl ?_
    refine q_f rfl ?_
    refine q_pick_t rfl rfl ?_
    refine rg_nil ?_
    refine VS_cond rfl (fun _ => ?_) (fun e => by cases e)
    refine VS_seq ?_
    refine VS_r0 rfl ?_
    refine q_mv rfl ?_
    refine rg_nil ?_
    refine VS_ret ?_
    exact Bd.now ⟨_, rfl, _, _, _, rfl, ⟨0, rfl, ⟨Int.le_refl _, .inr rfl⟩, rfl⟩, rfl⟩
theorem c_spec_reader_one (bs : List Int) (hb : isU8 bs) (hbl : bs.length ≤ 2000) (p : Int) (hp : 0 ≤ p) (xs : List Int) (hx : 0 < xs.length) (hx2 : xs.length ≤ 1000000000) (hp2 : p ≤ 100000000000) : RdS prog 77 90 bs p [ints xs] (fun x q => ∃ v : Int, x = i64 v ∧ v ∈ xs ∧ q = p + 1) := by
  refine callS_of_VS sl_spec_reader_one (by simp) ?_
  refine VS_seq ?_
  refine VS_r0 rfl ?_
  refine q_mv rfl ?_
  refine rg_nil ?_
  refine VS_seq ?_
  refine VS_r0 rfl ?_
  refine q_mv rfl ?_
  refine q_mv rfl ?_
  refine q_mv rfl ?_
  first | refine q_len_m rfl ?_ | refine q_len_s rfl ?_ | refine q_len_o rfl ?_ | refine q_len_n rfl ?_ | refine q_len_x rfl ?_
  refine q_rd rfl (c_spec_reader_pick bs hb hbl _ (by omega) xs.length (by omega) (by omega)) rfl rfl (fun _ => trivial) ?_
  rintro _ q9 ⟨v, rfl, q_v, rfl⟩
  first | refine q_idx_c _ rfl rfl (by omega) (fun _ => rfl) ?_ | refine q_idx_m rfl rfl (by omega) (by omega) (fun _ => rfl) ?_ | refine q_idx_om rfl rfl (by omega) (by omega) rfl rfl ?_
  first | refine q_load_c rfl rfl rfl ?_ | refine q_load_r rfl rfl rfl rfl rfl rfl rfl ?_ | refine q_load_o rfl rfl rfl rfl rfl ?_
  refine q_mv rfl ?_
  refine rg_nil ?_
  refine VS_ret ?_
  exact Bd.now ⟨_, rfl, _, _, _, rfl, ⟨_, rfl, nth_mem (by omega), rfl⟩, rfl⟩
theorem c_spec_newReader (bs : List Int) (hb : isU8 bs) (hl : bs.length ≤ 1048576) : NewRd prog 50 90 bs := by
  refine callS_of_VS sl_spec_newReader (by simp) ?_
  refine VS_seq ?_
  refine VS_r0 rfl ?_
  refine q_mv rfl ?_
  refine rg_nil ?_
  refine VS_seq ?_
  refine VS_seq ?_
  refine VS_r0 rfl ?_
  refine q_mv rfl ?_
  first | refine q_len_m rfl ?_ | refine q_len_s rfl ?_ | refine q_len_o rfl ?_ | refine q_len_n rfl ?_ | refine q_len_x rfl ?_
  refine q_gtr rfl rfl ?_
  refine rg_nil ?_
  refine VS_cond rfl (fun c0 => ?_) (fun c0 => ?_)
  · try simp at c0
    refine VS_r0 rfl ?_
    refine q_mv rfl ?_
    refine q_slc_m (xs := bs) (f := fun k => PV.int .u8 k) 0 2000 rfl rfl rfl ⟨rfl, rfl, by omega, by omega⟩ (fun _ => rfl) ?_
    refine q_mv rfl ?_
    refine rg_nil ?_
    refine VS_seq ?_
    refine VS_r0 rfl ?_
    refine q_mv rfl ?_
    refine q_build rfl ?_
    refine q_box rfl rfl rfl trivial ?_
    refine q_mv rfl ?_
    refine rg_nil ?_
    refine VS_ret ?_
    first | exact Bd.now ⟨.ptr 0 0 0, rfl, bs.take 2000, ⟨hb.take _, by simp; omega⟩, rfl, rfl⟩ | exact Bd.now ⟨.ptr 0 0 0, rfl, bs, ⟨hb, by omega⟩, rfl, rfl⟩
  · try simp at c0
    refine VS_skip ?_
    refine VS_seq ?_
    refine VS_r0 rfl ?_
    refine q_mv rfl ?_
    refine q_build rfl ?_
    refine q_box rfl rfl rfl trivial ?_
    refine q_mv rfl ?_
    refine rg_nil ?_
    refine VS_ret ?_
    first | exact Bd.now ⟨.ptr 0 0 0, rfl, bs.take 2000, ⟨hb.take _, by simp; omega⟩, rfl, rfl⟩ | exact Bd.now ⟨.ptr 0 0 0, rfl, bs, ⟨hb, by omega⟩, rfl, rfl⟩
theorem c_spec_keyNear (bs : List Int) (hb : isU8 bs) (hbl : bs.length ≤ 2000) (p : Int) (hp : 0 ≤ p) (ks : List Int) (hk : ks.length ≤ 1000000000) (hk2 : ∀ j, j < ks.length → -1000000000 ≤ nth ks j ∧ nth ks j ≤ 1000000000) (hp2 : p ≤ 90000000000) : RdS prog 62 90 bs p [ints ks] (fun x q => ∃ v : Int, x = i64 v ∧ (-1000000001 ≤ v ∧ v ≤ 1000000001) ∧ (p ≤ q ∧ q ≤ p + 4)) := by
  refine callS_of_VS sl_spec_keyNear (by simp) ?_
  refine VS_seq ?_
  refine VS_r0 rfl ?_
  refine q_mv rfl ?_
  refine rg_nil ?_
  refine VS_seq ?_
  refine VS_seq ?_
  refine VS_r0 rfl ?_
  refine q_mv rfl ?_
  first | refine q_len_m rfl ?_ | refine q_len_s rfl ?_ | refine q_len_o rfl ?_ | refine q_len_n rfl ?_ | refine q_len_x rfl ?_
  refine q_gtr rfl rfl ?_
  refine q_mv rfl ?_
  refine q_b rfl (fun g8 => ?_) (fun g8 => ?_)
  · try simp at g8
    refine q_t rfl ?_
    refine q_mv rfl ?_
    refine q_t rfl ?_
    refine q_rd rfl (c_spec_reader_pick bs hb hbl _ (by omega) 3 (by omega) (by omega)) rfl rfl (fun _ => trivial) ?_
    rintro _ q10 ⟨a, rfl, q_a, rfl⟩
    refine q_t rfl ?_
    refine q_gtr rfl rfl ?_
    refine q_pick_t rfl rfl ?_
    refine rg_nil ?_
    refine VS_cond rfl (fun c0 => ?_) (fun c0 => ?_)
    · try simp at c0
      refine VS_seq ?_
      refine VS_r2 [] hmix Sub.nil ?_
      refine q_mv rfl ?_
      refine q_mv rfl ?_
      refine q_mv rfl ?_
      first | refine q_len_m rfl ?_ | refine q_len_s rfl ?_ | refine q_len_o rfl ?_ | refine q_len_n rfl ?_ | refine q_len_x rfl ?_
      refine q_mv rfl ?_
      refine q_lit (xs := [0, 0, 1, -1].map (.int .i64)) rfl rfl rfl rfl ?_
      refine q_rd rfl (c_spec_reader_pick bs hb hbl _ (by omega) ks.length (by omega) (by omega)) rfl rfl (fun _ => (by first | exact trivial | exact Sub.nil | exact Sub.set (Sub.refl _) _ _ (by simp) | exact SubL.sub (by repeat (first | exact SubL.nil | apply SubL.none | apply SubL.some | apply SubL.sh | apply SubL.eq)) | (refine Sub.of_eq ?_; intro o ob h; rcases o with _ | _ | _ | _ | o <;> simp_all))) ?_
      rintro _ q17 ⟨b, rfl, q_b, rfl⟩
      have hn := hk2 b.toNat (by omega)
      refine q_idx_m rfl rfl (by omega) (by omega) (fun _ => rfl) ?_
      first | refine q_load_c rfl rfl rfl ?_ | refine q_load_r rfl rfl rfl rfl rfl rfl rfl ?_ | refine q_load_o rfl rfl rfl rfl rfl ?_
      refine q_rd rfl (c_spec_reader_one bs hb hbl _ (by omega) [0, 0, 1, -1] (by simp) (by simp) (by omega)) rfl rfl (fun _ => (by first | exact trivial | exact Sub.nil | exact Sub.set (Sub.refl _) _ _ (by simp) | exact SubL.sub (by repeat (first | exact SubL.nil | apply SubL.none | apply SubL.some | apply SubL.sh | apply SubL.eq)) | (refine Sub.of_eq ?_; intro o ob h; rcases o with _ | _ | _ | _ | o <;> simp_all))) ?_
      rintro _ q22 ⟨c, rfl, q_c, rfl⟩
      simp only [List.mem_cons, List.not_mem_nil, or_false] at q_c
      refine q_add rfl rfl (inR64 (by omega)) ?_
      refine q_mv rfl ?_
      refine rg_nil ?_
      refine VS_ret ?_
      exact Bd.now ⟨_, rfl, _, _, _, rfl, ⟨_, rfl, ⟨by omega, by omega⟩, ⟨by omega, by omega⟩⟩, rfl⟩
    · try simp at c0
      refine VS_skip ?_
      refine VS_seq ?_
      refine VS_r0 rfl ?_
      refine q_mv rfl ?_
      refine q_mv rfl ?_
      refine q_rd rfl (c_spec_reader_pick bs hb hbl _ (by omega) 100 (by omega) (by omega)) rfl rfl (fun _ => trivial) ?_
      rintro _ q26 ⟨e, rfl, q_e, rfl⟩
      refine q_mv rfl ?_
      refine q_rd rfl (c_spec_reader_pick bs hb hbl _ (by omega) 100 (by omega) (by omega)) rfl rfl (fun _ => trivial) ?_
      rintro _ q28 ⟨f, rfl, q_f, rfl⟩
      refine q_lit (xs := [e, f, 0, 99, 100, -1].map (.int .i64)) rfl rfl rfl rfl ?_
      refine q_rd rfl (c_spec_reader_one bs hb hbl _ (by omega) [e, f, 0, 99, 100, -1] (by simp) (by simp) (by omega)) rfl rfl (fun _ => trivial) ?_
      rintro _ q30 ⟨g, rfl, q_g, rfl⟩
      refine q_mv rfl ?_
      refine rg_nil ?_
      refine VS_ret ?_
      simp only [List.mem_cons, List.not_mem_nil, or_false] at q_g
      exact Bd.now ⟨_, rfl, _, _, _, rfl, ⟨_, rfl, ⟨by omega, by omega⟩, ⟨by omega, by omega⟩⟩, rfl⟩
  · try simp at g8
    refine q_f rfl ?_
    refine q_f rfl ?_
    refine q_f rfl ?_
    refine q_pick_f rfl rfl ?_
    refine rg_nil ?_
    refine VS_cond rfl (fun e => by cases e) (fun _ => ?_)
    refine VS_skip ?_
    refine VS_seq ?_
    refine VS_r0 rfl ?_
    refine q_mv rfl ?_
    refine q_mv rfl ?_
    refine q_rd rfl (c_spec_reader_pick bs hb hbl _ (by omega) 100 (by omega) (by omega)) rfl rfl (fun _ => trivial) ?_
    rintro _ q26 ⟨e, rfl, q_e, rfl⟩
    refine q_mv rfl ?_
    refine q_rd rfl (c_spec_reader_pick bs hb hbl _ (by omega) 100 (by omega) (by omega)) rfl rfl (fun _ => trivial) ?_
    rintro _ q28 ⟨f, rfl, q_f, rfl⟩
    refine q_lit (xs := [e, f, 0, 99, 100, -1].map (.int .i64)) rfl rfl rfl rfl ?_
    refine q_rd rfl (c_spec_reader_one bs hb hbl _ (by omega) [e, f, 0, 99, 100, -1] (by simp) (by simp) (by omega)) rfl rfl (fun _ => trivial) ?_
    rintro _ q30 ⟨g, rfl, q_g, rfl⟩
    refine q_mv rfl ?_
    refine rg_nil ?_
    refine VS_ret ?_
    simp only [List.mem_cons, List.not_mem_nil, or_false] at q_g
    exact Bd.now ⟨_, rfl, _, _, _, rfl, ⟨_, rfl, ⟨by omega, by omega⟩, ⟨by omega, by omega⟩⟩, rfl⟩
theorem c_spec_reader_spoil (bs : List Int) (hb : isU8 bs) (hbl : bs.length ≤ 2000) (p : Int) (hp : 0 ≤ p) (xs : List Int) (n : Int) (hx : xs.length ≤ 1000000) (hx2 : bdI 1000000000 xs) (hn : -1000000000 ≤ n ∧ n ≤ 1000000000) (hp2 : p ≤ 90000000000) : RdS prog 85 90 bs p [ints xs, i64 n] (fun x q => ∃ ys : List Int, x = ints ys ∧ (ys.length ≤ xs.length + 1 ∧ bdI 1000000000 ys) ∧ (p ≤ q ∧ q ≤ p + 3)) := by
  refine callS_of_VS sl_spec_reader_spoil (by simp) ?_
  refine VS_seq ?_
  refine VS_r0 rfl ?_
  refine q_mv rfl ?_
  refine rg_nil ?_
  refine VS_seq ?_
  refine VS_r0 rfl ?_
  refine q_mv rfl ?_
  refine q_new rfl (c_spec_copyInts xs (by omega)) (flat_I _) (by first | rfl | (repeat' (first | exact toRs_nil | refine toRs_cons ?_ ?_ | rfl | exact toR_I rfl | exact toR_P rfl | refine toR_agg2 ?_ ?_ | refine toR_agg3 ?_ ?_ ?_))) trivial ?_
  refine q_mv rfl ?_
  refine rg_nil ?_
  refine VS_seq ?_
  refine VS_seq ?_
  refine VS_r0 rfl ?_
  refine q_mv rfl ?_
  refine q_rd rfl (c_spec_reader_pick bs hb hbl _ (by omega) 20 (by omega) (by omega)) rfl rfl (fun _ => trivial) ?_
  rintro _ q11 ⟨a, rfl, q_a, rfl⟩
  refine rg_nil ?_
  refine VS_block ?_
  refine VS_seq ?_
  refine VS_r0 rfl ?_
  refine q_eql rfl rfl ?_
  refine q_mv rfl ?_
  refine rg_nil ?_
  refine VS_cond rfl (fun c0 => ?_) (fun c0 => ?_)
  · try simp at c0
    refine VS_r0 rfl ?_
    refine q_mv rfl ?_
    refine q_mv rfl ?_
    refine q_lit rfl rfl rfl rfl ?_
    refine q_app_dm (xs := xs) (ys := [n]) (f := fun k => .pv (i64 k)) rfl rfl rfl rfl ⟨by simp; omega, by simp; omega⟩ trivial ?_
    refine q_mv rfl ?_
    refine rg_nil ?_
    refine VS_seq ?_
    refine VS_r0 rfl ?_
    refine q_mv rfl ?_
    refine q_mv rfl ?_
    refine rg_nil ?_
    refine VS_ret ?_
    first
      | refine Bd.pureB 6 2 3 1 (xs := dI (xs ++ [n])) rfl rfl (toPVs_dI _) ?_
      | refine Bd.pureB 6 1 3 1 (xs := dI (xs.set b.toNat c)) (Eq.trans (b := ownD 1 (dI xs)) rfl (ownD_len (by simp))) rfl (toPVs_dI _) ?_
      | refine Bd.pureB 6 1 3 1 (xs := dI xs) rfl rfl (toPVs_dI _) ?_
      | skip
    first
      | refine Bd.renL [0] (fun i hi => by have e : i = 0 := (by simp at hi; omega); subst e; rfl) (by simp) [(6, .pv (ints (xs ++ [n])))] ⟨rfl, trivial⟩ rfl ?_
      | refine Bd.renL [0] (fun i hi => by have e : i = 0 := (by simp at hi; omega); subst e; rfl) (by simp) [(6, .pv (ints (xs.set b.toNat c)))] ⟨rfl, trivial⟩ rfl ?_
      | refine Bd.renL [0] (fun i hi => by have e : i = 0 := (by simp at hi; omega); subst e; rfl) (by simp) [(6, .pv (ints ((xs.take xs.length).drop 1)))] ⟨rfl, trivial⟩ rfl ?_
      | refine Bd.renL [0] (fun i hi => by have e : i = 0 := (by simp at hi; omega); subst e; rfl) (by simp) [(6, .pv (ints xs))] ⟨rfl, trivial⟩ rfl ?_
    refine ⟨_, rfl, _, _, _, rfl, ⟨_, rfl, ⟨?_, ?_⟩, ⟨by omega, by omega⟩⟩, rfl⟩
    · first | (simp; done) | (simp; omega)
    · first | exact hx2 | exact hx2.app (bdI.one hn) | exact (hx2.take _).drop _ | (simp only [List.mem_cons, List.not_mem_nil, or_false] at q_c; exact hx2.set _ (by omega))
  · try simp at c0
    refine VS_seq ?_
    refine VS_r0 rfl ?_
    refine q_eql rfl rfl ?_
    refine q_mv rfl ?_
    refine rg_nil ?_
    refine VS_cond rfl (fun c1 => ?_) (fun c1 => ?_)
    · try simp at c1
      refine VS_seq ?_
      refine VS_r0 rfl ?_
      refine q_mv rfl ?_
      refine q_len_dm rfl ?_
      first | refine q_gtr rfl rfl ?_ | skip
      refine rg_nil ?_
      refine VS_cond rfl (fun c2 => ?_) (fun c2 => ?_)
      · try simp at c2
        refine VS_bd (Bd.pure 7 1 3 1 (xs := dI xs) rfl rfl (toPVs_dI _) ?_)
        refine VS_r0 rfl ?_
        refine q_mv rfl ?_
        refine q_slc_m (xs := xs) (f := fun k => i64 k) 1 xs.length rfl rfl rfl ⟨rfl, by simp, by omega, by omega⟩ (fun _ => rfl) ?_
        refine q_mv rfl ?_
        refine rg_nil ?_
        refine VS_seq ?_
        refine VS_r0 rfl ?_
        refine q_mv rfl ?_
        refine q_mv rfl ?_
        refine rg_nil ?_
        refine VS_ret ?_
        first
          | refine Bd.pureB 6 2 3 1 (xs := dI (xs ++ [n])) rfl rfl (toPVs_dI _) ?_
          | refine Bd.pureB 6 1 3 1 (xs := dI (xs.set b.toNat c)) (Eq.trans (b := ownD 1 (dI xs)) rfl (ownD_len (by simp))) rfl (toPVs_dI _) ?_
          | refine Bd.pureB 6 1 3 1 (xs := dI xs) rfl rfl (toPVs_dI _) ?_
          | skip
        first
          | refine Bd.renL [0] (fun i hi => by have e : i = 0 := (by simp at hi; omega); subst e; rfl) (by simp) [(6, .pv (ints (xs ++ [n])))] ⟨rfl, trivial⟩ rfl ?_
          | refine Bd.renL [0] (fun i hi => by have e : i = 0 := (by simp at hi; omega); subst e; rfl) (by simp) [(6, .pv (ints (xs.set b.toNat c)))] ⟨rfl, trivial⟩ rfl ?_
          | refine Bd.renL [0] (fun i hi => by have e : i = 0 := (by simp at hi; omega); subst e; rfl) (by simp) [(6, .pv (ints ((xs.take xs.length).drop 1)))] ⟨rfl, trivial⟩ rfl ?_
          | refine Bd.renL [0] (fun i hi => by have e : i = 0 := (by simp at hi; omega); subst e; rfl) (by simp) [(6, .pv (ints xs))] ⟨rfl, trivial⟩ rfl ?_
        refine ⟨_, rfl, _, _, _, rfl, ⟨_, rfl, ⟨?_, ?_⟩, ⟨by omega, by omega⟩⟩, rfl⟩
        · first | (simp; done) | (simp; omega)
        · first | exact hx2 | exact hx2.app (bdI.one hn) | exact (hx2.take _).drop _ | (simp only [List.mem_cons, List.not_mem_nil, or_false] at q_c; exact hx2.set _ (by omega))
      · try simp at c2
        refine VS_skip ?_
        refine VS_seq ?_
        refine VS_r0 rfl ?_
        refine q_mv rfl ?_
        refine q_mv rfl ?_
        refine rg_nil ?_
        refine VS_ret ?_
        first
          | refine Bd.pureB 6 2 3 1 (xs := dI (xs ++ [n])) rfl rfl (toPVs_dI _) ?_
          | refine Bd.pureB 6 1 3 1 (xs := dI (xs.set b.toNat c)) (Eq.trans (b := ownD 1 (dI xs)) rfl (ownD_len (by simp))) rfl (toPVs_dI _) ?_
          | refine Bd.pureB 6 1 3 1 (xs := dI xs) rfl rfl (toPVs_dI _) ?_
          | skip
        first
          | refine Bd.renL [0] (fun i hi => by have e : i = 0 := (by simp at hi; omega); subst e; rfl) (by simp) [(6, .pv (ints (xs ++ [n])))] ⟨rfl, trivial⟩ rfl ?_
          | refine Bd.renL [0] (fun i hi => by have e : i = 0 := (by simp at hi; omega); subst e; rfl) (by simp) [(6, .pv (ints (xs.set b.toNat c)))] ⟨rfl, trivial⟩ rfl ?_
          | refine Bd.renL [0] (fun i hi => by have e : i = 0 := (by simp at hi; omega); subst e; rfl) (by simp) [(6, .pv (ints ((xs.take xs.length).drop 1)))] ⟨rfl, trivial⟩ rfl ?_
          | refine Bd.renL [0] (fun i hi => by have e : i = 0 := (by simp at hi; omega); subst e; rfl) (by simp) [(6, .pv (ints xs))] ⟨rfl, trivial⟩ rfl ?_
        refine ⟨_, rfl, _, _, _, rfl, ⟨_, rfl, ⟨?_, ?_⟩, ⟨by omega, by omega⟩⟩, rfl⟩
        · first | (simp; done) | (simp; omega)
        · first | exact hx2 | exact hx2.app (bdI.one hn) | exact (hx2.take _).drop _ | (simp only [List.mem_cons, List.not_mem_nil, or_false] at q_c; exact hx2.set _ (by omega))
    · try simp at c1
      refine VS_seq ?_
      refine VS_r0 rfl ?_
      refine q_eql rfl rfl ?_
      refine q_mv rfl ?_
      refine rg_nil ?_
      refine VS_cond rfl (fun c3 => ?_) (fun c3 => ?_)
      · try simp at c3
        refine VS_seq ?_
        refine VS_r0 rfl ?_
        refine q_mv rfl ?_
        refine q_len_dm rfl ?_
        refine q_gtr rfl rfl ?_
        refine rg_nil ?_
        refine VS_cond rfl (fun c4 => ?_) (fun c4 => ?_)
        · try simp at c4
          refine VS_r0 rfl ?_
          refine q_mv rfl ?_
          refine q_mv rfl ?_
          refine q_mv rfl ?_
          refine q_len_dm rfl ?_
          refine q_rd rfl (c_spec_reader_pick bs hb hbl _ (by omega) xs.length (by omega) (by omega)) rfl rfl (fun _ => trivial) ?_
          rintro _ q34 ⟨b, rfl, q_b, rfl⟩
          refine q_mv rfl ?_
          refine q_mv rfl ?_
          refine q_lit (xs := [-1, n, 0, 1].map (.int .i64)) rfl rfl rfl rfl ?_
          refine q_rd rfl (c_spec_reader_one bs hb hbl _ (by omega) [-1, n, 0, 1] (by simp) (by simp) (by omega)) rfl rfl (fun _ => trivial) ?_
          rintro _ q38 ⟨c, rfl, q_c, rfl⟩
          refine q_idx_dm (ty := 3) (xs := xs) rfl rfl (by omega) (by omega) rfl ?_
          refine q_store_d (ty := 3) (xs := xs) rfl rfl rfl (by omega) trivial ?_
          refine rg_nil ?_
          refine VS_seq ?_
          refine VS_r0 rfl ?_
          refine q_mv rfl ?_
          refine q_mv rfl ?_
          refine rg_nil ?_
          refine VS_ret ?_
          first
            | refine Bd.pureB 6 2 3 1 (xs := dI (xs ++ [n])) rfl rfl (toPVs_dI _) ?_
            | refine Bd.pureB 6 1 3 1 (xs := dI (xs.set b.toNat c)) (Eq.trans (b := ownD 1 (dI xs)) rfl (ownD_len (by simp))) rfl (toPVs_dI _) ?_
            | refine Bd.pureB 6 1 3 1 (xs := dI xs) rfl rfl (toPVs_dI _) ?_
            | skip
          first
            | refine Bd.renL [0] (fun i hi => by have e : i = 0 := (by simp at hi; omega); subst e; rfl) (by simp) [(6, .pv (ints (xs ++ [n])))] ⟨rfl, trivial⟩ rfl ?_
            | refine Bd.renL [0] (fun i hi => by have e : i = 0 := (by simp at hi; omega); subst e; rfl) (by simp) [(6, .pv (ints (xs.set b.toNat c)))] ⟨rfl, trivial⟩ rfl ?_
            | refine Bd.renL [0] (fun i hi => by have e : i = 0 := (by simp at hi; omega); subst e; rfl) (by simp) [(6, .pv (ints ((xs.take xs.length).drop 1)))] ⟨rfl, trivial⟩ rfl ?_
            | refine Bd.renL [0] (fun i hi => by have e : i = 0 := (by simp at hi; omega); subst e; rfl) (by simp) [(6, .pv (ints xs))] ⟨rfl, trivial⟩ rfl ?_
          refine ⟨_, rfl, _, _, _, rfl, ⟨_, rfl, ⟨?_, ?_⟩, ⟨by omega, by omega⟩⟩, rfl⟩
          · first | (simp; done) | (simp; omega)
          · first | exact hx2 | exact hx2.app (bdI.one hn) | exact (hx2.take _).drop _ | (simp only [List.mem_cons, List.not_mem_nil, or_false] at q_c; exact hx2.set _ (by omega))
        · try simp at c4
          refine VS_skip ?_
          refine VS_seq ?_
          refine VS_r0 rfl ?_
          refine q_mv rfl ?_
          refine q_mv rfl ?_
          refine rg_nil ?_
          refine VS_ret ?_
          first
            | refine Bd.pureB 6 2 3 1 (xs := dI (xs ++ [n])) rfl rfl (toPVs_dI _) ?_
            | refine Bd.pureB 6 1 3 1 (xs := dI (xs.set b.toNat c)) (Eq.trans (b := ownD 1 (dI xs)) rfl (ownD_len (by simp))) rfl (toPVs_dI _) ?_
            | refine Bd.pureB 6 1 3 1 (xs := dI xs) rfl rfl (toPVs_dI _) ?_
            | skip
          first
            | refine Bd.renL [0] (fun i hi => by have e : i = 0 := (by simp at hi; omega); subst e; rfl) (by simp) [(6, .pv (ints (xs ++ [n])))] ⟨rfl, trivial⟩ rfl ?_
            | refine Bd.renL [0] (fun i hi => by have e : i = 0 := (by simp at hi; omega); subst e; rfl) (by simp) [(6, .pv (ints (xs.set b.toNat c)))] ⟨rfl, trivial⟩ rfl ?_
            | refine Bd.renL [0] (fun i hi => by have e : i = 0 := (by simp at hi; omega); subst e; rfl) (by simp) [(6, .pv (ints ((xs.take xs.length).drop 1)))] ⟨rfl, trivial⟩ rfl ?_
            | refine Bd.renL [0] (fun i hi => by have e : i = 0 := (by simp at hi; omega); subst e; rfl) (by simp) [(6, .pv (ints xs))] ⟨rfl, trivial⟩ rfl ?_
          refine ⟨_, rfl, _, _, _, rfl, ⟨_, rfl, ⟨?_, ?_⟩, ⟨by omega, by omega⟩⟩, rfl⟩
          · first | (simp; done) | (simp; omega)
          · first | exact hx2 | exact hx2.app (bdI.one hn) | exact (hx2.take _).drop _ | (simp only [List.mem_cons, List.not_mem_nil, or_false] at q_c; exact hx2.set _ (by omega))
      · try simp at c3
        refine VS_skip ?_
        refine VS_seq ?_
        refine VS_r0 rfl ?_
        refine q_mv rfl ?_
        refine q_mv rfl ?_
        refine rg_nil ?_
        refine VS_ret ?_
        first
          | refine Bd.pureB 6 2 3 1 (xs := dI (xs ++ [n])) rfl rfl (toPVs_dI _) ?_
          | refine Bd.pureB 6 1 3 1 (xs := dI (xs.set b.toNat c)) (Eq.trans (b := ownD 1 (dI xs)) rfl (ownD_len (by simp))) rfl (toPVs_dI _) ?_
          | refine Bd.pureB 6 1 3 1 (xs := dI xs) rfl rfl (toPVs_dI _) ?_
          | skip
        first
          | refine Bd.renL [0] (fun i hi => by have e : i = 0 := (by simp at hi; omega); subst e; rfl) (by simp) [(6, .pv (ints (xs ++ [n])))] ⟨rfl, trivial⟩ rfl ?_
          | refine Bd.renL [0] (fun i hi => by have e : i = 0 := (by simp at hi; omega); subst e; rfl) (by simp) [(6, .pv (ints (xs.set b.toNat c)))] ⟨rfl, trivial⟩ rfl ?_
          | refine Bd.renL [0] (fun i hi => by have e : i = 0 := (by simp at hi; omega); subst e; rfl) (by simp) [(6, .pv (ints ((xs.take xs.length).drop 1)))] ⟨rfl, trivial⟩ rfl ?_
          | refine Bd.renL [0] (fun i hi => by have e : i = 0 := (by simp at hi; omega); subst e; rfl) (by simp) [(6, .pv (ints xs))] ⟨rfl, trivial⟩ rfl ?_
        refine ⟨_, rfl, _, _, _, rfl, ⟨_, rfl, ⟨?_, ?_⟩, ⟨by omega, by omega⟩⟩, rfl⟩
        · first | (simp; done) | (simp; omega)
        · first | exact hx2 | exact hx2.app (bdI.one hn) | exact (hx2.take _).drop _ | (simp only [List.mem_cons, List.not_mem_nil, or_false] at q_c; exact hx2.set _ (by omega))
theorem c_spec_someKeys (bs : List Int) (hb : isU8 bs) (hbl : bs.length ≤ 2000) (p : Int) (hp : 0 ≤ p) (hp2 : p ≤ 80000000000) : RdS prog 92 90 bs p [] (fun x q => ∃ ys : List Int, x = ints ys ∧ (ys.length ≤ 20 ∧ bdI 1000000000 ys) ∧ (p ≤ q ∧ q ≤ p + 30)) := by
  refine callS_of_VS sl_spec_someKeys (by simp) ?_
  refine VS_seq ?_
  refine VS_r0 rfl ?_
  refine q_mv rfl ?_
  refine rg_nil ?_
  refine VS_seq ?_
  refine VS_r0 rfl ?_
  refine q_lit0 ?_
  refine q_mv rfl ?_
  refine rg_nil ?_
  refine VS_seq ?_
  refine VS_r0 rfl ?_
  refine q_mv rfl ?_
  refine q_rd rfl (c_spec_reader_pick bs hb hbl _ (by omega) 10 (by omega) (by omega)) rfl rfl (fun _ => trivial) ?_
  rintro _ q8 ⟨a, rfl, q_a, rfl⟩
  refine q_mv rfl ?_
  refine rg_nil ?_
  refine VS_seq ?_
  refine VS_seq ?_
  refine VS_r0 rfl ?_
  refine q_mv rfl ?_
  refine q_lit (xs := [5, 8, 3, 12, 1, 0].map (.int .i64)) rfl rfl rfl rfl ?_
  refine q_rd rfl (c_spec_reader_one bs hb hbl _ (by omega) [5, 8, 3, 12, 1, 0] (by simp) (by simp) (by omega)) rfl rfl (fun _ => trivial) ?_
  rintro _ q11 ⟨c, rfl, q_c, rfl⟩
  refine q_mv rfl ?_
  refine rg_nil ?_
  refine VS_block ?_
  simp only [List.mem_cons, List.not_mem_nil, or_false] at q_c
  refine VS_bd (Bd.pad ?_)
  refine VS_bd (Bd.keepL [(0, .ptr 0 0 0), (3, ownD 1 (dI ([]))), (4, .pv (i64 a)), (5, .pv (i64 c))] ⟨rfl, rfl, rfl, rfl, trivial⟩ ?_)
  refine VS_loop (fun mz E S => ∃ k : Int, ∃ m : Int, ∃ ys : List Int, ∃ q : Int, mz = k.toNat ∧ (-1 ≤ k ∧ k ≤ 12) ∧ (0 ≤ m ∧ m ≤ 1000) ∧ (p ≤ q ∧ q ≤ p + 2 + (12 - k)) ∧ ((ys.length : Int) ≤ 12 - k) ∧ (bdI 1000000000 ys) ∧ E = env [(0, .ptr 0 0 0), (3, ownD 1 (dI ys)), (4, .pv (i64 m)), (5, .pv (i64 k))] ∧ S = [some (rdr 90 bs q), obD 3 1 (dI ys)]) ⟨_, c, a, [], (p + 1 + 1), rfl, (by first | omega | (intros; omega) | simp), (by first | omega | (intros; omega) | simp), (by first | omega | (intros; omega) | simp), (by simp; omega), bdI.nil, rfl, rfl⟩ ?_
  rintro mz _ _ ⟨k, m, ys, q, hmeas, g0, g1, g2, g3, hys, rfl, rfl⟩
  refine VS_seq ?_
  refine VS_seq ?_
  refine VS_r0 rfl ?_
  refine q_mv rfl ?_
  refine q_gtr rfl rfl ?_
  refine q_mv rfl ?_
  refine q_b rfl (fun g14 => ?_) (fun g14 => ?_)
  · try simp at g14
    refine q_t rfl ?_
    refine q_mv rfl ?_
    refine q_t rfl ?_
    refine q_leq rfl rfl ?_
    refine q_pick_t rfl rfl ?_
    refine rg_nil ?_
    refine VS_cond rfl (fun c0 => ?_) (fun c0 => ?_)
    · try simp at c0
      refine VS_skip ?_
      refine VS_seq ?_
      refine VS_block ?_
      refine VS_seq ?_
      refine VS_r0 rfl ?_
      refine q_mv rfl ?_
      refine q_mv rfl ?_
      refine q_lit rfl rfl rfl rfl ?_
      refine q_app_dm (xs := ys) (ys := [m]) (f := fun k => .pv (i64 k)) rfl rfl rfl rfl ⟨by simp; omega, by simp; omega⟩ trivial ?_
      refine q_mv rfl ?_
      refine rg_nil ?_
      refine VS_r0 rfl ?_
      refine q_mv rfl ?_
      refine q_add rfl rfl (inR64 (by omega)) ?_
      refine q_mv rfl ?_
      refine q_rd rfl (c_spec_reader_pick bs hb hbl _ (by omega) 12 (by omega) (by omega)) rfl rfl (fun _ => trivial) ?_
      rintro _ q27 ⟨e, rfl, q_e, rfl⟩
      refine q_add rfl rfl (inR64 (by omega)) ?_
      refine q_mv rfl ?_
      refine rg_nil ?_
      refine VS_r0 rfl ?_
      refine q_mv rfl ?_
      refine q_sub rfl rfl (inR64 (by omega)) ?_
      refine q_mv rfl ?_
      refine rg_nil ?_
      refine Bd.renL [0, 2] (fun i hi => by first | (exact absurd hi (Nat.not_lt_zero i)) | (have e : i = 0 := (by simp at hi; omega); subst e; rfl) | (have e : i = 0 ∨ i = 1 := (by simp at hi; omega); rcases e with rfl | rfl <;> rfl)) (by simp) [(0, .ptr 0 0 0), (3, ownD 1 (dI (ys ++ [m]))), (4, .pv (i64 (m + 1 + e))), (5, .pv (i64 (k - 1)))] ⟨rfl, inv_own rfl, rfl, rfl, trivial⟩ (l2 rfl (obD_mI _)) ⟨_, ?_, k - 1, m + 1 + e, ys ++ [m], q + 1, rfl, ?_, ?_, ?_, ?_, ?_, rfl, rfl⟩
      · first | omega | assumption | rfl | (simp; omega)
      · first | omega | assumption | rfl | (simp; omega)
      · first | omega | assumption | rfl | (simp; omega)
      · first | omega | assumption | rfl | (simp; omega)
      · simp
        omega
      · exact hys.app (bdI.one (by omega))
    · try simp at c0
      refine VS_exit ?_
      refine VS_seq ?_
      refine VS_bd (Bd.pure 3 1 3 1 (xs := dI ys) rfl rfl (toPVs_dI _) ?_)
      refine VS_r0 rfl ?_
      refine q_mv rfl ?_
      refine q_mv rfl ?_
      refine q_rd rfl (c_spec_reader_spoil bs hb hbl _ (by omega) ys 100 (by omega) hys (by omega) (by omega)) rfl rfl (fun _ => trivial) ?_
      rintro _ q31 ⟨zs, rfl, ⟨hz1, hz2⟩, ⟨hq1, hq2⟩⟩
      refine q_mv rfl ?_
      refine rg_nil ?_
      refine VS_ret ?_
      refine Bd.renL [0] (fun i hi => by have e : i = 0 := (by simp at hi; omega); subst e; rfl) (by simp) [(2, .pv (ints zs))] ⟨rfl, trivial⟩ rfl ?_
      exact ⟨_, rfl, _, _, _, rfl, ⟨_, rfl, ⟨by omega, hz2⟩, ⟨by omega, by omega⟩⟩, rfl⟩
  · try simp at g14
    refine q_f rfl ?_
    refine q_f rfl ?_
    refine q_pick_f rfl rfl ?_
    refine rg_nil ?_
    refine VS_cond rfl (fun e => by cases e) (fun _ => ?_)
    refine VS_exit ?_
    refine VS_seq ?_
    refine VS_bd (Bd.pure 3 1 3 1 (xs := dI ys) rfl rfl (toPVs_dI _) ?_)
    refine VS_r0 rfl ?_
    refine q_mv rfl ?_
    refine q_mv rfl ?_
    refine q_rd rfl (c_spec_reader_spoil bs hb hbl _ (by omega) ys 100 (by omega) hys (by omega) (by omega)) rfl rfl (fun _ => trivial) ?_
    rintro _ q31 ⟨zs, rfl, ⟨hz1, hz2⟩, ⟨hq1, hq2⟩⟩
    refine q_mv rfl ?_
    refine rg_nil ?_
    refine VS_ret ?_
    refine Bd.renL [0] (fun i hi => by have e : i = 0 := (by simp at hi; omega); subst e; rfl) (by simp) [(2, .pv (ints zs))] ⟨rfl, trivial⟩ rfl ?_
    exact ⟨_, rfl, _, _, _, rfl, ⟨_, rfl, ⟨by omega, hz2⟩, ⟨by omega, by omega⟩⟩, rfl⟩
theorem c_spec_anyInner (bs : List Int) (hb : isU8 bs) (hbl : bs.length ≤ 2000) (p : Int) (hp : 0 ≤ p) (hp2 : p ≤ 70000000000) : RdS prog 49 90 bs p [] (fun x q => ∃ ks cs : List Int, x = innP ks cs ∧ ((ks.length ≤ 100 ∧ cs.length ≤ 100) ∧ bdI 1000000000 ks ∧ bdI 1000000000 cs) ∧ (p ≤ q ∧ q ≤ p + 40)) := by
  refine callS_of_VS sl_spec_anyInner (by simp) ?_
  refine VS_seq ?_
  refine VS_r0 rfl ?_
  refine q_alloc trivial ?_
  refine rg_nil ?_
  refine VS_seq ?_
  refine VS_r0 rfl ?_
  refine q_lit0 ?_
  refine q_mv rfl ?_
  refine q_rd rfl (c_spec_reader_pick bs hb hbl _ (by omega) 4 (by omega) (by omega)) rfl rfl (fun _ => trivial) ?_
  rintro _ q8 ⟨a, rfl, q_a, rfl⟩
  refine q_lito (xs := [i64 a]) rfl rfl rfl rfl ?_
  refine q_build rfl ?_
  refine q_alloc trivial ?_
  first | refine q_store rfl rfl rfl rfl rfl rfl ⟨rfl, rfl, by simp, rfl, by simp [isOne]⟩ rfl trivial ?_ | refine q_storeF rfl rfl rfl rfl rfl (by simp) trivial ?_ | refine q_store rfl rfl rfl rfl rfl rfl ⟨rfl, rfl, by simp, by simp [setAt, isCell_own, isCell_sl, isCell_int, isCell_nils], by simp [isOne]⟩ rfl trivial ?_
  refine rg_nil ?_
  refine VS_bd (Bd.pad ?_)
  refine VS_bd (Bd.frzF 4 3 0 0 3 1 (xs := []) (ps := []) (by decide) rfl rfl rfl rfl rfl ?_)
  refine VS_seq ?_
  refine VS_r0 rfl ?_
  refine q_mv rfl ?_
  refine q_rd rfl (c_spec_reader_pick bs hb hbl _ (by omega) 20 (by omega) (by omega)) rfl rfl (fun _ => trivial) ?_
  rintro _ q12 ⟨b, rfl, q_b, rfl⟩
  refine q_mv rfl ?_
  refine rg_nil ?_
  refine VS_seq ?_
  refine VS_seq ?_
  refine VS_r0 rfl ?_
  refine q_mv rfl ?_
  refine q_lit (xs := [3, 4, 2, 5, 1].map (.int .i64)) rfl rfl rfl rfl ?_
  refine q_rd rfl (c_spec_reader_one bs hb hbl _ (by omega) [3, 4, 2, 5, 1] (by simp) (by simp) (by omega)) rfl rfl (fun _ => trivial) ?_
  rintro _ q15 ⟨c, rfl, q_c, rfl⟩
  refine q_mv rfl ?_
  refine rg_nil ?_
  refine VS_block ?_
  simp only [List.mem_cons, List.not_mem_nil, or_false] at q_c
  refine VS_bd (Bd.keepL [(0, .ptr 0 0 0), (2, .ptr 1 0 0), (3, .ptr 3 0 0), (4, .pv (i64 b)), (5, .pv (i64 c))] ⟨rfl, rfl, rfl, rfl, rfl, trivial⟩ ?_)
  refine VS_loop (fun mz E S => ∃ k : Int, ∃ m : Int, ∃ ks : List Int, ∃ cs : List Int, ∃ q : Int, mz = k.toNat ∧ (0 ≤ k ∧ k ≤ 5) ∧ (0 ≤ m ∧ m ≤ 200 - 17 * k) ∧ (p ≤ q ∧ q ≤ p + 3 + 2 * (5 - k)) ∧ ((ks.length : Int) = c - k ∧ cs.length = ks.length + 1) ∧ (bdI 1000 ks) ∧ (bdI (100 - 3 * k) cs) ∧ E = env [(0, .ptr 0 0 0), (2, .ptr 1 0 0), (3, .ptr 3 0 0), (4, .pv (i64 m)), (5, .pv (i64 k))] ∧ S = [some (rdr 90 bs q), some ⟨25, 2, [.agg [.nils, .nils]]⟩, obD 3 1 (dI cs), some ⟨25, 2, [.agg [.pv (ints ks), ownD 2 (dI cs)]]⟩, none]) ⟨_, c, b, [], [a], (p + 1 + 1 + 1), rfl, (by first | omega | (intros; omega) | simp), (by first | omega | (intros; omega) | simp), (by first | omega | (intros; omega) | simp), ⟨by simp, rfl⟩, bdI.nil, bdI.one (by omega), rfl, rfl⟩ ?_
  rintro mz _ _ ⟨k, m, ks, cs, q, hmeas, g0, g1, g2, g3, hks, hcs, rfl, rfl⟩
  refine VS_seq ?_
  refine VS_seq ?_
  refine VS_r0 rfl ?_
  refine q_mv rfl ?_
  refine q_gtr rfl rfl ?_
  refine rg_nil ?_
  refine VS_cond rfl (fun c0 => ?_) (fun c0 => ?_)
  · try simp at c0
    refine VS_skip ?_
    refine VS_seq ?_
    refine VS_block ?_
    refine VS_seq ?_
    refine VS_r0 rfl ?_
    first | refine q_fld_r rfl ?_ | refine q_fld_c rfl rfl ?_
    first | refine q_load_c rfl rfl rfl ?_ | refine q_load_r rfl rfl rfl rfl rfl rfl rfl ?_ | refine q_load_o rfl rfl rfl rfl rfl ?_
    refine q_new rfl (c_spec_copyInts ks (by omega)) (flat_I _) (by first | rfl | (repeat' (first | exact toRs_nil | refine toRs_cons ?_ ?_ | rfl | exact toR_I rfl | exact toR_P rfl | refine toR_agg2 ?_ ?_ | refine toR_agg3 ?_ ?_ ?_))) trivial ?_
    refine q_mv rfl ?_
    refine q_lit rfl rfl rfl rfl ?_
    refine q_app_dm (xs := ks) (ys := [m]) (f := fun k => .pv (i64 k)) rfl rfl rfl rfl ⟨by simp; omega, by simp; omega⟩ trivial ?_
    first | refine q_fld_r rfl ?_ | refine q_fld_c rfl rfl ?_
    first | refine q_store rfl rfl rfl rfl rfl rfl ⟨rfl, rfl, by simp, rfl, by simp [isOne]⟩ rfl trivial ?_ | refine q_storeF rfl rfl rfl rfl rfl (by simp) trivial ?_ | refine q_store rfl rfl rfl rfl rfl rfl ⟨rfl, rfl, by simp, by simp [setAt, isCell_own, isCell_sl, isCell_int, isCell_nils], by simp [isOne]⟩ rfl trivial ?_
    refine rg_nil ?_
    refine VS_bd (Bd.frzF 6 3 0 0 3 1 (xs := dI (ks ++ [m])) (by decide) rfl (toPVs_dI _) rfl rfl rfl ?_)
    refine VS_st [some (rdr 90 bs q), some ⟨25, 2, [.agg [.nils, .nils]]⟩, obD 3 1 (dI cs), some ⟨25, 2, [.agg [.pv (ints (ks ++ [m])), ownD 2 (dI cs)]]⟩, none, none, none] rfl ?_
    refine VS_seq ?_
    refine VS_r2 [none, none, obD 3 1 (dI cs), some ⟨25, 2, [.agg [.pv (ints (ks ++ [m])), ownD 2 (dI cs)]]⟩] hmix (SubL.sub (by repeat (first | exact SubL.nil | apply SubL.none | apply SubL.some | apply SubL.sh | apply SubL.eq))) ?_
    first | refine q_fld_r rfl ?_ | refine q_fld_c rfl rfl ?_
    first | refine q_load_c rfl rfl rfl ?_ | refine q_load_r rfl rfl rfl rfl rfl rfl rfl ?_ | refine q_load_o rfl rfl rfl rfl rfl ?_
    first | refine q_fld_r rfl ?_ | refine q_fld_c rfl rfl ?_
    first | refine q_load_c rfl rfl rfl ?_ | refine q_load_r rfl rfl rfl rfl rfl rfl rfl ?_ | refine q_load_o rfl rfl rfl rfl rfl ?_
    first | refine q_fld_r rfl ?_ | refine q_fld_c rfl rfl ?_
    first | refine q_load_c rfl rfl rfl ?_ | refine q_load_r rfl rfl rfl rfl rfl rfl rfl ?_ | refine q_load_o rfl rfl rfl rfl rfl ?_
    refine q_len_dm rfl ?_
    refine q_sub rfl rfl (inR64 (by omega)) ?_
    have hlast := hcs (cs.length - 1) (by omega)
    refine q_idx_dm (ty := 3) (xs := cs) rfl rfl (by omega) (by omega) rfl ?_
    rw [show ((cs.length : Int) - 1).toNat = cs.length - 1 by omega]
    refine q_load_d (ty := 3) (xs := cs) rfl rfl (by omega) rfl rfl rfl ?_
    refine q_add rfl rfl (inR64 (by omega)) ?_
    refine q_mv rfl ?_
    refine q_new rfl (c_spec_copyInts cs (by omega)) (flat_I _) (by first | rfl | (repeat' (first | exact toRs_nil | refine toRs_cons ?_ ?_ | rfl | exact toR_I rfl | exact toR_P rfl | refine toR_agg2 ?_ ?_ | refine toR_agg3 ?_ ?_ ?_))) (by first | exact trivial | exact Sub.nil | exact Sub.refl _ | exact Sub.app _ _ | exact SubL.sub (by repeat (first | exact SubL.nil | apply SubL.none | apply SubL.some | apply SubL.sh | apply SubL.eq)) | (refine Sub.of_eq ?_; intro o ob h; rcases o with _ | _ | _ | _ | _ | o <;> simp_all)) ?_
    refine q_rd rfl (c_spec_reader_pick bs hb hbl _ (by omega) 2 (by omega) (by omega)) rfl rfl (fun _ => (by first | exact trivial | exact Sub.nil | exact Sub.set (Sub.refl _) _ _ (by simp) | exact SubL.sub (by repeat (first | exact SubL.nil | apply SubL.none | apply SubL.some | apply SubL.sh | apply SubL.eq)) | (refine Sub.of_eq ?_; intro o ob h; rcases o with _ | _ | _ | _ | o <;> simp_all))) ?_
    rintro _ q40 ⟨e, rfl, q_e, rfl⟩
    refine q_add rfl rfl (inR64 (by omega)) ?_
    refine q_lit rfl rfl rfl rfl ?_
    refine q_app_dm (xs := cs) (ys := [nth cs (cs.length - 1) + 1 + e]) (f := fun k => .pv (i64 k)) rfl rfl rfl rfl ⟨by simp; omega, by simp; omega⟩ (by first | exact trivial | exact Sub.nil | exact Sub.set (Sub.refl _) _ _ (by simp) | exact SubL.sub (by repeat (first | exact SubL.nil | apply SubL.none | apply SubL.some | apply SubL.sh | apply SubL.eq)) | (refine Sub.of_eq ?_; intro o ob h; rcases o with _ | _ | _ | _ | o <;> simp_all)) ?_
    first | refine q_fld_r rfl ?_ | refine q_fld_c rfl rfl ?_
    refine q_last ?_
    first | refine q_store rfl rfl rfl rfl rfl rfl ⟨rfl, rfl, by simp, rfl, by simp [isOne]⟩ rfl (by first | exact trivial | exact Sub.nil | exact Sub.refl _ | exact Sub.app _ _ | exact SubL.sub (by repeat (first | exact SubL.nil | apply SubL.none | apply SubL.some | apply SubL.sh | apply SubL.eq)) | (refine Sub.of_eq ?_; intro o ob h; rcases o with _ | _ | _ | _ | _ | o <;> simp_all)) ?_ | refine q_storeF rfl rfl rfl rfl rfl (by simp) (by first | exact trivial | exact Sub.nil | exact Sub.refl _ | exact Sub.app _ _ | exact SubL.sub (by repeat (first | exact SubL.nil | apply SubL.none | apply SubL.some | apply SubL.sh | apply SubL.eq)) | (refine Sub.of_eq ?_; intro o ob h; rcases o with _ | _ | _ | _ | _ | o <;> simp_all)) ?_ | refine q_store rfl rfl rfl rfl rfl rfl ⟨rfl, rfl, by simp, by simp [setAt, isCell_own, isCell_sl, isCell_int, isCell_nils], by simp [isOne]⟩ rfl (by first | exact trivial | exact Sub.nil | exact Sub.refl _ | exact Sub.app _ _ | exact SubL.sub (by repeat (first | exact SubL.nil | apply SubL.none | apply SubL.some | apply SubL.sh | apply SubL.eq)) | (refine Sub.of_eq ?_; intro o ob h; rcases o with _ | _ | _ | _ | _ | o <;> simp_all)) ?_
    refine rg_nil ?_
    refine VS_r0 rfl ?_
    refine q_mv rfl ?_
    refine q_add rfl rfl (inR64 (by omega)) ?_
    refine q_mv rfl ?_
    refine q_rd rfl (c_spec_reader_pick bs hb hbl _ (by omega) 16 (by omega) (by omega)) rfl rfl (fun _ => trivial) ?_
    rintro _ q48 ⟨f, rfl, q_f, rfl⟩
    refine q_add rfl rfl (inR64 (by omega)) ?_
    refine q_mv rfl ?_
    refine rg_nil ?_
    refine VS_r0 rfl ?_
    refine q_mv rfl ?_
    refine q_sub rfl rfl (inR64 (by omega)) ?_
    refine q_mv rfl ?_
    refine rg_nil ?_
    refine Bd.renL [0, 1, 8, 3, 4] (fun i hi => by first | (exact absurd hi (Nat.not_lt_zero i)) | (have e : i = 0 := (by simp at hi; omega); subst e; rfl) | (have e : i = 0 ∨ i = 1 := (by simp at hi; omega); rcases e with rfl | rfl <;> rfl)) (by simp) [(0, .ptr 0 0 0), (2, .ptr 1 0 0), (3, .ptr 3 0 0), (4, .pv (i64 (m + 1 + f))), (5, .pv (i64 (k - 1)))] ⟨rfl, rfl, rfl, rfl, rfl, trivial⟩ (l5 rfl rfl (obD_mI _) (congrArg (fun z => some (⟨25, 2, [.agg [.pv (ints (ks ++ [m])), z]]⟩ : Ob)) (mp1_own rfl)) rfl) ⟨_, ?_, k - 1, m + 1 + f, ks ++ [m], cs ++ [nth cs (cs.length - 1) + 1 + e], q + 1 + 1, rfl, ?_, ?_, ?_, ?_, ?_, ?_, rfl, rfl⟩
    · first | omega | assumption | rfl | (simp; omega)
    · first | omega | assumption | rfl | (simp; omega)
    · first | omega | assumption | rfl | (simp; omega)
    · first | omega | assumption | rfl | (simp; omega)
    · simp
      omega
    · exact hks.app (bdI.one (by omega))
    · exact (hcs.le (by omega)).app (bdI.one (by omega))
  · try simp at c0
    refine VS_exit ?_
    refine VS_join (fun E S => ∃ ks cs q, (((ks.length ≤ 100 ∧ cs.length ≤ 100) ∧ bdI 1000000000 ks ∧ bdI 1000000000 cs) ∧ (p ≤ q ∧ q ≤ p + 40)) ∧ E = env [(2, .ptr 1 0 0), (3, .ptr 2 0 0)] ∧ S = [some (rdr 90 bs q), some ⟨25, 2, [.agg [.nils, .nils]]⟩, some ⟨25, 2, [.agg [.pv (ints ks), .pv (ints cs)]]⟩]) ?_ ?_
    · skip
      refine VS_seq ?_
      refine VS_r0 rfl ?_
      refine q_mv rfl ?_
      refine q_rd rfl (c_spec_reader_pick bs hb hbl _ (by omega) 24 (by omega) (by omega)) rfl rfl (fun _ => trivial) ?_
      rintro _ q51 ⟨u, rfl, q_u, rfl⟩
      refine rg_nil ?_
      refine VS_block ?_
      refine VS_seq ?_
      refine VS_r0 rfl ?_
      refine q_eql rfl rfl ?_
      refine q_mv rfl ?_
      refine rg_nil ?_
      refine VS_cond rfl (fun c1 => ?_) (fun c1 => ?_)
      · try simp at c1
        refine VS_r0 rfl ?_
        refine q_mv rfl ?_
        first | refine q_fld_r rfl ?_ | refine q_fld_c rfl rfl ?_
        first | refine q_load_c rfl rfl rfl ?_ | refine q_load_r rfl rfl rfl rfl rfl rfl rfl ?_ | refine q_load_o rfl rfl rfl rfl rfl ?_
        refine q_rd rfl (c_spec_reader_spoil bs hb hbl _ (by omega) ks 100 (by omega) (hks.le (by omega)) (by omega) (by omega)) rfl rfl (fun _ => trivial) ?_
        rintro _ q57 ⟨zs, rfl, ⟨hz1, hz2⟩, ⟨hq1, hq2⟩⟩
        first | refine q_fld_r rfl ?_ | refine q_fld_c rfl rfl ?_
        first | refine q_store rfl rfl rfl rfl rfl rfl ⟨rfl, rfl, by simp, rfl, by simp [isOne]⟩ rfl trivial ?_ | refine q_storeF rfl rfl rfl rfl rfl (by simp) trivial ?_ | refine q_store rfl rfl rfl rfl rfl rfl ⟨rfl, rfl, by simp, by simp [setAt, isCell_own, isCell_sl, isCell_int, isCell_nils], by simp [isOne]⟩ rfl trivial ?_
        refine rg_nil ?_
        first
          | refine Bd.frzFB 2 3 0 1 3 1 (xs := dI (cs.set 0 (nth cs 1))) (by decide) rfl (toPVs_dI _) rfl rfl (congrArg some (ownD_len (o := 2) (xs := dI cs) (by simp))) ?_
          | refine Bd.frzFB 2 3 0 1 3 1 (xs := dI cs) (by decide) rfl (toPVs_dI _) rfl rfl rfl ?_
          | skip
        refine Bd.renL [0, 1, 3] (fun i hi => by first | (exact absurd hi (Nat.not_lt_zero i)) | (have e : i = 0 := (by simp at hi; omega); subst e; rfl) | (have e : i = 0 ∨ i = 1 := (by simp at hi; omega); rcases e with rfl | rfl <;> rfl)) (by simp) [(2, .ptr 1 0 0), (3, .ptr 2 0 0)] ⟨rfl, rfl, trivial⟩ rfl ?_
        first
          | exact ⟨_, _, _, ⟨⟨⟨by omega, by simp; omega⟩, hks.le (by omega), (hcs.le (by omega)).set 0 (by have := hcs 1 (by omega); omega)⟩, by omega, by omega⟩, rfl, rfl⟩
          | exact ⟨_, _, _, ⟨⟨⟨by omega, by omega⟩, hz2, hcs.le (by omega)⟩, by omega, by omega⟩, rfl, rfl⟩
          | exact ⟨_, _, _, ⟨⟨⟨by omega, by omega⟩, hks.le (by omega), hz2⟩, by omega, by omega⟩, rfl, rfl⟩
          | exact ⟨_, _, _, ⟨⟨⟨by omega, by omega⟩, hks.le (by omega), hcs.le (by omega)⟩, by omega, by omega⟩, rfl, rfl⟩
      · try simp at c1
        refine VS_seq ?_
        refine VS_r0 rfl ?_
        refine q_eql rfl rfl ?_
        refine q_mv rfl ?_
        refine rg_nil ?_
        refine VS_cond rfl (fun c2 => ?_) (fun c2 => ?_)
        · try simp at c2
          refine VS_bd (Bd.frzF 2 3 0 1 3 1 (xs := dI cs) (by decide) rfl (toPVs_dI _) rfl rfl rfl ?_)
          refine VS_r0 rfl ?_
          refine q_mv rfl ?_
          first | refine q_fld_r rfl ?_ | refine q_fld_c rfl rfl ?_
          first | refine q_load_c rfl rfl rfl ?_ | refine q_load_r rfl rfl rfl rfl rfl rfl rfl ?_ | refine q_load_o rfl rfl rfl rfl rfl ?_
          refine q_rd rfl (c_spec_reader_spoil bs hb hbl _ (by omega) cs 16 (by omega) (hcs.le (by omega)) (by omega) (by omega)) rfl rfl (fun _ => trivial) ?_
          rintro _ q64 ⟨zs, rfl, ⟨hz1, hz2⟩, ⟨hq1, hq2⟩⟩
          first | refine q_fld_r rfl ?_ | refine q_fld_c rfl rfl ?_
          first | refine q_store rfl rfl rfl rfl rfl rfl ⟨rfl, rfl, by simp, rfl, by simp [isOne]⟩ rfl trivial ?_ | refine q_storeF rfl rfl rfl rfl rfl (by simp) trivial ?_ | refine q_store rfl rfl rfl rfl rfl rfl ⟨rfl, rfl, by simp, by simp [setAt, isCell_own, isCell_sl, isCell_int, isCell_nils], by simp [isOne]⟩ rfl trivial ?_
          refine rg_nil ?_
          first
            | refine Bd.frzFB 2 3 0 1 3 1 (xs := dI (cs.set 0 (nth cs 1))) (by decide) rfl (toPVs_dI _) rfl rfl (congrArg some (ownD_len (o := 2) (xs := dI cs) (by simp))) ?_
            | refine Bd.frzFB 2 3 0 1 3 1 (xs := dI cs) (by decide) rfl (toPVs_dI _) rfl rfl rfl ?_
            | skip
          refine Bd.renL [0, 1, 3] (fun i hi => by first | (exact absurd hi (Nat.not_lt_zero i)) | (have e : i = 0 := (by simp at hi; omega); subst e; rfl) | (have e : i = 0 ∨ i = 1 := (by simp at hi; omega); rcases e with rfl | rfl <;> rfl)) (by simp) [(2, .ptr 1 0 0), (3, .ptr 2 0 0)] ⟨rfl, rfl, trivial⟩ rfl ?_
          first
            | exact ⟨_, _, _, ⟨⟨⟨by omega, by simp; omega⟩, hks.le (by omega), (hcs.le (by omega)).set 0 (by have := hcs 1 (by omega); omega)⟩, by omega, by omega⟩, rfl, rfl⟩
            | exact ⟨_, _, _, ⟨⟨⟨by omega, by omega⟩, hz2, hcs.le (by omega)⟩, by omega, by omega⟩, rfl, rfl⟩
            | exact ⟨_, _, _, ⟨⟨⟨by omega, by omega⟩, hks.le (by omega), hz2⟩, by omega, by omega⟩, rfl, rfl⟩
            | exact ⟨_, _, _, ⟨⟨⟨by omega, by omega⟩, hks.le (by omega), hcs.le (by omega)⟩, by omega, by omega⟩, rfl, rfl⟩
        · try simp at c2
          refine VS_seq ?_
          refine VS_r0 rfl ?_
          refine q_eql rfl rfl ?_
          refine q_mv rfl ?_
          refine rg_nil ?_
          refine VS_cond rfl (fun c3 => ?_) (fun c3 => ?_)
          · try simp at c3
            refine VS_r2 [none, none, obD 3 1 (dI cs), some ⟨25, 2, [.agg [.pv (ints ks), ownD 2 (dI cs)]]⟩] hmix (SubL.sub (by repeat (first | exact SubL.nil | apply SubL.none | apply SubL.some | apply SubL.sh | apply SubL.eq))) ?_
            first | refine q_fld_r rfl ?_ | refine q_fld_c rfl rfl ?_
            first | refine q_load_c rfl rfl rfl ?_ | refine q_load_r rfl rfl rfl rfl rfl rfl rfl ?_ | refine q_load_o rfl rfl rfl rfl rfl ?_
            first | refine q_fld_r rfl ?_ | refine q_fld_c rfl rfl ?_
            first | refine q_load_c rfl rfl rfl ?_ | refine q_load_r rfl rfl rfl rfl rfl rfl rfl ?_ | refine q_load_o rfl rfl rfl rfl rfl ?_
            refine q_idx_dm (ty := 3) (xs := cs) rfl rfl (by omega) (by omega) rfl ?_
            refine q_load_d (ty := 3) (xs := cs) rfl rfl (by omega) rfl rfl rfl ?_
            refine q_idx_dm (ty := 3) (xs := cs) rfl rfl (by omega) (by omega) rfl ?_
            refine q_last ?_
            refine q_store_d (ty := 3) (xs := cs) rfl rfl rfl (by omega) trivial ?_
            refine rg_nil ?_
            first
              | refine Bd.frzFB 2 3 0 1 3 1 (xs := dI (cs.set 0 (nth cs 1))) (by decide) rfl (toPVs_dI _) rfl rfl (congrArg some (ownD_len (o := 2) (xs := dI cs) (by simp))) ?_
              | refine Bd.frzFB 2 3 0 1 3 1 (xs := dI cs) (by decide) rfl (toPVs_dI _) rfl rfl rfl ?_
              | skip
            refine Bd.renL [0, 1, 3] (fun i hi => by first | (exact absurd hi (Nat.not_lt_zero i)) | (have e : i = 0 := (by simp at hi; omega); subst e; rfl) | (have e : i = 0 ∨ i = 1 := (by simp at hi; omega); rcases e with rfl | rfl <;> rfl)) (by simp) [(2, .ptr 1 0 0), (3, .ptr 2 0 0)] ⟨rfl, rfl, trivial⟩ rfl ?_
            first
              | exact ⟨_, _, _, ⟨⟨⟨by omega, by simp; omega⟩, hks.le (by omega), (hcs.le (by omega)).set 0 (by have := hcs 1 (by omega); omega)⟩, by omega, by omega⟩, rfl, rfl⟩
              | exact ⟨_, _, _, ⟨⟨⟨by omega, by omega⟩, hz2, hcs.le (by omega)⟩, by omega, by omega⟩, rfl, rfl⟩
              | exact ⟨_, _, _, ⟨⟨⟨by omega, by omega⟩, hks.le (by omega), hz2⟩, by omega, by omega⟩, rfl, rfl⟩
              | exact ⟨_, _, _, ⟨⟨⟨by omega, by omega⟩, hks.le (by omega), hcs.le (by omega)⟩, by omega, by omega⟩, rfl, rfl⟩
          · try simp at c3
            refine VS_skip ?_
            first
              | refine Bd.frzFB 2 3 0 1 3 1 (xs := dI (cs.set 0 (nth cs 1))) (by decide) rfl (toPVs_dI _) rfl rfl (congrArg some (ownD_len (o := 2) (xs := dI cs) (by simp))) ?_
              | refine Bd.frzFB 2 3 0 1 3 1 (xs := dI cs) (by decide) rfl (toPVs_dI _) rfl rfl rfl ?_
              | skip
            refine Bd.renL [0, 1, 3] (fun i hi => by first | (exact absurd hi (Nat.not_lt_zero i)) | (have e : i = 0 := (by simp at hi; omega); subst e; rfl) | (have e : i = 0 ∨ i = 1 := (by simp at hi; omega); rcases e with rfl | rfl <;> rfl)) (by simp) [(2, .ptr 1 0 0), (3, .ptr 2 0 0)] ⟨rfl, rfl, trivial⟩ rfl ?_
            first
              | exact ⟨_, _, _, ⟨⟨⟨by omega, by simp; omega⟩, hks.le (by omega), (hcs.le (by omega)).set 0 (by have := hcs 1 (by omega); omega)⟩, by omega, by omega⟩, rfl, rfl⟩
              | exact ⟨_, _, _, ⟨⟨⟨by omega, by omega⟩, hz2, hcs.le (by omega)⟩, by omega, by omega⟩, rfl, rfl⟩
              | exact ⟨_, _, _, ⟨⟨⟨by omega, by omega⟩, hks.le (by omega), hz2⟩, by omega, by omega⟩, rfl, rfl⟩
              | exact ⟨_, _, _, ⟨⟨⟨by omega, by omega⟩, hks.le (by omega), hcs.le (by omega)⟩, by omega, by omega⟩, rfl, rfl⟩
    · rintro _ _ ⟨xs1, xs2, q1, ⟨hx1, hx2⟩, rfl, rfl⟩
      refine VS_seq ?_
      refine VS_r0 rfl ?_
      first | refine q_load_c rfl rfl rfl ?_ | refine q_load_ra rfl rfl rfl rfl rfl (by first | (simp; done) | (simp [setAt]; done)) rfl ?_
      first | refine q_store rfl rfl rfl rfl rfl rfl ⟨rfl, rfl, by simp, rfl, by simp [isOne]⟩ rfl trivial ?_ | refine q_storeF rfl rfl rfl rfl rfl (by simp) trivial ?_ | refine q_store rfl rfl rfl rfl rfl rfl ⟨rfl, rfl, by simp, by simp [setAt, isCell_own, isCell_sl, isCell_int, isCell_nils], by simp [isOne]⟩ rfl trivial ?_
      refine rg_nil ?_
      refine VS_ret ?_
      refine Bd.aggP 1 0 [ints xs1, ints xs2] rfl rfl ?_
      refine Bd.renL [0, 1] (fun i hi => by first | (exact absurd hi (Nat.not_lt_zero i)) | (have e : i = 0 := (by simp at hi; omega); subst e; rfl) | (have e : i = 0 ∨ i = 1 := (by simp at hi; omega); rcases e with rfl | rfl <;> rfl)) (by simp) [(2, .ptr 1 0 0)] ⟨rfl, trivial⟩ rfl ?_
      exact ⟨_, rfl, _, _, _, rfl, ⟨_, _, rfl, hx1, hx2⟩, rfl⟩
end Go.V

set_option maxHeartbeats 4000000
namespace Go.V
open Go.Proofs.Try (prog)
theorem c_slices_Clone_int (xs : List Int) (hl : xs.length ≤ 1000000000) : NewS prog 72 3 1 [ints xs] (dI xs) := by
  refine callS_of_VS sl_slices_Clone_int (by simp) ?_
  refine VS_seq ?_
  refine VS_r0 rfl ?_
  refine q_mv rfl ?_
  refine rg_nil ?_
  refine VS_seq ?_
  refine VS_seq ?_
  refine VS_r0 rfl ?_
  refine q_mv rfl ?_
  refine q_isnil_m rfl trivial ?_ ?_
  · skip
    refine rg_nil ?_
    refine VS_cond rfl (fun e => by cases e) (fun _ => ?_)
    refine VS_skip ?_
    refine VS_seq ?_
    refine VS_r0 rfl ?_
    refine q_lit0 ?_
    refine q_mv rfl ?_
    refine q_app_zm (ys := xs) (f := fun k => .pv (i64 k)) rfl (elems_I xs) (cell_I xs) ⟨by omega, by omega⟩ trivial ?_
    refine q_mv rfl ?_
    refine rg_nil ?_
    refine VS_ret ?_
    exact Bd.now ⟨ownD 0 (dI xs), by cases xs <;> rfl, rfl, rfl⟩
  · intro hn
    rw [List.map_eq_nil_iff] at hn
    subst hn
    refine rg_nil ?_
    refine VS_cond rfl (fun _ => ?_) (fun e => by cases e)
    refine VS_seq ?_
    refine VS_r0 rfl ?_
    refine q_mv rfl ?_
    refine rg_nil ?_
    refine VS_ret ?_
    exact Bd.pad ⟨.nils, rfl, rfl, rfl⟩
theorem c_slices_Clone_Pair (xs : List (Int × Int)) (hl : xs.length ≤ 1000000000) : NewS prog 90 43 2 [prs xs] (dP xs) := by
  refine callS_of_VS sl_slices_Clone_Pair (by simp) ?_
  refine VS_seq ?_
  refine VS_r0 rfl ?_
  refine q_mv rfl ?_
  refine rg_nil ?_
  refine VS_seq ?_
  refine VS_seq ?_
  refine VS_r0 rfl ?_
  refine q_mv rfl ?_
  refine q_isnil_m rfl trivial ?_ ?_
  · skip
    refine rg_nil ?_
    refine VS_cond rfl (fun e => by cases e) (fun _ => ?_)
    refine VS_skip ?_
    refine VS_seq ?_
    refine VS_r0 rfl ?_
    refine q_lit0 ?_
    refine q_mv rfl ?_
    refine q_app_zm (ys := xs) (f := fun k => .pv (pairP k)) rfl (elems_P xs) (cell_P xs) ⟨by omega, by omega⟩ trivial ?_
    refine q_mv rfl ?_
    refine rg_nil ?_
    refine VS_ret ?_
    exact Bd.now ⟨ownD 0 (dP xs), by cases xs <;> rfl, rfl, rfl⟩
  · intro hn
    rw [List.map_eq_nil_iff] at hn
    subst hn
    refine rg_nil ?_
    refine VS_cond rfl (fun _ => ?_) (fun e => by cases e)
    refine VS_seq ?_
    refine VS_r0 rfl ?_
    refine q_mv rfl ?_
    refine rg_nil ?_
    refine VS_ret ?_
    exact Bd.pad ⟨.nils, rfl, rfl, rfl⟩
theorem c_slices_Delete_int (xs : List Int) (i j : Nat) (h1 : i < j) (h2 : j ≤ xs.length) (hl : xs.length ≤ 1000000000) : DelS prog 79 3 1 (dI xs) [i64 i, i64 j] (ints (xs.take i ++ xs.drop j)) := by
  unfold DelS
  rw [show (dI xs).length = xs.length by simp]
  refine callS_of_VS sl_slices_Delete_int (by simp) ?_
  refine VS_seq ?_
  refine VS_r0 rfl ?_
  refine q_mv rfl ?_
  refine rg_nil ?_
  refine VS_bd (Bd.open 0 rfl fun cap hc1 hc2 => ?_)
  refine VS_seq ?_
  refine VS_r0 rfl ?_
  refine q_mv rfl ?_
  refine q_mv rfl ?_
  refine q_mv rfl ?_
  refine q_mv rfl ?_
  first | refine q_len_m rfl ?_ | refine q_len_s rfl ?_ | refine q_len_o rfl ?_ | refine q_len_n rfl ?_ | refine q_len_x rfl ?_
  refine q_slc3 rfl rfl rfl rfl ⟨by omega, by omega, by omega, by omega⟩ ?_
  refine rg_nil ?_
  refine VS_seq ?_
  refine VS_seq ?_
  refine VS_r0 rfl ?_
  refine q_mv rfl ?_
  refine q_mv rfl ?_
  refine q_eql_v false rfl rfl (decide_eq_false (by omega)) ?_
  refine rg_nil ?_
  refine VS_cond rfl (fun e => by cases e) (fun _ => ?_)
  refine VS_skip ?_
  refine VS_seq ?_
  refine VS_r0 rfl ?_
  refine q_mv rfl ?_
  first | refine q_len_m rfl ?_ | refine q_len_s rfl ?_ | refine q_len_o rfl ?_ | refine q_len_n rfl ?_ | refine q_len_x rfl ?_
  refine q_mv rfl ?_
  refine rg_nil ?_
  refine VS_seq ?_
  refine VS_r2 [some ⟨3, 1, []⟩] hmix (SubL.sub (by repeat (first | exact SubL.nil | apply SubL.none | apply SubL.some | apply SubL.sh | apply SubL.eq))) ?_
  refine q_mv rfl ?_
  refine q_mv rfl ?_
  refine q_slc_s 0 i cap rfl rfl rfl rfl rfl ⟨by omega, by omega, by omega⟩ ⟨by omega, by omega, by omega⟩ (fun h => absurd h (by omega)) (fun _ => ?_)
  refine q_mv rfl ?_
  refine q_mv rfl ?_
  refine q_slc_s j (xs.length - j) (cap - j) rfl rfl rfl rfl rfl ⟨by omega, by omega, by omega⟩ ⟨by omega, by omega, by omega⟩ ?_ ?_
  · intro hcj
    have hd : (xs.drop j).map (fun k => D.pv (i64 k)) = [] := by rw [List.drop_of_length_le (by omega)]; rfl
    first
      | refine q_app_in (ys := (xs.drop j).map (fun k => .pv (i64 k))) (m := xs.length - j) rfl (drop_elems _ rfl (by omega)) (cell_I _) rfl rfl (by simp; omega) (by simp) (by omega) (by first | exact trivial | exact Sub.nil | exact Sub.refl _ | exact Sub.app _ _ | exact SubL.sub (by repeat (first | exact SubL.nil | apply SubL.none | apply SubL.some | apply SubL.sh | apply SubL.eq)) | (refine Sub.of_eq ?_; intro o ob h; rcases o with _ | _ | _ | _ | _ | o <;> simp_all)) ?_
      | refine q_app_in (ys := (xs.drop j).map (fun k => .pv (i64 k))) (m := xs.length - j) rfl (by rw [hd]; rfl) (cell_I _) rfl rfl (by simp; omega) (by simp) (by omega) (by first | exact trivial | exact Sub.nil | exact Sub.refl _ | exact Sub.app _ _ | exact SubL.sub (by repeat (first | exact SubL.nil | apply SubL.none | apply SubL.some | apply SubL.sh | apply SubL.eq)) | (refine Sub.of_eq ?_; intro o ob h; rcases o with _ | _ | _ | _ | _ | o <;> simp_all)) ?_
    refine q_mv rfl ?_
    refine rg_nil ?_
    refine VS_seq ?_
    refine VS_r0 rfl ?_
    refine q_mv rfl ?_
    refine q_mv rfl ?_
    first | refine q_len_m rfl ?_ | refine q_len_s rfl ?_ | refine q_len_o rfl ?_ | refine q_len_n rfl ?_ | refine q_len_x rfl ?_
    refine q_mv rfl ?_
    refine q_slc_s (i + (xs.length - j)) (xs.length - (i + (xs.length - j))) (cap - (i + (xs.length - j))) rfl rfl rfl rfl rfl ⟨by omega, by omega, by omega⟩ ⟨by omega, by omega, by omega⟩ (fun h => absurd h (by omega)) (fun _ => ?_)
    refine q_clear_s rfl rfl rfl (splice_le (by simp; omega) (by simp; omega)) (by omega) rfl ⟨trivial, ?_⟩
    refine rg_nil ?_
    refine VS_seq ?_
    refine VS_r0 rfl ?_
    refine q_mv rfl ?_
    refine q_mv rfl ?_
    refine rg_nil ?_
    refine VS_bd (Bd.subP (ps := (xs.take i ++ xs.drop j).map (fun k => (i64 k))) 6 rfl rfl (splice_le (splice_le (by simp; omega) (by simp; omega)) (splice_le (by simp; omega) (by simp; omega))) (by rw [Nat.zero_add, del_some _ (by omega) h2]; exact toPVs_dI _) ?_)
    refine VS_ret ?_
    exact Bd.now ⟨_, rfl, rfl, rfl⟩
  · intro hcj
    first
      | refine q_app_in (ys := (xs.drop j).map (fun k => .pv (i64 k))) (m := xs.length - j) rfl (drop_elems _ rfl (by omega)) (cell_I _) rfl rfl (by simp; omega) (by simp) (by omega) (by first | exact trivial | exact Sub.nil | exact Sub.refl _ | exact Sub.app _ _ | exact SubL.sub (by repeat (first | exact SubL.nil | apply SubL.none | apply SubL.some | apply SubL.sh | apply SubL.eq)) | (refine Sub.of_eq ?_; intro o ob h; rcases o with _ | _ | _ | _ | _ | o <;> simp_all)) ?_
      | refine q_app_in (ys := (xs.drop j).map (fun k => .pv (i64 k))) (m := xs.length - j) rfl (by rw [hd]; rfl) (cell_I _) rfl rfl (by simp; omega) (by simp) (by omega) (by first | exact trivial | exact Sub.nil | exact Sub.refl _ | exact Sub.app _ _ | exact SubL.sub (by repeat (first | exact SubL.nil | apply SubL.none | apply SubL.some | apply SubL.sh | apply SubL.eq)) | (refine Sub.of_eq ?_; intro o ob h; rcases o with _ | _ | _ | _ | _ | o <;> simp_all)) ?_
    refine q_mv rfl ?_
    refine rg_nil ?_
    refine VS_seq ?_
    refine VS_r0 rfl ?_
    refine q_mv rfl ?_
    refine q_mv rfl ?_
    first | refine q_len_m rfl ?_ | refine q_len_s rfl ?_ | refine q_len_o rfl ?_ | refine q_len_n rfl ?_ | refine q_len_x rfl ?_
    refine q_mv rfl ?_
    refine q_slc_s (i + (xs.length - j)) (xs.length - (i + (xs.length - j))) (cap - (i + (xs.length - j))) rfl rfl rfl rfl rfl ⟨by omega, by omega, by omega⟩ ⟨by omega, by omega, by omega⟩ (fun h => absurd h (by omega)) (fun _ => ?_)
    refine q_clear_s rfl rfl rfl (splice_le (by simp; omega) (by simp; omega)) (by omega) rfl ⟨trivial, ?_⟩
    refine rg_nil ?_
    refine VS_seq ?_
    refine VS_r0 rfl ?_
    refine q_mv rfl ?_
    refine q_mv rfl ?_
    refine rg_nil ?_
    refine VS_bd (Bd.subP (ps := (xs.take i ++ xs.drop j).map (fun k => (i64 k))) 6 rfl rfl (splice_le (splice_le (by simp; omega) (by simp; omega)) (splice_le (by simp; omega) (by simp; omega))) (by rw [Nat.zero_add, del_some _ (by omega) h2]; exact toPVs_dI _) ?_)
    refine VS_ret ?_
    exact Bd.now ⟨_, rfl, rfl, rfl⟩
end Go.V

set_option maxHeartbeats 4000000
namespace Go.V
open Go.Proofs.Try (prog)
theorem c_laws_equalInts (xs ys : List Int) (hx : xs.length ≤ 1000000000) (hy : ys.length ≤ 1000000000) : PCon prog 35 [ints xs, ints ys] (fun p => p = .bool (decide (xs = ys))) := by
  refine con_of_VS sl_laws_equalInts (by simp) ?_
  refine VS_seq ?_
  refine VS_r0 rfl ?_
  refine q_mv rfl ?_
  refine rg_nil ?_
  refine VS_seq ?_
  refine VS_seq ?_
  refine VS_r0 rfl ?_
  refine q_mv rfl ?_
  first | refine q_len_m rfl ?_ | refine q_len_s rfl ?_ | refine q_len_o rfl ?_ | refine q_len_n rfl ?_ | refine q_len_x rfl ?_
  refine q_mv rfl ?_
  first | refine q_len_m rfl ?_ | refine q_len_s rfl ?_ | refine q_len_o rfl ?_ | refine q_len_n rfl ?_ | refine q_len_x rfl ?_
  refine q_neq rfl rfl ?_
  refine rg_nil ?_
  refine VS_cond rfl (fun c0 => ?_) (fun c0 => ?_)
  · try simp at c0
    refine VS_seq ?_
    refine VS_r0 rfl ?_
    refine q_mv rfl ?_
    refine rg_nil ?_
    refine VS_ret ?_
    refine Bd.now ⟨_, rfl, congrArg PV.bool (decide_eq_false fun e => ?_).symm⟩
    subst e; omega
  · try simp at c0
    refine VS_skip ?_
    refine VS_seq ?_
    refine VS_seq ?_
    refine VS_r0 rfl ?_
    refine q_mv rfl ?_
    refine rg_nil ?_
    refine VS_block ?_
    refine VS_bd (Bd.keepL [(0, .pv (ints xs)), (1, .pv (ints ys)), (4, .pv (.bool false)), (5, .pv (i64 0))] ⟨rfl, rfl, rfl, rfl, trivial⟩ ?_)
    refine VS_loop (fun mz E S => ∃ i : Nat, mz = xs.length - i ∧ (i ≤ xs.length) ∧ (∀ j, j < i → nth xs j = nth ys j) ∧ E = env [(0, .pv (ints xs)), (1, .pv (ints ys)), (4, .pv (.bool false)), (5, .pv (i64 i))] ∧ S = []) ⟨_, 0, rfl, (by first | omega | (intros; omega) | simp), (by first | omega | (intros; omega) | simp), rfl, rfl⟩ ?_
    rintro mz _ _ ⟨i, hmeas, g0, g1, rfl, rfl⟩
    refine VS_seq ?_
    refine VS_seq ?_
    refine VS_r0 rfl ?_
    refine q_mv rfl ?_
    refine q_mv rfl ?_
    first | refine q_len_m rfl ?_ | refine q_len_s rfl ?_ | refine q_len_o rfl ?_ | refine q_len_n rfl ?_ | refine q_len_x rfl ?_
    refine q_lss rfl rfl ?_
    refine rg_nil ?_
    refine VS_cond rfl (fun c1 => ?_) (fun c1 => ?_)
    · try simp at c1
      refine VS_skip ?_
      refine VS_seq ?_
      refine VS_block ?_
      refine VS_seq ?_
      refine VS_r1 hmix rfl ?_
      refine q_mv rfl ?_
      refine q_mv rfl ?_
      first | refine q_idx_c _ rfl rfl (by omega) (fun _ => rfl) ?_ | refine q_idx_m rfl rfl (by omega) (by omega) (fun _ => rfl) ?_ | refine q_idx_om rfl rfl (by omega) (by omega) rfl rfl ?_
      first | refine q_load_c rfl rfl rfl ?_ | refine q_load_r rfl rfl rfl rfl rfl rfl rfl ?_ | refine q_load_o rfl rfl rfl rfl rfl ?_
      refine q_mv rfl ?_
      refine q_mv rfl ?_
      first | refine q_idx_c _ rfl rfl (by omega) (fun _ => rfl) ?_ | refine q_idx_m rfl rfl (by omega) (by omega) (fun _ => rfl) ?_ | refine q_idx_om rfl rfl (by omega) (by omega) rfl rfl ?_
      first | refine q_load_c rfl rfl rfl ?_ | refine q_load_r rfl rfl rfl rfl rfl rfl rfl ?_ | refine q_load_o rfl rfl rfl rfl rfl ?_
      refine q_neq rfl rfl ?_
      refine rg_nil ?_
      refine VS_cond rfl (fun c2 => ?_) (fun c2 => ?_)
      · try simp at c2
        refine VS_seq ?_
        refine VS_r0 rfl ?_
        refine q_mv rfl ?_
        refine rg_nil ?_
        refine VS_ret ?_
        refine Bd.now ⟨_, rfl, congrArg PV.bool (decide_eq_false fun e => ?_).symm⟩
        subst e; exact c2 rfl
      · try simp at c2
        refine VS_skip ?_
        refine VS_r0 rfl ?_
        refine q_mv rfl ?_
        refine q_add rfl rfl (inR64 (by omega)) ?_
        refine q_mv rfl ?_
        refine rg_nil ?_
        refine Bd.keepL [(0, .pv (ints xs)), (1, .pv (ints ys)), (4, .pv (.bool false)), (5, .pv (i64 (i + 1)))] ⟨rfl, rfl, rfl, rfl, trivial⟩ ⟨_, ?_, i + 1, rfl, ?_, ?_, rfl, rfl⟩
        · first | omega | assumption | rfl | (simp; omega)
        · first | omega | assumption | rfl | (simp; omega)
        · intro j hj
          by_cases e : j = i
          · subst e; simpa using c2
          · exact g1 j (by omega)
    · try simp at c1
      refine VS_exit ?_
      refine VS_seq ?_
      refine VS_r0 rfl ?_
      refine q_mv rfl ?_
      refine rg_nil ?_
      refine VS_ret ?_
      exact Bd.now ⟨_, rfl, congrArg PV.bool (decide_eq_true (list_ext_nth (by omega) fun j hj => g1 j (by omega))).symm⟩
theorem c_impl_RemoveKey (xs : List Int) (k : Int) (hl : xs.length ≤ 1000000000) : PCon prog 40 [ints xs, i64 k] (fun p => p = .tup [ints (if goodKeys xs && xs.contains k then rmK xs k else []), .bool (goodKeys xs && xs.contains k)]) := by
  refine con_of_VS sl_impl_RemoveKey (by simp) ?_
  refine VS_seq ?_
  refine VS_r0 rfl ?_
  refine q_mv rfl ?_
  refine q_mv rfl ?_
  refine rg_nil ?_
  refine VS_seq ?_
  refine VS_seq ?_
  refine VS_r0 rfl ?_
  refine q_mv rfl ?_
  refine q_callp (c_impl_ValidKeys _ (by omega)) rfl trivial ?_
  refine q_not rfl ?_
  refine rg_nil ?_
  refine VS_cond rfl (fun c0 => ?_) (fun c0 => ?_)
  · try simp at c0
    refine VS_seq ?_
    refine VS_r0 rfl ?_
    refine q_mv rfl ?_
    refine q_mv rfl ?_
    refine rg_nil ?_
    refine VS_ret ?_
    exact Bd.now ⟨_, rfl, by simp [c0]⟩
  · try simp at c0
    refine VS_skip ?_
    refine VS_seq ?_
    refine VS_r0 rfl ?_
    refine q_mv rfl ?_
    refine q_mv rfl ?_
    refine q_callp ((c_impl_KeysBelow xs k hl).to (y := i64 (upTo xs (k - 1))) (by rw [if_pos c0])) rfl trivial ?_
    refine q_mv rfl ?_
    refine rg_nil ?_
    have l1 := contains_below (k := k) c0
    have l2 := upTo_le xs (k - 1)
    refine VS_seq ?_
    refine VS_seq ?_
    refine VS_r0 rfl ?_
    refine q_mv rfl ?_
    refine q_mv rfl ?_
    first | refine q_len_m rfl ?_ | refine q_len_s rfl ?_ | refine q_len_o rfl ?_ | refine q_len_n rfl ?_ | refine q_len_x rfl ?_
    refine q_eql rfl rfl ?_
    refine q_mv rfl ?_
    refine q_b rfl (fun g17 => ?_) (fun g17 => ?_)
    · try simp at g17
      refine q_t rfl ?_
      refine q_mv rfl ?_
      refine q_t rfl ?_
      refine q_mv rfl ?_
      refine q_t rfl ?_
      first | refine q_idx_c _ rfl rfl (by omega) (fun _ => rfl) ?_ | refine q_idx_m rfl rfl (by omega) (by omega) (fun _ => rfl) ?_ | refine q_idx_om rfl rfl (by omega) (by omega) rfl rfl ?_
      refine q_t rfl ?_
      first | refine q_load_c rfl rfl rfl ?_ | refine q_load_r rfl rfl rfl rfl rfl rfl rfl ?_ | refine q_load_o rfl rfl rfl rfl rfl ?_
      refine q_t rfl ?_
      refine q_mv rfl ?_
      refine q_t rfl ?_
      refine q_neq rfl rfl ?_
      refine q_pick_f rfl rfl ?_
      refine rg_nil ?_
      refine VS_cond rfl (fun c1 => ?_) (fun c1 => ?_)
      · try simp at c1
        refine VS_seq ?_
        refine VS_r0 rfl ?_
        refine q_mv rfl ?_
        refine q_mv rfl ?_
        refine rg_nil ?_
        refine VS_ret ?_
        refine Bd.now ⟨_, rfl, ?_⟩
        have l3 : xs.contains k = false := by
          rw [l1]
          by_cases e : upTo xs (k - 1) = xs.length
          · simp [e]
          · first | (exfalso; omega) | simp_all
        rw [c0, l3]; rfl
      · try simp at c1
        refine VS_skip ?_
        refine VS_seq ?_
        refine VS_r0 rfl ?_
        refine q_mv rfl ?_
        refine q_new rfl (c_slices_Clone_int _ (by first | omega | (simp; omega))) (flat_I _) (by first | rfl | (repeat' (first | exact toRs_nil | refine toRs_cons ?_ ?_ | rfl | exact toR_I rfl | exact toR_P rfl | refine toR_agg2 ?_ ?_ | refine toR_agg3 ?_ ?_ ?_))) trivial ?_
        refine q_mv rfl ?_
        refine q_mv rfl ?_
        refine q_add rfl rfl (inR64 (by omega)) ?_
        refine q_del rfl (c_slices_Delete_int xs (upTo xs (k - 1)) (upTo xs (k - 1) + 1) (by omega) (by omega) hl) (ne_map (by omega)) (dI_mp _) rfl rfl trivial ?_
        refine q_mv rfl ?_
        refine q_mv rfl ?_
        refine rg_nil ?_
        refine VS_ret ?_
        have l3 : xs.contains k = true := by rw [l1]; simp_all; omega
        exact Bd.now ⟨_, rfl, by rw [c0, l3]; rfl⟩
    · try simp at g17
      refine q_f rfl ?_
      refine q_f rfl ?_
      refine q_f rfl ?_
      refine q_f rfl ?_
      refine q_f rfl ?_
      refine q_f rfl ?_
      refine q_pick_t rfl rfl ?_
      refine rg_nil ?_
      refine VS_cond rfl (fun _ => ?_) (fun e => by cases e)
      refine VS_seq ?_
      refine VS_r0 rfl ?_
      refine q_mv rfl ?_
      refine q_mv rfl ?_
      refine rg_nil ?_
      refine VS_ret ?_
      refine Bd.now ⟨_, rfl, ?_⟩
      have l3 : xs.contains k = false := by
        rw [l1]
        by_cases e : upTo xs (k - 1) = xs.length
        · simp [e]
        · first | (exfalso; omega) | simp_all
      rw [c0, l3]; rfl
theorem c_spec_RemoveKey (xs : List Int) (k : Int) (hl : xs.length ≤ 1000000000) : PCon prog 43 [ints xs, i64 k] (fun p => p = .tup [ints (if goodKeys xs && xs.contains k then rmK xs k else []), .bool (goodKeys xs && xs.contains k)]) := by
  refine con_of_VS sl_spec_RemoveKey (by simp) ?_
  refine VS_seq ?_
  refine VS_r0 rfl ?_
  refine q_mv rfl ?_
  refine q_mv rfl ?_
  refine rg_nil ?_
  refine VS_seq ?_
  refine VS_seq ?_
  refine VS_r0 rfl ?_
  refine q_mv rfl ?_
  refine q_callp (c_spec_validKeys _ (by omega)) rfl trivial ?_
  refine q_not rfl ?_
  refine q_mv rfl ?_
  refine q_b rfl (fun g10 => ?_) (fun g10 => ?_)
  · try simp at g10
    refine q_t rfl ?_
    refine q_mv rfl ?_
    refine q_t rfl ?_
    refine q_mv rfl ?_
    refine q_t rfl ?_
    refine q_callp (c_spec_isIn _ _ (by omega)) rfl trivial ?_
    refine q_t rfl ?_
    refine q_not rfl ?_
    refine q_pick_f rfl rfl ?_
    refine rg_nil ?_
    refine VS_cond rfl (fun c0 => ?_) (fun c0 => ?_)
    · try simp at c0
      refine VS_seq ?_
      refine VS_r0 rfl ?_
      refine q_mv rfl ?_
      refine q_mv rfl ?_
      refine rg_nil ?_
      refine VS_ret ?_
      refine Bd.now ⟨_, rfl, ?_⟩
      have : (goodKeys xs && xs.contains k) = false := by simp_all
      rw [this]; rfl
    · try simp at c0
      refine VS_skip ?_
      refine VS_seq ?_
      refine VS_r0 rfl ?_
      refine q_mv rfl ?_
      refine q_mv rfl ?_
      refine q_callp (c_spec_below xs k hl) rfl trivial ?_
      refine q_mv rfl ?_
      refine rg_nil ?_
      have l0 : goodKeys xs = true := by simp_all
      have l3 : xs.contains k = true := by simp_all
      have l1 := contains_below (k := k) l0
      have l2 : upTo xs (k - 1) < xs.length := by rw [l3] at l1; simp at l1; omega
      refine VS_seq ?_
      refine VS_r2 [] hmix Sub.nil ?_
      refine q_mv rfl ?_
      refine q_mv rfl ?_
      refine q_slc_m (xs := xs) (f := fun k => i64 k) 0 (upTo xs (k - 1)) rfl rfl rfl ⟨rfl, rfl, by omega, by omega⟩ (fun _ => rfl) ?_
      refine q_mv rfl ?_
      refine q_mv rfl ?_
      refine q_add rfl rfl (inR64 (by omega)) ?_
      refine q_slc_m (xs := xs) (f := fun k => i64 k) (upTo xs (k - 1) + 1) xs.length rfl rfl rfl ⟨rfl, by simp, by omega, by omega⟩ (fun _ => rfl) ?_
      refine q_new rfl (c_spec_copyInts ((xs.take (upTo xs (k - 1))).drop 0) (by first | omega | (simp; omega))) (flat_I _) (by first | rfl | (repeat' (first | exact toRs_nil | refine toRs_cons ?_ ?_ | rfl | exact toR_I rfl | exact toR_P rfl | refine toR_agg2 ?_ ?_ | refine toR_agg3 ?_ ?_ ?_))) (by first | exact trivial | exact Sub.nil | exact Sub.refl _ | exact Sub.app _ _ | exact SubL.sub (by repeat (first | exact SubL.nil | apply SubL.none | apply SubL.some | apply SubL.sh | apply SubL.eq)) | (refine Sub.of_eq ?_; intro o ob h; rcases o with _ | _ | _ | _ | _ | o <;> simp_all)) ?_
      refine q_app_dm (xs := (xs.take (upTo xs (k - 1))).drop 0) (ys := (xs.take xs.length).drop (upTo xs (k - 1) + 1)) (f := fun k => .pv (i64 k)) rfl (elems_I _) (cell_I _) rfl ⟨by simp; omega, by simp; omega⟩ (by first | exact trivial | exact Sub.nil | exact Sub.refl _ | exact Sub.app _ _ | exact SubL.sub (by repeat (first | exact SubL.nil | apply SubL.none | apply SubL.some | apply SubL.sh | apply SubL.eq)) | (refine Sub.of_eq ?_; intro o ob h; rcases o with _ | _ | _ | _ | _ | o <;> simp_all)) ?_
      refine q_mv rfl ?_
      refine q_mv rfl ?_
      refine rg_nil ?_
      refine VS_ret ?_
      refine Bd.pureB 4 1 3 1 (xs := dI ((xs.take (upTo xs (k - 1))).drop 0 ++ (xs.take xs.length).drop (upTo xs (k - 1) + 1))) rfl rfl (toPVs_dI _) ?_
      exact Bd.now ⟨_, rfl, by rw [l0, l3]; simp [rmK]⟩
  · try simp at g10
    refine q_f rfl ?_
    refine q_f rfl ?_
    refine q_f rfl ?_
    refine q_f rfl ?_
    refine q_pick_t rfl rfl ?_
    refine rg_nil ?_
    refine VS_cond rfl (fun _ => ?_) (fun e => by cases e)
    refine VS_seq ?_
    refine VS_r0 rfl ?_
    refine q_mv rfl ?_
    refine q_mv rfl ?_
    refine rg_nil ?_
    refine VS_ret ?_
    refine Bd.now ⟨_, rfl, ?_⟩
    have : (goodKeys xs && xs.contains k) = false := by simp_all
    rw [this]; rfl
theorem c_spec_DrawKeysBelow (bs : List Int) (hb : isU8 bs) (hl : bs.length ≤ 1048576) : PCon prog 69 [u8s bs] (fun p => ∃ (ks : List Int) (k : Int), p = .tup [ints ks, i64 k] ∧ (ks.length ≤ 20 ∧ bdI 1000000000 ks) ∧ -1000000001 ≤ k ∧ k ≤ 1000000001) := by
  refine con_of_VS sl_spec_DrawKeysBelow (by simp) ?_
  refine VS_seq ?_
  refine VS_r0 rfl ?_
  refine q_mv rfl ?_
  refine q_mv rfl ?_
  refine rg_nil ?_
  refine VS_seq ?_
  refine VS_r0 rfl ?_
  refine q_mv rfl ?_
  refine q_newRd rfl (c_spec_newReader _ hb hl) rfl (fun _ => trivial) ?_
  rintro bs ⟨hb, hbl⟩
  refine q_mv rfl ?_
  refine rg_nil ?_
  refine VS_seq ?_
  refine VS_r0 rfl ?_
  refine q_mv rfl ?_
  refine q_rd rfl (c_spec_someKeys bs hb hbl _ (by omega) (by omega)) rfl rfl (fun _ => trivial) ?_
  rintro _ q9 ⟨ks, rfl, ⟨hx1, hx2⟩, ⟨hq1, hq2⟩⟩
  refine q_mv rfl ?_
  refine rg_nil ?_
  refine VS_seq ?_
  refine VS_r0 rfl ?_
  refine q_mv rfl ?_
  refine q_mv rfl ?_
  refine q_mv rfl ?_
  refine q_rd rfl (c_spec_keyNear bs hb hbl _ (by omega) ks (by omega) hx2 (by omega)) rfl rfl (fun _ => trivial) ?_
  rintro _ q13 ⟨k, rfl, q_k, ⟨hq3, hq4⟩⟩
  refine q_mv rfl ?_
  refine q_mv rfl ?_
  refine rg_nil ?_
  refine VS_ret ?_
  exact Bd.now ⟨_, rfl, ks, k, rfl, ⟨hx1, hx2⟩, q_k⟩
theorem c_spec_DrawRemoveKey (bs : List Int) (hb : isU8 bs) (hl : bs.length ≤ 1048576) : PCon prog 42 [u8s bs] (fun p => ∃ (ks : List Int) (k : Int), p = .tup [ints ks, i64 k] ∧ (ks.length ≤ 20 ∧ bdI 1000000000 ks) ∧ -1000000001 ≤ k ∧ k ≤ 1000000001) := by
  refine con_of_VS sl_spec_DrawRemoveKey (by simp) ?_
  refine VS_seq ?_
  refine VS_r0 rfl ?_
  refine q_mv rfl ?_
  refine q_mv rfl ?_
  refine rg_nil ?_
  refine VS_seq ?_
  refine VS_r0 rfl ?_
  refine q_mv rfl ?_
  refine q_calle rfl (c_spec_DrawKeysBelow bs hb hl) rfl trivial ?_
  rintro _ ⟨ks, k, rfl, ⟨hx1, hx2⟩, q_k⟩
  refine q_ext rfl rfl ?_
  refine q_ext rfl rfl ?_
  refine q_mv rfl ?_
  refine q_mv rfl ?_
  refine rg_nil ?_
  refine VS_ret ?_
  exact Bd.now ⟨_, rfl, ks, k, rfl, ⟨hx1, hx2⟩, q_k⟩
end Go.V
