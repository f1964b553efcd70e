/- A part of the proofs about laws of the page tree (see the text that bears the law): a small language of steps, its rules, and what the functions of the program return. -/
import Derived.Test.YtjbihdcdamchnaaVR
import Derived.Test.YtjbihdcdamchnaaSLa
set_option linter.all false
set_option linter.unusedVariables false
set_option linter.unusedSimpArgs false
set_option maxHeartbeats 4000000
namespace Go.V
open Go.Proofs.Try (prog)
theorem c_spec_inRange (k a b : Int) : PCon prog 74 [i64 k, i64 a, i64 b] (fun p => p = .bool (decide (a ≤ k) && decide (k ≤ b))) := by
  refine con_of_VS sl_spec_inRange (by simp) ?_
  refine VS_seq ?_
  refine VS_r0 rfl ?_
  refine q_mv rfl ?_
  refine rg_nil ?_
  refine VS_seq ?_
  refine VS_r0 rfl ?_
  refine q_mv rfl ?_
  refine q_mv rfl ?_
  refine q_leq rfl rfl ?_
  refine q_mv rfl ?_
  refine q_b rfl (fun g10 => ?_) (fun g10 => ?_)
  · try simp at g10
    refine q_t rfl ?_
    refine q_mv rfl ?_
    refine q_t rfl ?_
    refine q_mv rfl ?_
    refine q_t rfl ?_
    refine q_leq rfl rfl ?_
    refine q_pick_t rfl rfl ?_
    refine q_mv rfl ?_
    refine rg_nil ?_
    refine VS_ret ?_
    exact Bd.now ⟨_, rfl, (by first | rfl | (simp [*]; done) | (simp; omega) | (simp_all; done) | (simp_all; omega))⟩
  · try simp at g10
    refine q_f rfl ?_
    refine q_f rfl ?_
    refine q_f rfl ?_
    refine q_pick_f rfl rfl ?_
    refine q_mv rfl ?_
    refine rg_nil ?_
    refine VS_ret ?_
    exact Bd.now ⟨_, rfl, (by first | rfl | (simp [*]; done) | (simp; omega) | (simp_all; done) | (simp_all; omega))⟩
theorem c_impl_isKey (k : Int) : PCon prog 70 [i64 k] (fun p => p = .bool (decide (0 ≤ k) && decide (k ≤ 99))) := by
  refine con_of_VS sl_impl_isKey (by simp) ?_
  refine VS_seq ?_
  refine VS_r0 rfl ?_
  refine q_mv rfl ?_
  refine rg_nil ?_
  refine VS_seq ?_
  refine VS_r0 rfl ?_
  refine q_mv rfl ?_
  refine q_geq rfl rfl ?_
  refine q_mv rfl ?_
  refine q_b rfl (fun g5 => ?_) (fun g5 => ?_)
  · try simp at g5
    refine q_t rfl ?_
    refine q_mv rfl ?_
    refine q_t rfl ?_
    refine q_leq rfl rfl ?_
    refine q_pick_t rfl rfl ?_
    refine q_mv rfl ?_
    refine rg_nil ?_
    refine VS_ret ?_
    exact Bd.now ⟨_, rfl, (by first | rfl | (simp [*]; done) | (simp; omega) | (simp_all; done) | (simp_all; omega))⟩
  · try simp at g5
    refine q_f rfl ?_
    refine q_f rfl ?_
    refine q_pick_f rfl rfl ?_
    refine q_mv rfl ?_
    refine rg_nil ?_
    refine VS_ret ?_
    exact Bd.now ⟨_, rfl, (by first | rfl | (simp [*]; done) | (simp; omega) | (simp_all; done) | (simp_all; omega))⟩
theorem c_impl_isValue (k : Int) : PCon prog 67 [i64 k] (fun p => p = .bool (decide (-1000 ≤ k) && decide (k ≤ 1000))) := by
  refine con_of_VS sl_impl_isValue (by simp) ?_
  refine VS_seq ?_
  refine VS_r0 rfl ?_
  refine q_mv rfl ?_
  refine rg_nil ?_
  refine VS_seq ?_
  refine VS_r0 rfl ?_
  refine q_mv rfl ?_
  refine q_geq rfl rfl ?_
  refine q_mv rfl ?_
  refine q_b rfl (fun g5 => ?_) (fun g5 => ?_)
  · try simp at g5
    refine q_t rfl ?_
    refine q_mv rfl ?_
    refine q_t rfl ?_
    refine q_leq rfl rfl ?_
    refine q_pick_t rfl rfl ?_
    refine q_mv rfl ?_
    refine rg_nil ?_
    refine VS_ret ?_
    exact Bd.now ⟨_, rfl, (by first | rfl | (simp [*]; done) | (simp; omega) | (simp_all; done) | (simp_all; omega))⟩
  · try simp at g5
    refine q_f rfl ?_
    refine q_f rfl ?_
    refine q_pick_f rfl rfl ?_
    refine q_mv rfl ?_
    refine rg_nil ?_
    refine VS_ret ?_
    exact Bd.now ⟨_, rfl, (by first | rfl | (simp [*]; done) | (simp; omega) | (simp_all; done) | (simp_all; omega))⟩
theorem c_spec_allIn (xs : List Int) (a b : Int) (hl : xs.length ≤ 1000000000) : PCon prog 86 [ints xs, i64 a, i64 b] (fun p => p = .bool (xs.all fun k => decide (a ≤ k) && decide (k ≤ b))) := by
  refine con_of_VS sl_spec_allIn (by simp) ?_
  refine VS_seq ?_
  refine VS_r0 rfl ?_
  refine q_mv rfl ?_
  refine rg_nil ?_
  refine VS_seq ?_
  refine VS_seq ?_
  refine VS_r0 rfl ?_
  refine q_mv rfl ?_
  refine rg_nil ?_
  refine VS_block ?_
  refine VS_bd (Bd.keepL [(0, .pv (ints xs)), (1, .pv (i64 a)), (2, .pv (i64 b)), (6, .pv (.bool false)), (7, .pv (i64 0))] ⟨rfl, rfl, rfl, rfl, rfl, trivial⟩ ?_)
  refine VS_loop (fun mz E S => ∃ i : Nat, mz = xs.length - i ∧ (i ≤ xs.length) ∧ (∀ j, j < i → (decide (a ≤ nth xs j) && decide (nth xs j ≤ b)) = true) ∧ E = env [(0, .pv (ints xs)), (1, .pv (i64 a)), (2, .pv (i64 b)), (6, .pv (.bool false)), (7, .pv (i64 i))] ∧ S = []) ⟨_, 0, rfl, (by first | omega | (intros; omega) | simp), (by first | omega | (intros; omega) | simp), rfl, rfl⟩ ?_
  rintro mz _ _ ⟨i, hmeas, g1, g2, rfl, rfl⟩
  refine VS_seq ?_
  refine VS_seq ?_
  refine VS_r0 rfl ?_
  refine q_mv rfl ?_
  refine q_mv rfl ?_
  first | refine q_len_m rfl ?_ | refine q_len_s rfl ?_ | refine q_len_o rfl ?_ | refine q_len_n rfl ?_ | refine q_len_x rfl ?_
  refine q_lss rfl rfl ?_
  refine rg_nil ?_
  refine VS_cond rfl (fun c0 => ?_) (fun c0 => ?_)
  · try simp at c0
    refine VS_skip ?_
    refine VS_seq ?_
    refine VS_block ?_
    refine VS_seq ?_
    refine VS_r0 rfl ?_
    refine q_mv rfl ?_
    refine q_mv rfl ?_
    first | refine q_idx_c _ rfl rfl (by omega) (fun _ => rfl) ?_ | refine q_idx_m rfl rfl (by omega) (by omega) (fun _ => rfl) ?_ | refine q_idx_om rfl rfl (by omega) (by omega) rfl rfl ?_
    first | refine q_load_c rfl rfl rfl ?_ | refine q_load_r rfl rfl rfl rfl rfl rfl rfl ?_ | refine q_load_o rfl rfl rfl rfl rfl ?_
    refine q_mv rfl ?_
    refine q_mv rfl ?_
    refine q_callp (c_spec_inRange _ _ _) rfl (by first | exact trivial | exact Sub.nil | exact Sub.refl _ | exact Sub.app _ _ | exact SubL.sub (by repeat (first | exact SubL.nil | apply SubL.none | apply SubL.some | apply SubL.sh | apply SubL.eq)) | (refine Sub.of_eq ?_; intro o ob h; rcases o with _ | _ | _ | _ | _ | o <;> simp_all)) ?_
    refine q_not rfl ?_
    refine rg_nil ?_
    refine VS_cond rfl (fun c1 => ?_) (fun c1 => ?_)
    · try simp at c1
      refine VS_seq ?_
      refine VS_r0 rfl ?_
      refine q_mv rfl ?_
      refine rg_nil ?_
      refine VS_ret ?_
      exact Bd.now ⟨_, rfl, congrArg PV.bool (all_false i c0 (by simp; omega)).symm⟩
    · try simp at c1
      refine VS_skip ?_
      refine VS_r0 rfl ?_
      refine q_mv rfl ?_
      refine q_add rfl rfl (inR64 (by omega)) ?_
      refine q_mv rfl ?_
      refine rg_nil ?_
      refine Bd.keepL [(0, .pv (ints xs)), (1, .pv (i64 a)), (2, .pv (i64 b)), (6, .pv (.bool false)), (7, .pv (i64 (i + 1)))] ⟨rfl, rfl, rfl, rfl, rfl, trivial⟩ ⟨_, ?_, i + 1, rfl, ?_, ?_, rfl, rfl⟩
      · first | omega | assumption | rfl | (simp; omega)
      · first | omega | assumption | rfl | (simp; omega)
      · intro j hj
        by_cases e : j = i
        · subst e; simp_all
        · exact g2 j (by omega)
  · try simp at c0
    refine VS_exit ?_
    refine VS_seq ?_
    refine VS_r0 rfl ?_
    refine q_mv rfl ?_
    refine rg_nil ?_
    refine VS_ret ?_
    exact Bd.now ⟨_, rfl, congrArg PV.bool (all_true fun j hj => g2 j (by omega)).symm⟩
theorem c_spec_isIn (xs : List Int) (k : Int) (hl : xs.length ≤ 1000000000) : PCon prog 65 [ints xs, i64 k] (fun p => p = .bool (xs.contains k)) := by
  refine con_of_VS sl_spec_isIn (by simp) ?_
  refine VS_seq ?_
  refine VS_r0 rfl ?_
  refine q_mv rfl ?_
  refine rg_nil ?_
  refine VS_seq ?_
  refine VS_seq ?_
  refine VS_r0 rfl ?_
  refine q_mv rfl ?_
  refine rg_nil ?_
  refine VS_block ?_
  refine VS_bd (Bd.keepL [(0, .pv (ints xs)), (1, .pv (i64 k)), (4, .pv (.bool false)), (5, .pv (i64 0))] ⟨rfl, rfl, rfl, rfl, trivial⟩ ?_)
  refine VS_loop (fun mz E S => ∃ i : Nat, mz = xs.length - i ∧ (i ≤ xs.length) ∧ (∀ j, j < i → nth xs j ≠ k) ∧ E = env [(0, .pv (ints xs)), (1, .pv (i64 k)), (4, .pv (.bool false)), (5, .pv (i64 i))] ∧ S = []) ⟨_, 0, rfl, (by first | omega | (intros; omega) | simp), (by first | omega | (intros; omega) | simp), rfl, rfl⟩ ?_
  rintro mz _ _ ⟨i, hmeas, g1, g2, rfl, rfl⟩
  refine VS_seq ?_
  refine VS_seq ?_
  refine VS_r0 rfl ?_
  refine q_mv rfl ?_
  refine q_mv rfl ?_
  first | refine q_len_m rfl ?_ | refine q_len_s rfl ?_ | refine q_len_o rfl ?_ | refine q_len_n rfl ?_ | refine q_len_x rfl ?_
  refine q_lss rfl rfl ?_
  refine rg_nil ?_
  refine VS_cond rfl (fun c0 => ?_) (fun c0 => ?_)
  · try simp at c0
    refine VS_skip ?_
    refine VS_seq ?_
    refine VS_block ?_
    refine VS_seq ?_
    refine VS_r0 rfl ?_
    refine q_mv rfl ?_
    refine q_mv rfl ?_
    first | refine q_idx_c _ rfl rfl (by omega) (fun _ => rfl) ?_ | refine q_idx_m rfl rfl (by omega) (by omega) (fun _ => rfl) ?_ | refine q_idx_om rfl rfl (by omega) (by omega) rfl rfl ?_
    first | refine q_load_c rfl rfl rfl ?_ | refine q_load_r rfl rfl rfl rfl rfl rfl rfl ?_ | refine q_load_o rfl rfl rfl rfl rfl ?_
    refine q_mv rfl ?_
    refine q_eql rfl rfl ?_
    refine rg_nil ?_
    refine VS_cond rfl (fun c1 => ?_) (fun c1 => ?_)
    · try simp at c1
      refine VS_seq ?_
      refine VS_r0 rfl ?_
      refine q_mv rfl ?_
      refine rg_nil ?_
      refine VS_ret ?_
      exact Bd.now ⟨_, rfl, congrArg PV.bool (has_true i c0 c1).symm⟩
    · try simp at c1
      refine VS_skip ?_
      refine VS_r0 rfl ?_
      refine q_mv rfl ?_
      refine q_add rfl rfl (inR64 (by omega)) ?_
      refine q_mv rfl ?_
      refine rg_nil ?_
      refine Bd.keepL [(0, .pv (ints xs)), (1, .pv (i64 k)), (4, .pv (.bool false)), (5, .pv (i64 (i + 1)))] ⟨rfl, rfl, rfl, rfl, trivial⟩ ⟨_, ?_, i + 1, rfl, ?_, ?_, rfl, rfl⟩
      · first | omega | assumption | rfl | (simp; omega)
      · first | omega | assumption | rfl | (simp; omega)
      · intro j hj
        by_cases e : j = i
        · subst e; simp_all
        · exact g2 j (by omega)
  · try simp at c0
    refine VS_exit ?_
    refine VS_seq ?_
    refine VS_r0 rfl ?_
    refine q_mv rfl ?_
    refine rg_nil ?_
    refine VS_ret ?_
    exact Bd.now ⟨_, rfl, congrArg PV.bool (has_false fun j hj => g2 j (by omega)).symm⟩
theorem c_laws_isIn (xs : List Int) (k : Int) (hl : xs.length ≤ 1000000000) : PCon prog 44 [ints xs, i64 k] (fun p => p = .bool (xs.contains k)) := by
  refine con_of_VS sl_laws_isIn (by simp) ?_
  refine VS_seq ?_
  refine VS_r0 rfl ?_
  refine q_mv rfl ?_
  refine rg_nil ?_
  refine VS_seq ?_
  refine VS_seq ?_
  refine VS_r0 rfl ?_
  refine q_mv rfl ?_
  refine rg_nil ?_
  refine VS_block ?_
  refine VS_bd (Bd.keepL [(0, .pv (ints xs)), (1, .pv (i64 k)), (4, .pv (.bool false)), (5, .pv (i64 0))] ⟨rfl, rfl, rfl, rfl, trivial⟩ ?_)
  refine VS_loop (fun mz E S => ∃ i : Nat, mz = xs.length - i ∧ (i ≤ xs.length) ∧ (∀ j, j < i → nth xs j ≠ k) ∧ E = env [(0, .pv (ints xs)), (1, .pv (i64 k)), (4, .pv (.bool false)), (5, .pv (i64 i))] ∧ S = []) ⟨_, 0, rfl, (by first | omega | (intros; omega) | simp), (by first | omega | (intros; omega) | simp), rfl, rfl⟩ ?_
  rintro mz _ _ ⟨i, hmeas, g1, g2, rfl, rfl⟩
  refine VS_seq ?_
  refine VS_seq ?_
  refine VS_r0 rfl ?_
  refine q_mv rfl ?_
  refine q_mv rfl ?_
  first | refine q_len_m rfl ?_ | refine q_len_s rfl ?_ | refine q_len_o rfl ?_ | refine q_len_n rfl ?_ | refine q_len_x rfl ?_
  refine q_lss rfl rfl ?_
  refine rg_nil ?_
  refine VS_cond rfl (fun c0 => ?_) (fun c0 => ?_)
  · try simp at c0
    refine VS_skip ?_
    refine VS_seq ?_
    refine VS_block ?_
    refine VS_seq ?_
    refine VS_r0 rfl ?_
    refine q_mv rfl ?_
    refine q_mv rfl ?_
    first | refine q_idx_c _ rfl rfl (by omega) (fun _ => rfl) ?_ | refine q_idx_m rfl rfl (by omega) (by omega) (fun _ => rfl) ?_ | refine q_idx_om rfl rfl (by omega) (by omega) rfl rfl ?_
    first | refine q_load_c rfl rfl rfl ?_ | refine q_load_r rfl rfl rfl rfl rfl rfl rfl ?_ | refine q_load_o rfl rfl rfl rfl rfl ?_
    refine q_mv rfl ?_
    refine q_eql rfl rfl ?_
    refine rg_nil ?_
    refine VS_cond rfl (fun c1 => ?_) (fun c1 => ?_)
    · try simp at c1
      refine VS_seq ?_
      refine VS_r0 rfl ?_
      refine q_mv rfl ?_
      refine rg_nil ?_
      refine VS_ret ?_
      exact Bd.now ⟨_, rfl, congrArg PV.bool (has_true i c0 c1).symm⟩
    · try simp at c1
      refine VS_skip ?_
      refine VS_r0 rfl ?_
      refine q_mv rfl ?_
      refine q_add rfl rfl (inR64 (by omega)) ?_
      refine q_mv rfl ?_
      refine rg_nil ?_
      refine Bd.keepL [(0, .pv (ints xs)), (1, .pv (i64 k)), (4, .pv (.bool false)), (5, .pv (i64 (i + 1)))] ⟨rfl, rfl, rfl, rfl, trivial⟩ ⟨_, ?_, i + 1, rfl, ?_, ?_, rfl, rfl⟩
      · first | omega | assumption | rfl | (simp; omega)
      · first | omega | assumption | rfl | (simp; omega)
      · intro j hj
        by_cases e : j = i
        · subst e; simp_all
        · exact g2 j (by omega)
  · try simp at c0
    refine VS_exit ?_
    refine VS_seq ?_
    refine VS_r0 rfl ?_
    refine q_mv rfl ?_
    refine rg_nil ?_
    refine VS_ret ?_
    exact Bd.now ⟨_, rfl, congrArg PV.bool (has_false fun j hj => g2 j (by omega)).symm⟩
theorem c_spec_validKeys (xs : List Int) (hl : xs.length ≤ 1000000000) : PCon prog 73 [ints xs] (fun p => p = .bool (goodKeys xs)) := by
  refine con_of_VS sl_spec_validKeys (by simp) ?_
  refine VS_seq ?_
  refine VS_r0 rfl ?_
  refine q_mv rfl ?_
  refine rg_nil ?_
  refine VS_seq ?_
  refine VS_seq ?_
  refine VS_r0 rfl ?_
  refine q_mv rfl ?_
  refine rg_nil ?_
  refine VS_block ?_
  refine VS_bd (Bd.keepL [(0, .pv (ints xs)), (2, .pv (.bool false)), (3, .pv (i64 1))] ⟨rfl, rfl, rfl, trivial⟩ ?_)
  refine VS_loop (fun mz E S => ∃ i : Nat, mz = xs.length - i ∧ (1 ≤ i) ∧ (∀ j, j + 1 < i → nth xs j < nth xs (j + 1)) ∧ E = env [(0, .pv (ints xs)), (2, .pv (.bool false)), (3, .pv (i64 i))] ∧ S = []) ⟨_, 1, rfl, (by first | omega | (intros; omega) | simp), (by first | omega | (intros; omega) | simp), rfl, rfl⟩ ?_
  rintro mz _ _ ⟨i, hmeas, g1, g2, rfl, rfl⟩
  refine VS_seq ?_
  refine VS_seq ?_
  refine VS_r0 rfl ?_
  refine q_mv rfl ?_
  refine q_mv rfl ?_
  first | refine q_len_m rfl ?_ | refine q_len_s rfl ?_ | refine q_len_o rfl ?_ | refine q_len_n rfl ?_ | refine q_len_x rfl ?_
  refine q_lss rfl rfl ?_
  refine rg_nil ?_
  refine VS_cond rfl (fun c0 => ?_) (fun c0 => ?_)
  · try simp at c0
    refine VS_skip ?_
    refine VS_seq ?_
    refine VS_block ?_
    refine VS_seq ?_
    refine VS_r1 hmix rfl ?_
    refine q_mv rfl ?_
    refine q_mv rfl ?_
    first | refine q_idx_c _ rfl rfl (by omega) (fun _ => rfl) ?_ | refine q_idx_m rfl rfl (by omega) (by omega) (fun _ => rfl) ?_ | refine q_idx_om rfl rfl (by omega) (by omega) rfl rfl ?_
    first | refine q_load_c rfl rfl rfl ?_ | refine q_load_r rfl rfl rfl rfl rfl rfl rfl ?_ | refine q_load_o rfl rfl rfl rfl rfl ?_
    refine q_mv rfl ?_
    refine q_mv rfl ?_
    refine q_sub rfl rfl (inR64 (by omega)) ?_
    first | refine q_idx_c _ rfl rfl (by omega) (fun _ => rfl) ?_ | refine q_idx_m rfl rfl (by omega) (by omega) (fun _ => rfl) ?_ | refine q_idx_om rfl rfl (by omega) (by omega) rfl rfl ?_
    first | refine q_load_c rfl rfl rfl ?_ | refine q_load_r rfl rfl rfl rfl rfl rfl rfl ?_ | refine q_load_o rfl rfl rfl rfl rfl ?_
    refine q_leq rfl rfl ?_
    refine rg_nil ?_
    refine VS_cond rfl (fun c1 => ?_) (fun c1 => ?_)
    · try simp at c1
      refine VS_seq ?_
      refine VS_r0 rfl ?_
      refine q_mv rfl ?_
      refine rg_nil ?_
      refine VS_ret ?_
      exact Bd.now ⟨_, rfl, congrArg PV.bool (good_false i g1 c0 (by simpa using c1)).symm⟩
    · try simp at c1
      refine VS_skip ?_
      refine VS_r0 rfl ?_
      refine q_mv rfl ?_
      refine q_add rfl rfl (inR64 (by omega)) ?_
      refine q_mv rfl ?_
      refine rg_nil ?_
      refine Bd.keepL [(0, .pv (ints xs)), (2, .pv (.bool false)), (3, .pv (i64 (i + 1)))] ⟨rfl, rfl, rfl, trivial⟩ ⟨_, ?_, i + 1, rfl, ?_, ?_, rfl, rfl⟩
      · first | omega | assumption | rfl | (simp; omega)
      · first | omega | assumption | rfl | (simp; omega)
      · intro j hj
        by_cases e : j + 1 = i
        · have e2 : i - 1 = j := by omega
          have e3 : ((i : Int) - 1).toNat = j := by omega
          simp only [e2, e3] at c1
          rw [e]
          omega
        · exact g2 j (by omega)
  · try simp at c0
    refine VS_exit ?_
    refine VS_seq ?_
    refine VS_r0 rfl ?_
    refine q_mv rfl ?_
    refine q_callp (c_spec_allIn _ _ _ hl) rfl (by first | exact trivial | exact Sub.nil | exact Sub.refl _ | exact Sub.app _ _ | exact SubL.sub (by repeat (first | exact SubL.nil | apply SubL.none | apply SubL.some | apply SubL.sh | apply SubL.eq)) | (refine Sub.of_eq ?_; intro o ob h; rcases o with _ | _ | _ | _ | _ | o <;> simp_all)) ?_
    refine q_mv rfl ?_
    refine rg_nil ?_
    refine VS_ret ?_
    exact Bd.now ⟨_, rfl, congrArg PV.bool (good_all fun j hj => g2 j (by omega)).symm⟩
theorem c_impl_ValidKeys (xs : List Int) (hl : xs.length ≤ 1000000000) : PCon prog 41 [ints xs] (fun p => p = .bool (goodKeys xs)) := by
  refine con_of_VS sl_impl_ValidKeys (by simp) ?_
  refine VS_seq ?_
  refine VS_r0 rfl ?_
  refine q_mv rfl ?_
  refine rg_nil ?_
  refine VS_seq ?_
  refine VS_seq ?_
  refine VS_r0 rfl ?_
  refine q_mv rfl ?_
  first | refine q_len_m rfl ?_ | refine q_len_s rfl ?_ | refine q_len_o rfl ?_ | refine q_len_n rfl ?_ | refine q_len_x rfl ?_
  refine q_mv rfl ?_
  refine rg_nil ?_
  refine VS_block ?_
  refine VS_bd (Bd.keepL [(0, .pv (ints xs)), (2, .pv (.bool false)), (5, .pv (ints xs)), (6, .pv (i64 xs.length)), (7, .pv (i64 0))] ⟨rfl, rfl, rfl, rfl, rfl, trivial⟩ ?_)
  refine VS_loop (fun mz E S => ∃ i : Nat, mz = xs.length - i ∧ (i ≤ xs.length) ∧ (∀ j, j < i → 0 ≤ nth xs j ∧ nth xs j ≤ 99) ∧ (∀ j, j + 1 < i → nth xs j < nth xs (j + 1)) ∧ E = env [(0, .pv (ints xs)), (2, .pv (.bool false)), (5, .pv (ints xs)), (6, .pv (i64 xs.length)), (7, .pv (i64 i))] ∧ S = []) ⟨_, 0, rfl, (by first | omega | (intros; omega) | simp), (by first | omega | (intros; omega) | simp), (by first | omega | (intros; omega) | simp), rfl, rfl⟩ ?_
  rintro mz _ _ ⟨i, hmeas, g0, g1, g2, rfl, rfl⟩
  refine VS_seq ?_
  refine VS_r0 rfl ?_
  refine q_lss rfl rfl ?_
  refine rg_nil ?_
  refine VS_seq ?_
  refine VS_cond rfl (fun c0 => ?_) (fun c0 => ?_)
  · try simp at c0
    refine VS_skip ?_
    refine VS_seq ?_
    refine VS_block ?_
    refine VS_seq ?_
    refine VS_r0 rfl ?_
    refine q_mv rfl ?_
    first | refine q_idx_c _ rfl rfl (by omega) (fun _ => rfl) ?_ | refine q_idx_m rfl rfl (by omega) (by omega) (fun _ => rfl) ?_ | refine q_idx_om rfl rfl (by omega) (by omega) rfl rfl ?_
    first | refine q_load_c rfl rfl rfl ?_ | refine q_load_r rfl rfl rfl rfl rfl rfl rfl ?_ | refine q_load_o rfl rfl rfl rfl rfl ?_
    refine q_mv rfl ?_
    refine q_mv rfl ?_
    refine rg_nil ?_
    refine VS_seq ?_
    refine VS_seq ?_
    refine VS_r0 rfl ?_
    refine q_mv rfl ?_
    refine q_callp (c_impl_isKey _) rfl (by first | exact trivial | exact Sub.nil | exact Sub.refl _ | exact Sub.app _ _ | exact SubL.sub (by repeat (first | exact SubL.nil | apply SubL.none | apply SubL.some | apply SubL.sh | apply SubL.eq)) | (refine Sub.of_eq ?_; intro o ob h; rcases o with _ | _ | _ | _ | _ | o <;> simp_all)) ?_
    refine q_not rfl ?_
    refine rg_nil ?_
    refine VS_cond rfl (fun c1 => ?_) (fun c1 => ?_)
    · try simp at c1
      refine VS_seq ?_
      refine VS_r0 rfl ?_
      refine q_mv rfl ?_
      refine rg_nil ?_
      refine VS_ret ?_
      exact Bd.now ⟨_, rfl, congrArg PV.bool (good_false2 i c0 (by simp; omega)).symm⟩
    · try simp at c1
      refine VS_skip ?_
      refine VS_seq ?_
      refine VS_r0 rfl ?_
      refine q_mv rfl ?_
      refine q_gtr rfl rfl ?_
      refine q_mv rfl ?_
      refine q_b rfl (fun g17 => ?_) (fun g17 => ?_)
      · try simp at g17
        refine q_t rfl ?_
        refine q_mv rfl ?_
        refine q_t rfl ?_
        refine q_mv rfl ?_
        refine q_t rfl ?_
        refine q_sub rfl rfl (inR64 (by omega)) ?_
        refine q_t rfl ?_
        first | refine q_idx_c _ rfl rfl (by omega) (fun _ => rfl) ?_ | refine q_idx_m rfl rfl (by omega) (by omega) (fun _ => rfl) ?_ | refine q_idx_om rfl rfl (by omega) (by omega) rfl rfl ?_
        refine q_t rfl ?_
        first | refine q_load_c rfl rfl rfl ?_ | refine q_load_r rfl rfl rfl rfl rfl rfl rfl ?_ | refine q_load_o rfl rfl rfl rfl rfl ?_
        refine q_t rfl ?_
        refine q_mv rfl ?_
        refine q_t rfl ?_
        refine q_geq rfl rfl ?_
        refine q_pick_t rfl rfl ?_
        refine rg_nil ?_
        refine VS_cond rfl (fun c2 => ?_) (fun c2 => ?_)
        · try simp at c2
          refine VS_seq ?_
          refine VS_r0 rfl ?_
          refine q_mv rfl ?_
          refine rg_nil ?_
          refine VS_ret ?_
          exact Bd.now ⟨_, rfl, congrArg PV.bool (good_false i (by omega) c0 (by simpa using c2)).symm⟩
        · try simp at c2
          refine VS_skip ?_
          refine VS_r0 rfl ?_
          refine q_add rfl rfl (inR64 (by omega)) ?_
          refine q_mv rfl ?_
          refine rg_nil ?_
          refine Bd.keepL [(0, .pv (ints xs)), (2, .pv (.bool false)), (5, .pv (ints xs)), (6, .pv (i64 xs.length)), (7, .pv (i64 (i + 1)))] ⟨rfl, rfl, rfl, rfl, rfl, trivial⟩ ⟨_, ?_, i + 1, rfl, ?_, ?_, ?_, rfl, rfl⟩
          · first | omega | assumption | rfl | (simp; omega)
          · first | omega | assumption | rfl | (simp; omega)
          · intro j hj
            by_cases e : j = i
            · subst e; omega
            · exact g1 j (by omega)
          · intro j hj
            by_cases e : j + 1 = i
            · have e2 : i - 1 = j := by omega
              have e3 : ((i : Int) - 1).toNat = j := by omega
              first | (exfalso; omega) | (simp only [e2, e3] at c2; rw [e]; omega)
            · exact g2 j (by omega)
      · try simp at g17
        refine q_f rfl ?_
        refine q_f rfl ?_
        refine q_f rfl ?_
        refine q_f rfl ?_
        refine q_f rfl ?_
        refine q_f rfl ?_
        refine q_f rfl ?_
        refine q_pick_f rfl rfl ?_
        refine rg_nil ?_
        refine VS_cond rfl (fun e => by cases e) (fun _ => ?_)
        refine VS_skip ?_
        refine VS_r0 rfl ?_
        refine q_add rfl rfl (inR64 (by omega)) ?_
        refine q_mv rfl ?_
        refine rg_nil ?_
        refine Bd.keepL [(0, .pv (ints xs)), (2, .pv (.bool false)), (5, .pv (ints xs)), (6, .pv (i64 xs.length)), (7, .pv (i64 (i + 1)))] ⟨rfl, rfl, rfl, rfl, rfl, trivial⟩ ⟨_, ?_, i + 1, rfl, ?_, ?_, ?_, rfl, rfl⟩
        · first | omega | assumption | rfl | (simp; omega)
        · first | omega | assumption | rfl | (simp; omega)
        · intro j hj
          by_cases e : j = i
          · subst e; omega
          · exact g1 j (by omega)
        · intro j hj
          by_cases e : j + 1 = i
          · have e2 : i - 1 = j := by omega
            have e3 : ((i : Int) - 1).toNat = j := by omega
            first | (exfalso; omega) | (simp only [e2, e3] at c2; rw [e]; omega)
          · exact g2 j (by omega)
  · try simp at c0
    refine VS_exit ?_
    refine VS_seq ?_
    refine VS_r0 rfl ?_
    refine q_mv rfl ?_
    refine rg_nil ?_
    refine VS_ret ?_
    exact Bd.now ⟨_, rfl, congrArg PV.bool (good_true (fun j hj => g1 j (by omega)) (fun j hj => g2 j (by omega))).symm⟩
theorem c_spec_below (xs : List Int) (k : Int) (hl : xs.length ≤ 1000000000) : PCon prog 66 [ints xs, i64 k] (fun p => p = i64 (upTo xs (k - 1))) := by
  refine con_of_VS sl_spec_below (by simp) ?_
  refine VS_seq ?_
  refine VS_r0 rfl ?_
  refine q_mv rfl ?_
  refine rg_nil ?_
  refine VS_seq ?_
  refine VS_r0 rfl ?_
  refine q_mv rfl ?_
  refine rg_nil ?_
  refine VS_seq ?_
  refine VS_block ?_
  refine VS_bd (Bd.keepL [(0, .pv (ints xs)), (1, .pv (i64 k)), (5, .pv (i64 0))] ⟨rfl, rfl, rfl, trivial⟩ ?_)
  refine VS_loop (fun mz E S => ∃ i : Nat, mz = xs.length - i ∧ (i ≤ xs.length) ∧ (∀ j, j < i → nth xs j ≤ k - 1) ∧ E = env [(0, .pv (ints xs)), (1, .pv (i64 k)), (5, .pv (i64 i))] ∧ S = []) ⟨_, 0, rfl, (by first | omega | (intros; omega) | simp), (by first | omega | (intros; omega) | simp), rfl, rfl⟩ ?_
  rintro mz _ _ ⟨i, hmeas, g0, g1, rfl, rfl⟩
  refine VS_seq ?_
  refine VS_seq ?_
  refine VS_r0 rfl ?_
  refine q_mv rfl ?_
  refine q_mv rfl ?_
  first | refine q_len_m rfl ?_ | refine q_len_s rfl ?_ | refine q_len_o rfl ?_ | refine q_len_n rfl ?_ | refine q_len_x rfl ?_
  refine q_lss rfl rfl ?_
  refine q_mv rfl ?_
  refine q_b rfl (fun g10 => ?_) (fun g10 => ?_)
  · try simp at g10
    refine q_t rfl ?_
    refine q_mv rfl ?_
    refine q_t rfl ?_
    refine q_mv rfl ?_
    refine q_t rfl ?_
    first | refine q_idx_c _ rfl rfl (by omega) (fun _ => rfl) ?_ | refine q_idx_m rfl rfl (by omega) (by omega) (fun _ => rfl) ?_ | refine q_idx_om rfl rfl (by omega) (by omega) rfl rfl ?_
    refine q_t rfl ?_
    first | refine q_load_c rfl rfl rfl ?_ | refine q_load_r rfl rfl rfl rfl rfl rfl rfl ?_ | refine q_load_o rfl rfl rfl rfl rfl ?_
    refine q_t rfl ?_
    refine q_mv rfl ?_
    refine q_t rfl ?_
    refine q_lss rfl rfl ?_
    refine q_pick_t rfl rfl ?_
    refine rg_nil ?_
    refine VS_cond rfl (fun c0 => ?_) (fun c0 => ?_)
    · try simp at c0
      refine VS_skip ?_
      refine VS_block ?_
      refine VS_r0 rfl ?_
      refine q_mv rfl ?_
      refine q_add rfl rfl (inR64 (by omega)) ?_
      refine q_mv rfl ?_
      refine rg_nil ?_
      refine Bd.keepL [(0, .pv (ints xs)), (1, .pv (i64 k)), (5, .pv (i64 (i + 1)))] ⟨rfl, rfl, rfl, trivial⟩ ⟨_, ?_, i + 1, rfl, ?_, ?_, rfl, rfl⟩
      · first | omega | assumption | rfl | (simp; omega)
      · first | omega | assumption | rfl | (simp; omega)
      · intro j hj
        by_cases e : j = i
        · subst e; first | omega | (simp at c0; omega)
        · exact g1 j (by omega)
    · try simp at c0
      refine VS_exit ?_
      refine VS_seq ?_
      refine VS_r0 rfl ?_
      refine q_mv rfl ?_
      refine q_mv rfl ?_
      refine rg_nil ?_
      refine VS_ret ?_
      exact Bd.now ⟨_, rfl, congrArg (fun n : Nat => i64 n) (upTo_eq g0 g1 (fun _ => by first | omega | (simp at c0; omega))).symm⟩
  · try simp at g10
    refine q_f rfl ?_
    refine q_f rfl ?_
    refine q_f rfl ?_
    refine q_f rfl ?_
    refine q_f rfl ?_
    refine q_f rfl ?_
    refine q_pick_f rfl rfl ?_
    refine rg_nil ?_
    refine VS_cond rfl (fun e => by cases e) (fun _ => ?_)
    refine VS_exit ?_
    refine VS_seq ?_
    refine VS_r0 rfl ?_
    refine q_mv rfl ?_
    refine q_mv rfl ?_
    refine rg_nil ?_
    refine VS_ret ?_
    exact Bd.now ⟨_, rfl, congrArg (fun n : Nat => i64 n) (upTo_eq g0 g1 (fun _ => by first | omega | (simp at c0; omega))).symm⟩
theorem c_impl_KeysUpTo_1 (xs : List Int) (k : Int) (i : Nat) (hi : i < xs.length) : PCon prog 95 [i64 i, .con (ints xs), .con (i64 k)] (fun p => p = .bool (decide (k < nth xs i))) := by
  refine con_of_VS sl_impl_KeysUpTo_1 (by simp) ?_
  refine VS_seq ?_
  refine VS_r0 rfl ?_
  refine q_mv rfl ?_
  refine rg_nil ?_
  refine VS_seq ?_
  refine VS_r1 hmix rfl ?_
  first | refine q_load_c rfl rfl rfl ?_ | refine q_load_r rfl rfl rfl rfl rfl rfl rfl ?_ | refine q_load_o rfl rfl rfl rfl rfl ?_
  refine q_mv rfl ?_
  first | refine q_idx_c _ rfl rfl (by omega) (fun _ => rfl) ?_ | refine q_idx_m rfl rfl (by omega) (by omega) (fun _ => rfl) ?_ | refine q_idx_om rfl rfl (by omega) (by omega) rfl rfl ?_
  first | refine q_load_c rfl rfl rfl ?_ | refine q_load_r rfl rfl rfl rfl rfl rfl rfl ?_ | refine q_load_o rfl rfl rfl rfl rfl ?_
  first | refine q_load_c rfl rfl rfl ?_ | refine q_load_r rfl rfl rfl rfl rfl rfl rfl ?_ | refine q_load_o rfl rfl rfl rfl rfl ?_
  refine q_gtr rfl rfl ?_
  refine q_mv rfl ?_
  refine rg_nil ?_
  refine VS_ret ?_
  exact Bd.now ⟨_, rfl, by simp⟩
theorem c_impl_KeysBelow_1 (xs : List Int) (k : Int) (i : Nat) (hi : i < xs.length) : PCon prog 76 [i64 i, .con (ints xs), .con (i64 k)] (fun p => p = .bool (decide (k ≤ nth xs i))) := by
  refine con_of_VS sl_impl_KeysBelow_1 (by simp) ?_
  refine VS_seq ?_
  refine VS_r0 rfl ?_
  refine q_mv rfl ?_
  refine rg_nil ?_
  refine VS_seq ?_
  refine VS_r1 hmix rfl ?_
  first | refine q_load_c rfl rfl rfl ?_ | refine q_load_r rfl rfl rfl rfl rfl rfl rfl ?_ | refine q_load_o rfl rfl rfl rfl rfl ?_
  refine q_mv rfl ?_
  first | refine q_idx_c _ rfl rfl (by omega) (fun _ => rfl) ?_ | refine q_idx_m rfl rfl (by omega) (by omega) (fun _ => rfl) ?_ | refine q_idx_om rfl rfl (by omega) (by omega) rfl rfl ?_
  first | refine q_load_c rfl rfl rfl ?_ | refine q_load_r rfl rfl rfl rfl rfl rfl rfl ?_ | refine q_load_o rfl rfl rfl rfl rfl ?_
  first | refine q_load_c rfl rfl rfl ?_ | refine q_load_r rfl rfl rfl rfl rfl rfl rfl ?_ | refine q_load_o rfl rfl rfl rfl rfl ?_
  refine q_geq rfl rfl ?_
  refine q_mv rfl ?_
  refine rg_nil ?_
  refine VS_ret ?_
  exact Bd.now ⟨_, rfl, by simp⟩
theorem c_sort_Search (f : FuncId) (caps : List PV) (n m : Nat) (hf : callable prog f = true) (hcp : toPVs (caps.map .pv) = some caps) (hq : ∀ i : Nat, i < n → PCon prog f (i64 i :: caps) (fun p => p = .bool (decide (m ≤ i)))) (hm : m ≤ n) (hn : n ≤ 1000000000) : PCon prog 75 [i64 n, .clo f caps] (fun p => p = i64 m) := by
  refine con_of_VS sl_sort_Search (by simp) ?_
  refine VS_seq ?_
  refine VS_r0 rfl ?_
  refine q_mv rfl ?_
  refine rg_nil ?_
  refine VS_seq ?_
  refine VS_r0 rfl ?_
  refine q_mv rfl ?_
  refine q_mv rfl ?_
  refine q_mv rfl ?_
  refine rg_nil ?_
  refine VS_seq ?_
  refine VS_block ?_
  refine VS_bd (Bd.keepL [(1, .pv (.clo f caps)), (5, .pv (i64 0)), (6, .pv (i64 n))] ⟨rfl, rfl, rfl, trivial⟩ ?_)
  refine VS_loop (fun mz E S => ∃ a : Nat, ∃ b : Nat, mz = b - a ∧ (a ≤ m) ∧ (m ≤ b) ∧ (b ≤ n) ∧ E = env [(1, .pv (.clo f caps)), (5, .pv (i64 a)), (6, .pv (i64 b))] ∧ S = []) ⟨_, 0, n, rfl, (by first | omega | (intros; omega) | simp), (by first | omega | (intros; omega) | simp), (by first | omega | (intros; omega) | simp), rfl, rfl⟩ ?_
  rintro mz _ _ ⟨a, b, hmeas, g0, g1, g2, rfl, rfl⟩
  refine VS_seq ?_
  refine VS_seq ?_
  refine VS_r0 rfl ?_
  refine q_mv rfl ?_
  refine q_mv rfl ?_
  refine q_lss rfl rfl ?_
  refine rg_nil ?_
  refine VS_cond rfl (fun c0 => ?_) (fun c0 => ?_)
  · try simp at c0
    refine VS_skip ?_
    refine VS_block ?_
    refine VS_seq ?_
    refine VS_r0 rfl ?_
    refine q_mv rfl ?_
    refine q_mv rfl ?_
    refine q_add rfl rfl (inR64 (by omega)) ?_
    refine q_conv rfl (inR64u (by omega)) ?_
    refine q_shr rfl rfl ⟨by omega, by omega, by omega⟩ ?_
    have hmid : (((a : Int) + b) / 2 ^ (1 : Int).toNat) = ((a + b) / 2 : Nat) := by simp
    rw [hmid]
    refine q_conv rfl (inR64 (by omega)) ?_
    refine q_mv rfl ?_
    refine rg_nil ?_
    refine VS_seq ?_
    refine VS_r0 rfl ?_
    refine q_mv rfl ?_
    refine q_mv rfl ?_
    refine q_callvp rfl rfl hf (hq ((a + b) / 2) (by omega)) (show toPVs (.pv (i64 ((a + b) / 2 : Nat)) :: caps.map .pv) = _ by simp only [toPVs, hcp]; rfl) trivial ?_
    refine q_not rfl ?_
    refine rg_nil ?_
    refine VS_cond rfl (fun c1 => ?_) (fun c1 => ?_)
    · try simp at c1
      refine VS_r0 rfl ?_
      refine q_mv rfl ?_
      refine q_add rfl rfl (inR64 (by omega)) ?_
      refine q_mv rfl ?_
      refine rg_nil ?_
      refine Bd.keepL [(1, .pv (.clo f caps)), (5, .pv (i64 ((a + b) / 2 + 1))), (6, .pv (i64 b))] ⟨rfl, rfl, rfl, trivial⟩ ⟨_, ?_, (a + b) / 2 + 1, b, rfl, ?_, ?_, ?_, rfl, rfl⟩
      · first | omega | assumption | rfl | (simp; omega)
      · first | omega | assumption | rfl | (simp; omega)
      · first | omega | assumption | rfl | (simp; omega)
      · first | omega | assumption | rfl | (simp; omega)
    · try simp at c1
      refine VS_r0 rfl ?_
      refine q_mv rfl ?_
      refine q_mv rfl ?_
      refine rg_nil ?_
      refine Bd.keepL [(1, .pv (.clo f caps)), (5, .pv (i64 a)), (6, .pv (i64 ((a + b) / 2)))] ⟨rfl, rfl, rfl, trivial⟩ ⟨_, ?_, a, (a + b) / 2, rfl, ?_, ?_, ?_, rfl, rfl⟩
      · first | omega | assumption | rfl | (simp; omega)
      · first | omega | assumption | rfl | (simp; omega)
      · first | omega | assumption | rfl | (simp; omega)
      · first | omega | assumption | rfl | (simp; omega)
  · try simp at c0
    refine VS_exit ?_
    refine VS_seq ?_
    refine VS_r0 rfl ?_
    refine q_mv rfl ?_
    refine q_mv rfl ?_
    refine rg_nil ?_
    refine VS_ret ?_
    exact Bd.now ⟨_, rfl, congrArg (fun n : Nat => i64 n) (by omega)⟩
theorem c_impl_KeysUpTo (xs : List Int) (k : Int) (hl : xs.length ≤ 1000000000) : PCon prog 80 [ints xs, i64 k] (fun p => p = i64 (if goodKeys xs then (upTo xs k : Int) else -1)) := by
  refine con_of_VS sl_impl_KeysUpTo (by simp) ?_
  refine VS_seq ?_
  refine VS_r0 rfl ?_
  refine q_box rfl rfl rfl (by first | exact trivial | exact Sub.nil | exact Sub.refl _ | exact Sub.app _ _ | exact SubL.sub (by repeat (first | exact SubL.nil | apply SubL.none | apply SubL.some | apply SubL.sh | apply SubL.eq)) | (refine Sub.of_eq ?_; intro o ob h; rcases o with _ | _ | _ | _ | _ | o <;> simp_all)) ?_
  refine q_box rfl rfl rfl (by first | exact trivial | exact Sub.nil | exact Sub.refl _ | exact Sub.app _ _ | exact SubL.sub (by repeat (first | exact SubL.nil | apply SubL.none | apply SubL.some | apply SubL.sh | apply SubL.eq)) | (refine Sub.of_eq ?_; intro o ob h; rcases o with _ | _ | _ | _ | _ | o <;> simp_all)) ?_
  refine q_mv rfl ?_
  refine rg_nil ?_
  refine VS_bd (Bd.freezeL 0 [ints xs] [(3, .ptr 1 0 0), (2, .pv (.con (ints xs))), (4, .pv (i64 0))] rfl rfl ⟨rfl, rfl, rfl, trivial⟩ rfl ?_)
  refine VS_bd (Bd.freezeL 1 [i64 k] [(3, .pv (.con (i64 k))), (2, .pv (.con (ints xs))), (4, .pv (i64 0))] rfl rfl ⟨rfl, rfl, rfl, trivial⟩ rfl ?_)
  refine VS_seq ?_
  refine VS_seq ?_
  refine VS_r0 rfl ?_
  first | refine q_load_c rfl rfl rfl ?_ | refine q_load_r rfl rfl rfl rfl rfl rfl rfl ?_ | refine q_load_o rfl rfl rfl rfl rfl ?_
  refine q_callp (c_impl_ValidKeys xs hl) rfl (by first | exact trivial | exact Sub.nil | exact Sub.refl _ | exact Sub.app _ _ | exact SubL.sub (by repeat (first | exact SubL.nil | apply SubL.none | apply SubL.some | apply SubL.sh | apply SubL.eq)) | (refine Sub.of_eq ?_; intro o ob h; rcases o with _ | _ | _ | _ | _ | o <;> simp_all)) ?_
  refine q_not rfl ?_
  refine rg_nil ?_
  refine VS_cond rfl (fun c0 => ?_) (fun c0 => ?_)
  · try simp at c0
    refine VS_seq ?_
    refine VS_r0 rfl ?_
    refine q_mv rfl ?_
    refine rg_nil ?_
    refine VS_ret ?_
    exact Bd.now ⟨_, rfl, by simp [c0]⟩
  · try simp at c0
    refine VS_skip ?_
    refine VS_seq ?_
    refine VS_r0 rfl ?_
    first | refine q_load_c rfl rfl rfl ?_ | refine q_load_r rfl rfl rfl rfl rfl rfl rfl ?_ | refine q_load_o rfl rfl rfl rfl rfl ?_
    first | refine q_len_m rfl ?_ | refine q_len_s rfl ?_ | refine q_len_o rfl ?_ | refine q_len_n rfl ?_ | refine q_len_x rfl ?_
    refine q_mkf rfl rfl ?_
    refine q_callp (c_sort_Search _ [.con (ints xs), .con (i64 k)] xs.length (upTo xs k) (by kernel_rfl) rfl (fun i hi => (c_impl_KeysUpTo_1 xs k i hi).mono fun p e => e.trans (congrArg PV.bool (upTo_dec c0 hi))) (upTo_le _ _) hl) rfl (by first | exact trivial | exact Sub.nil | exact Sub.refl _ | exact Sub.app _ _ | exact SubL.sub (by repeat (first | exact SubL.nil | apply SubL.none | apply SubL.some | apply SubL.sh | apply SubL.eq)) | (refine Sub.of_eq ?_; intro o ob h; rcases o with _ | _ | _ | _ | _ | o <;> simp_all)) ?_
    refine q_mv rfl ?_
    refine rg_nil ?_
    refine VS_ret ?_
    exact Bd.now ⟨_, rfl, by simp [c0]⟩
theorem c_impl_KeysBelow (xs : List Int) (k : Int) (hl : xs.length ≤ 1000000000) : PCon prog 36 [ints xs, i64 k] (fun p => p = i64 (if goodKeys xs then (upTo xs (k - 1) : Int) else -1)) := by
  refine con_of_VS sl_impl_KeysBelow (by simp) ?_
  refine VS_seq ?_
  refine VS_r0 rfl ?_
  refine q_box rfl rfl rfl (by first | exact trivial | exact Sub.nil | exact Sub.refl _ | exact Sub.app _ _ | exact SubL.sub (by repeat (first | exact SubL.nil | apply SubL.none | apply SubL.some | apply SubL.sh | apply SubL.eq)) | (refine Sub.of_eq ?_; intro o ob h; rcases o with _ | _ | _ | _ | _ | o <;> simp_all)) ?_
  refine q_box rfl rfl rfl (by first | exact trivial | exact Sub.nil | exact Sub.refl _ | exact Sub.app _ _ | exact SubL.sub (by repeat (first | exact SubL.nil | apply SubL.none | apply SubL.some | apply SubL.sh | apply SubL.eq)) | (refine Sub.of_eq ?_; intro o ob h; rcases o with _ | _ | _ | _ | _ | o <;> simp_all)) ?_
  refine q_mv rfl ?_
  refine rg_nil ?_
  refine VS_bd (Bd.freezeL 0 [ints xs] [(3, .ptr 1 0 0), (2, .pv (.con (ints xs))), (4, .pv (i64 0))] rfl rfl ⟨rfl, rfl, rfl, trivial⟩ rfl ?_)
  refine VS_bd (Bd.freezeL 1 [i64 k] [(3, .pv (.con (i64 k))), (2, .pv (.con (ints xs))), (4, .pv (i64 0))] rfl rfl ⟨rfl, rfl, rfl, trivial⟩ rfl ?_)
  refine VS_seq ?_
  refine VS_seq ?_
  refine VS_r0 rfl ?_
  first | refine q_load_c rfl rfl rfl ?_ | refine q_load_r rfl rfl rfl rfl rfl rfl rfl ?_ | refine q_load_o rfl rfl rfl rfl rfl ?_
  refine q_callp (c_impl_ValidKeys xs hl) rfl (by first | exact trivial | exact Sub.nil | exact Sub.refl _ | exact Sub.app _ _ | exact SubL.sub (by repeat (first | exact SubL.nil | apply SubL.none | apply SubL.some | apply SubL.sh | apply SubL.eq)) | (refine Sub.of_eq ?_; intro o ob h; rcases o with _ | _ | _ | _ | _ | o <;> simp_all)) ?_
  refine q_not rfl ?_
  refine rg_nil ?_
  refine VS_cond rfl (fun c0 => ?_) (fun c0 => ?_)
  · try simp at c0
    refine VS_seq ?_
    refine VS_r0 rfl ?_
    refine q_mv rfl ?_
    refine rg_nil ?_
    refine VS_ret ?_
    exact Bd.now ⟨_, rfl, by simp [c0]⟩
  · try simp at c0
    refine VS_skip ?_
    refine VS_seq ?_
    refine VS_r0 rfl ?_
    first | refine q_load_c rfl rfl rfl ?_ | refine q_load_r rfl rfl rfl rfl rfl rfl rfl ?_ | refine q_load_o rfl rfl rfl rfl rfl ?_
    first | refine q_len_m rfl ?_ | refine q_len_s rfl ?_ | refine q_len_o rfl ?_ | refine q_len_n rfl ?_ | refine q_len_x rfl ?_
    refine q_mkf rfl rfl ?_
    refine q_callp (c_sort_Search _ [.con (ints xs), .con (i64 k)] xs.length (upTo xs (k - 1)) (by kernel_rfl) rfl (fun i hi => (c_impl_KeysBelow_1 xs k i hi).mono fun p e => e.trans (congrArg PV.bool (below_dec c0 hi))) (upTo_le _ _) hl) rfl (by first | exact trivial | exact Sub.nil | exact Sub.refl _ | exact Sub.app _ _ | exact SubL.sub (by repeat (first | exact SubL.nil | apply SubL.none | apply SubL.some | apply SubL.sh | apply SubL.eq)) | (refine Sub.of_eq ?_; intro o ob h; rcases o with _ | _ | _ | _ | _ | o <;> simp_all)) ?_
    refine q_mv rfl ?_
    refine rg_nil ?_
    refine VS_ret ?_
    exact Bd.now ⟨_, rfl, by simp [c0]⟩
theorem c_spec_validInner (ks cs : List Int) (hk : ks.length ≤ 1000000000) (hc : cs.length ≤ 1000000000) : PCon prog 52 [innP ks cs] (fun p => p = .bool (goodInner ks cs)) := by
  refine con_of_VS sl_spec_validInner (by simp) ?_
  refine VS_seq ?_
  refine VS_r0 rfl ?_
  refine q_box rfl rfl rfl (by first | exact trivial | exact Sub.nil | exact Sub.refl _ | exact Sub.app _ _ | exact SubL.sub (by repeat (first | exact SubL.nil | apply SubL.none | apply SubL.some | apply SubL.sh | apply SubL.eq)) | (refine Sub.of_eq ?_; intro o ob h; rcases o with _ | _ | _ | _ | _ | o <;> simp_all)) ?_
  refine q_mv rfl ?_
  refine rg_nil ?_
  refine VS_seq ?_
  refine VS_seq ?_
  refine VS_r0 rfl ?_
  refine q_mv rfl ?_
  refine rg_nil ?_
  refine VS_block ?_
  refine VS_bd (Bd.keepL [(1, .ptr 0 0 0), (2, .pv (.bool false)), (3, .pv (i64 0))] ⟨rfl, rfl, rfl, trivial⟩ ?_)
  refine VS_loop (fun mz E S => ∃ i : Nat, mz = cs.length - i ∧ (i ≤ cs.length) ∧ (∀ j, j < i → (cs.take j).contains (nth cs j) = false) ∧ E = env [(1, .ptr 0 0 0), (2, .pv (.bool false)), (3, .pv (i64 i))] ∧ S = [some ⟨25, 2, [.pv (innP ks cs)]⟩]) ⟨_, 0, rfl, (by first | omega | (intros; omega) | simp), (by first | omega | (intros; omega) | simp), rfl, rfl⟩ ?_
  rintro mz _ _ ⟨i, hmeas, g0, g2, rfl, rfl⟩
  refine VS_seq ?_
  refine VS_seq ?_
  refine VS_r0 rfl ?_
  refine q_mv rfl ?_
  first | refine q_fld_r rfl ?_ | refine q_fld_c rfl rfl ?_
  first | refine q_load_c rfl rfl rfl ?_ | refine q_load_r rfl rfl rfl rfl rfl rfl rfl ?_ | refine q_load_o rfl rfl rfl rfl rfl ?_
  first | refine q_len_m rfl ?_ | refine q_len_s rfl ?_ | refine q_len_o rfl ?_ | refine q_len_n rfl ?_ | refine q_len_x rfl ?_
  refine q_lss rfl rfl ?_
  refine rg_nil ?_
  refine VS_cond rfl (fun c0 => ?_) (fun c0 => ?_)
  · try simp at c0
    refine VS_skip ?_
    refine VS_seq ?_
    refine VS_block ?_
    refine VS_seq ?_
    refine VS_r2 _ hmix (Sub.refl _) ?_
    first | refine q_fld_r rfl ?_ | refine q_fld_c rfl rfl ?_
    first | refine q_load_c rfl rfl rfl ?_ | refine q_load_r rfl rfl rfl rfl rfl rfl rfl ?_ | refine q_load_o rfl rfl rfl rfl rfl ?_
    refine q_mv rfl ?_
    refine q_slc_m (xs := cs) (f := fun k => i64 k) 0 i rfl rfl rfl ⟨rfl, rfl, by omega, by omega⟩ (fun _ => rfl) ?_
    first | refine q_fld_r rfl ?_ | refine q_fld_c rfl rfl ?_
    first | refine q_load_c rfl rfl rfl ?_ | refine q_load_r rfl rfl rfl rfl rfl rfl rfl ?_ | refine q_load_o rfl rfl rfl rfl rfl ?_
    refine q_mv rfl ?_
    first | refine q_idx_c _ rfl rfl (by omega) (fun _ => rfl) ?_ | refine q_idx_m rfl rfl (by omega) (by omega) (fun _ => rfl) ?_ | refine q_idx_om rfl rfl (by omega) (by omega) rfl rfl ?_
    first | refine q_load_c rfl rfl rfl ?_ | refine q_load_r rfl rfl rfl rfl rfl rfl rfl ?_ | refine q_load_o rfl rfl rfl rfl rfl ?_
    refine q_last ?_
    refine q_callp (c_spec_isIn (cs.take i) (nth cs i) (by simp; omega)) rfl (by first | exact trivial | exact Sub.nil | exact Sub.refl _ | exact Sub.app _ _ | exact SubL.sub (by repeat (first | exact SubL.nil | apply SubL.none | apply SubL.some | apply SubL.sh | apply SubL.eq)) | (refine Sub.of_eq ?_; intro o ob h; rcases o with _ | _ | _ | _ | _ | o <;> simp_all)) ?_
    refine rg_nil ?_
    refine VS_cond rfl (fun c1 => ?_) (fun c1 => ?_)
    · try simp at c1
      refine VS_seq ?_
      refine VS_r0 rfl ?_
      refine q_mv rfl ?_
      refine rg_nil ?_
      refine VS_ret ?_
      exact Bd.now ⟨_, rfl, congrArg PV.bool (by simp [goodInner, nodup_false i c0 (by simpa using c1)])⟩
    · try simp at c1
      refine VS_skip ?_
      refine VS_r0 rfl ?_
      refine q_mv rfl ?_
      refine q_add rfl rfl (inR64 (by omega)) ?_
      refine q_mv rfl ?_
      refine rg_nil ?_
      refine Bd.keepL [(1, .ptr 0 0 0), (2, .pv (.bool false)), (3, .pv (i64 (i + 1)))] ⟨rfl, rfl, rfl, trivial⟩ ⟨_, ?_, i + 1, rfl, ?_, ?_, rfl, rfl⟩
      · first | omega | assumption | rfl | (simp; omega)
      · first | omega | assumption | rfl | (simp; omega)
      · intro j hj
        by_cases e : j = i
        · subst e; simpa using c1
        · exact g2 j (by omega)
  · try simp at c0
    refine VS_exit ?_
    refine VS_seq ?_
    refine VS_r0 rfl ?_
    have nd : nodupI cs = true := nodup_true fun j hj => g2 j (by omega)
    refine q_fld_r rfl ?_
    first | refine q_load_c rfl rfl rfl ?_ | refine q_load_r rfl rfl rfl rfl rfl rfl rfl ?_ | refine q_load_o rfl rfl rfl rfl rfl ?_
    refine q_callp (c_spec_validKeys ks hk) rfl (by first | exact trivial | exact Sub.nil | exact Sub.refl _ | exact Sub.app _ _ | exact SubL.sub (by repeat (first | exact SubL.nil | apply SubL.none | apply SubL.some | apply SubL.sh | apply SubL.eq)) | (refine Sub.of_eq ?_; intro o ob h; rcases o with _ | _ | _ | _ | _ | o <;> simp_all)) ?_
    refine q_mv rfl ?_
    refine q_b rfl (fun g24 => ?_) (fun g24 => ?_)
    · try simp at g24
      refine q_t rfl ?_
      first | refine q_fld_r rfl ?_ | refine q_fld_c rfl rfl ?_
      refine q_t rfl ?_
      first | refine q_load_c rfl rfl rfl ?_ | refine q_load_r rfl rfl rfl rfl rfl rfl rfl ?_ | refine q_load_o rfl rfl rfl rfl rfl ?_
      refine q_t rfl ?_
      first | refine q_len_m rfl ?_ | refine q_len_s rfl ?_ | refine q_len_o rfl ?_ | refine q_len_n rfl ?_ | refine q_len_x rfl ?_
      refine q_t rfl ?_
      refine q_callp (c_spec_inRange _ _ _) rfl (by first | exact trivial | exact Sub.nil | exact Sub.refl _ | exact Sub.app _ _ | exact SubL.sub (by repeat (first | exact SubL.nil | apply SubL.none | apply SubL.some | apply SubL.sh | apply SubL.eq)) | (refine Sub.of_eq ?_; intro o ob h; rcases o with _ | _ | _ | _ | _ | o <;> simp_all)) ?_
      refine q_pick_t rfl rfl ?_
      refine q_mv rfl ?_
      refine q_b rfl (fun g30 => ?_) (fun g30 => ?_)
      · try simp at g30
        refine q_t rfl ?_
        first | refine q_fld_r rfl ?_ | refine q_fld_c rfl rfl ?_
        refine q_t rfl ?_
        first | refine q_load_c rfl rfl rfl ?_ | refine q_load_r rfl rfl rfl rfl rfl rfl rfl ?_ | refine q_load_o rfl rfl rfl rfl rfl ?_
        refine q_t rfl ?_
        first | refine q_len_m rfl ?_ | refine q_len_s rfl ?_ | refine q_len_o rfl ?_ | refine q_len_n rfl ?_ | refine q_len_x rfl ?_
        refine q_t rfl ?_
        first | refine q_fld_r rfl ?_ | refine q_fld_c rfl rfl ?_
        refine q_t rfl ?_
        first | refine q_load_c rfl rfl rfl ?_ | refine q_load_r rfl rfl rfl rfl rfl rfl rfl ?_ | refine q_load_o rfl rfl rfl rfl rfl ?_
        refine q_t rfl ?_
        first | refine q_len_m rfl ?_ | refine q_len_s rfl ?_ | refine q_len_o rfl ?_ | refine q_len_n rfl ?_ | refine q_len_x rfl ?_
        refine q_t rfl ?_
        refine q_add rfl rfl (inR64 (by omega)) ?_
        refine q_t rfl ?_
        refine q_eql rfl rfl ?_
        refine q_pick_t rfl rfl ?_
        refine q_mv rfl ?_
        refine q_b rfl (fun g40 => ?_) (fun g40 => ?_)
        · try simp at g40
          refine q_t rfl ?_
          first | refine q_fld_r rfl ?_ | refine q_fld_c rfl rfl ?_
          refine q_t rfl ?_
          first | refine q_load_c rfl rfl rfl ?_ | refine q_load_r rfl rfl rfl rfl rfl rfl rfl ?_ | refine q_load_o rfl rfl rfl rfl rfl ?_
          refine q_t rfl ?_
          refine q_callp (c_spec_allIn cs _ _ hc) rfl (by first | exact trivial | exact Sub.nil | exact Sub.refl _ | exact Sub.app _ _ | exact SubL.sub (by repeat (first | exact SubL.nil | apply SubL.none | apply SubL.some | apply SubL.sh | apply SubL.eq)) | (refine Sub.of_eq ?_; intro o ob h; rcases o with _ | _ | _ | _ | _ | o <;> simp_all)) ?_
          refine q_pick_t rfl rfl ?_
          refine q_mv rfl ?_
          refine rg_nil ?_
          refine VS_ret ?_
          refine Bd.now ⟨_, rfl, congrArg PV.bool ?_⟩
          first | (simp [goodInner, nd, *]; done) | (simp [goodInner, nd, *]; intros; exfalso; omega) | (simp [goodInner, nd, *]; omega)
        · try simp at g40
          refine q_f rfl ?_
          refine q_f rfl ?_
          refine q_f rfl ?_
          refine q_pick_f rfl rfl ?_
          refine q_mv rfl ?_
          refine rg_nil ?_
          refine VS_ret ?_
          refine Bd.now ⟨_, rfl, congrArg PV.bool ?_⟩
          first | (simp [goodInner, nd, *]; done) | (simp [goodInner, nd, *]; intros; exfalso; omega) | (simp [goodInner, nd, *]; omega)
      · try simp at g30
        refine q_f rfl ?_
        refine q_f rfl ?_
        refine q_f rfl ?_
        refine q_f rfl ?_
        refine q_f rfl ?_
        refine q_f rfl ?_
        refine q_f rfl ?_
        refine q_f rfl ?_
        refine q_pick_f rfl rfl ?_
        refine q_mv rfl ?_
        refine q_f rfl ?_
        refine q_f rfl ?_
        refine q_f rfl ?_
        refine q_pick_f rfl rfl ?_
        refine q_mv rfl ?_
        refine rg_nil ?_
        refine VS_ret ?_
        refine Bd.now ⟨_, rfl, congrArg PV.bool ?_⟩
        first | (simp [goodInner, nd, *]; done) | (simp [goodInner, nd, *]; intros; exfalso; omega) | (simp [goodInner, nd, *]; omega)
    · try simp at g24
      refine q_f rfl ?_
      refine q_f rfl ?_
      refine q_f rfl ?_
      refine q_f rfl ?_
      refine q_pick_f rfl rfl ?_
      refine q_mv rfl ?_
      refine q_f rfl ?_
      refine q_f rfl ?_
      refine q_f rfl ?_
      refine q_f rfl ?_
      refine q_f rfl ?_
      refine q_f rfl ?_
      refine q_f rfl ?_
      refine q_f rfl ?_
      refine q_pick_f rfl rfl ?_
      refine q_mv rfl ?_
      refine q_f rfl ?_
      refine q_f rfl ?_
      refine q_f rfl ?_
      refine q_pick_f rfl rfl ?_
      refine q_mv rfl ?_
      refine rg_nil ?_
      refine VS_ret ?_
      refine Bd.now ⟨_, rfl, congrArg PV.bool ?_⟩
      first | (simp [goodInner, nd, *]; done) | (simp [goodInner, nd, *]; intros; exfalso; omega) | (simp [goodInner, nd, *]; omega)
theorem c_impl_ValidInner (ks cs : List Int) (hk : ks.length ≤ 1000000000) (hc : cs.length ≤ 1000000000) : PCon prog 20 [innP ks cs] (fun p => p = .bool (goodInner ks cs)) := by
  refine con_of_VS sl_impl_ValidInner (by simp) ?_
  refine VS_seq ?_
  refine VS_r0 rfl ?_
  refine q_box rfl rfl rfl (by first | exact trivial | exact Sub.nil | exact Sub.refl _ | exact Sub.app _ _ | exact SubL.sub (by repeat (first | exact SubL.nil | apply SubL.none | apply SubL.some | apply SubL.sh | apply SubL.eq)) | (refine Sub.of_eq ?_; intro o ob h; rcases o with _ | _ | _ | _ | _ | o <;> simp_all)) ?_
  refine q_mv rfl ?_
  refine rg_nil ?_
  refine VS_seq ?_
  refine VS_seq ?_
  refine VS_r0 rfl ?_
  first | refine q_fld_r rfl ?_ | refine q_fld_c rfl rfl ?_
  first | refine q_load_c rfl rfl rfl ?_ | refine q_load_r rfl rfl rfl rfl rfl rfl rfl ?_ | refine q_load_o rfl rfl rfl rfl rfl ?_
  first | refine q_len_m rfl ?_ | refine q_len_s rfl ?_ | refine q_len_o rfl ?_ | refine q_len_n rfl ?_ | refine q_len_x rfl ?_
  refine q_lss rfl rfl ?_
  refine q_mv rfl ?_
  refine q_b rfl (fun g10 => ?_) (fun g10 => ?_)
  · try simp at g10
    refine q_t rfl ?_
    first | refine q_fld_r rfl ?_ | refine q_fld_c rfl rfl ?_
    refine q_t rfl ?_
    first | refine q_load_c rfl rfl rfl ?_ | refine q_load_r rfl rfl rfl rfl rfl rfl rfl ?_ | refine q_load_o rfl rfl rfl rfl rfl ?_
    refine q_t rfl ?_
    first | refine q_len_m rfl ?_ | refine q_len_s rfl ?_ | refine q_len_o rfl ?_ | refine q_len_n rfl ?_ | refine q_len_x rfl ?_
    refine q_t rfl ?_
    refine q_gtr rfl rfl ?_
    refine q_pick_f rfl rfl ?_
    refine q_mv rfl ?_
    refine q_b rfl (fun g16 => ?_) (fun g16 => ?_)
    · try simp at g16
      refine q_t rfl ?_
      first | refine q_fld_r rfl ?_ | refine q_fld_c rfl rfl ?_
      refine q_t rfl ?_
      first | refine q_load_c rfl rfl rfl ?_ | refine q_load_r rfl rfl rfl rfl rfl rfl rfl ?_ | refine q_load_o rfl rfl rfl rfl rfl ?_
      refine q_t rfl ?_
      refine q_callp (c_impl_ValidKeys ks hk) rfl (by first | exact trivial | exact Sub.nil | exact Sub.refl _ | exact Sub.app _ _ | exact SubL.sub (by repeat (first | exact SubL.nil | apply SubL.none | apply SubL.some | apply SubL.sh | apply SubL.eq)) | (refine Sub.of_eq ?_; intro o ob h; rcases o with _ | _ | _ | _ | _ | o <;> simp_all)) ?_
      refine q_t rfl ?_
      refine q_not rfl ?_
      refine q_pick_f rfl rfl ?_
      refine rg_nil ?_
      refine VS_cond rfl (fun c0 => ?_) (fun c0 => ?_)
      · try simp at c0
        refine VS_seq ?_
        refine VS_r0 rfl ?_
        refine q_mv rfl ?_
        refine rg_nil ?_
        refine VS_ret ?_
        refine Bd.now ⟨_, rfl, congrArg PV.bool ?_⟩
        first | (simp [goodInner, *]; done) | (simp [goodInner]; intros; exfalso; omega)
      · try simp at c0
        refine VS_skip ?_
        refine VS_seq ?_
        refine VS_seq ?_
        refine VS_r0 rfl ?_
        first | refine q_fld_r rfl ?_ | refine q_fld_c rfl rfl ?_
        first | refine q_load_c rfl rfl rfl ?_ | refine q_load_r rfl rfl rfl rfl rfl rfl rfl ?_ | refine q_load_o rfl rfl rfl rfl rfl ?_
        first | refine q_len_m rfl ?_ | refine q_len_s rfl ?_ | refine q_len_o rfl ?_ | refine q_len_n rfl ?_ | refine q_len_x rfl ?_
        first | refine q_fld_r rfl ?_ | refine q_fld_c rfl rfl ?_
        first | refine q_load_c rfl rfl rfl ?_ | refine q_load_r rfl rfl rfl rfl rfl rfl rfl ?_ | refine q_load_o rfl rfl rfl rfl rfl ?_
        first | refine q_len_m rfl ?_ | refine q_len_s rfl ?_ | refine q_len_o rfl ?_ | refine q_len_n rfl ?_ | refine q_len_x rfl ?_
        refine q_add rfl rfl (inR64 (by omega)) ?_
        refine q_neq rfl rfl ?_
        refine rg_nil ?_
        refine VS_cond rfl (fun c1 => ?_) (fun c1 => ?_)
        · try simp at c1
          refine VS_seq ?_
          refine VS_r0 rfl ?_
          refine q_mv rfl ?_
          refine rg_nil ?_
          refine VS_ret ?_
          refine Bd.now ⟨_, rfl, congrArg PV.bool ?_⟩
          simp [goodInner, c1]
        · try simp at c1
          refine VS_skip ?_
          refine VS_seq ?_
          refine VS_r0 rfl ?_
          refine q_alloc (by first | exact trivial | exact Sub.nil | exact Sub.refl _ | exact Sub.app _ _ | exact SubL.sub (by repeat (first | exact SubL.nil | apply SubL.none | apply SubL.some | apply SubL.sh | apply SubL.eq)) | (refine Sub.of_eq ?_; intro o ob h; rcases o with _ | _ | _ | _ | _ | o <;> simp_all)) ?_
          refine rg_nil ?_
          refine VS_seq ?_
          refine VS_seq ?_
          refine VS_r0 rfl ?_
          first | refine q_fld_r rfl ?_ | refine q_fld_c rfl rfl ?_
          first | refine q_load_c rfl rfl rfl ?_ | refine q_load_r rfl rfl rfl rfl rfl rfl rfl ?_ | refine q_load_o rfl rfl rfl rfl rfl ?_
          first | refine q_len_m rfl ?_ | refine q_len_s rfl ?_ | refine q_len_o rfl ?_ | refine q_len_n rfl ?_ | refine q_len_x rfl ?_
          refine q_mv rfl ?_
          refine rg_nil ?_
          refine VS_block ?_
          refine VS_bd (Bd.keepL [(1, .ptr 0 0 0), (2, .pv (.bool false)), (3, .ptr 1 0 0), (31, .pv (ints cs)), (32, .pv (i64 cs.length)), (33, .pv (i64 0))] ⟨rfl, rfl, rfl, rfl, rfl, rfl, trivial⟩ ?_)
          refine VS_loop (fun mz E S => ∃ i : Nat, mz = cs.length - i ∧ (i ≤ cs.length) ∧ (∀ j, j < i → (0 ≤ nth cs j ∧ nth cs j ≤ 15) ∧ (cs.take j).contains (nth cs j) = false) ∧ E = env [(1, .ptr 0 0 0), (2, .pv (.bool false)), (3, .ptr 1 0 0), (31, .pv (ints cs)), (32, .pv (i64 cs.length)), (33, .pv (i64 i))] ∧ S = [some ⟨25, 2, [.pv (innP ks cs)]⟩, some ⟨70, 16, [.agg (boolsD 16 fun v => (cs.take i).contains (v : Int))]⟩]) ⟨_, 0, rfl, (by first | omega | (intros; omega) | simp), (by first | omega | (intros; omega) | simp), rfl, rfl⟩ ?_
          rintro mz _ _ ⟨i, hmeas, g0, g2, rfl, rfl⟩
          refine VS_seq ?_
          refine VS_r0 rfl ?_
          refine q_lss rfl rfl ?_
          refine rg_nil ?_
          refine VS_seq ?_
          refine VS_cond rfl (fun c2 => ?_) (fun c2 => ?_)
          · try simp at c2
            refine VS_skip ?_
            refine VS_seq ?_
            refine VS_block ?_
            refine VS_seq ?_
            refine VS_r0 rfl ?_
            refine q_idx_m rfl rfl (by omega) (by omega) (fun _ => rfl) ?_
            simp only [Int.toNat_natCast]
            first | refine q_load_c rfl rfl rfl ?_ | refine q_load_r rfl rfl rfl rfl rfl rfl rfl ?_ | refine q_load_o rfl rfl rfl rfl rfl ?_
            refine q_mv rfl ?_
            refine rg_nil ?_
            refine VS_seq ?_
            refine VS_seq ?_
            refine VS_r0 rfl ?_
            refine q_mv rfl ?_
            refine q_lss rfl rfl ?_
            refine q_mv rfl ?_
            refine q_b rfl (fun g39 => ?_) (fun g39 => ?_)
            · try simp at g39
              refine q_t rfl ?_
              refine q_mv rfl ?_
              refine q_t rfl ?_
              refine q_geq rfl rfl ?_
              refine q_pick_f rfl rfl ?_
              refine q_mv rfl ?_
              refine q_b rfl (fun g43 => ?_) (fun g43 => ?_)
              · try simp at g43
                refine q_t rfl ?_
                refine q_mv rfl ?_
                refine q_t rfl ?_
                first | refine q_aidx_r rfl rfl ⟨by omega, by omega⟩ ?_ | refine q_aidx_c rfl rfl ⟨by omega, by omega, rfl⟩ ?_ ?_
                refine q_t rfl ?_
                refine q_load_r (d := .pv (.bool ((cs.take i).contains (((nth cs i).toNat : Nat) : Int)))) rfl rfl rfl rfl rfl ?_ rfl ?_
                · rw [show 0 + (nth cs i).toNat * 1 = (nth cs i).toNat by omega]; exact boolsD_get (f := fun v : Nat => (cs.take i).contains (v : Int)) (by omega)
                refine q_pick_f rfl rfl ?_
                refine rg_nil ?_
                refine VS_cond rfl (fun c3 => ?_) (fun c3 => ?_)
                · try simp at c3
                  refine VS_seq ?_
                  refine VS_r0 rfl ?_
                  refine q_mv rfl ?_
                  refine rg_nil ?_
                  refine VS_ret ?_
                  refine Bd.now ⟨_, rfl, congrArg PV.bool ?_⟩
                  first | (simp [goodInner, all_false (q := fun k => decide (0 ≤ k) && decide (k ≤ 15)) i c2 (by simp; omega)]; done) | (have e2 : max (nth cs i) 0 = nth cs i := (by omega); rw [e2] at c3; simp [goodInner, nodup_false i c2 (by simpa using c3)])
                · try simp at c3
                  refine VS_skip ?_
                  refine VS_r0 rfl ?_
                  refine q_mv rfl ?_
                  first | refine q_aidx_r rfl rfl ⟨by omega, by omega⟩ ?_ | refine q_aidx_c rfl rfl ⟨by omega, by omega, rfl⟩ ?_ ?_
                  refine q_store (z := .agg (boolsD 16 fun v => if v = (nth cs i).toNat then true else (cs.take i).contains (v : Int))) rfl rfl rfl rfl rfl rfl ⟨rfl, rfl, ?_, rfl, ?_⟩ ?_ trivial ?_
                  · show _ ≤ 16
                    omega
                  · intro h; cases h
                  · rw [show 0 + (nth cs i).toNat * 1 = (nth cs i).toNat by omega]
                    exact congrArg D.agg (boolsD_set (by omega))
                  refine rg_nil ?_
                  refine VS_r0 rfl ?_
                  refine q_add rfl rfl (inR64 (by omega)) ?_
                  refine q_mv rfl ?_
                  refine rg_nil ?_
                  refine Bd.keepL [(1, .ptr 0 0 0), (2, .pv (.bool false)), (3, .ptr 1 0 0), (31, .pv (ints cs)), (32, .pv (i64 cs.length)), (33, .pv (i64 (i + 1)))] ⟨rfl, rfl, rfl, rfl, rfl, rfl, trivial⟩ ⟨_, ?_, i + 1, rfl, ?_, ?_, rfl, (congrArg (fun f : Nat → Bool => ([some (⟨25, 2, [.pv (innP ks cs)]⟩ : Ob), some (⟨70, 16, [.agg (boolsD 16 f)]⟩ : Ob)] : Store)) (seen_step (by omega) (by omega)))⟩
                  · first | omega | assumption | rfl | (simp; omega)
                  · first | omega | assumption | rfl | (simp; omega)
                  · intro j hj
                    by_cases e : j = i
                    · subst e
                      have e2 : max (nth cs j) 0 = nth cs j := by omega
                      rw [e2] at c3
                      exact ⟨by omega, by simpa using c3⟩
                    · exact g2 j (by omega)
              · try simp at g43
                refine q_f rfl ?_
                refine q_f rfl ?_
                refine q_f rfl ?_
                refine q_pick_t rfl rfl ?_
                refine rg_nil ?_
                refine VS_cond rfl (fun _ => ?_) (fun e => by cases e)
                refine VS_seq ?_
                refine VS_r0 rfl ?_
                refine q_mv rfl ?_
                refine rg_nil ?_
                refine VS_ret ?_
                refine Bd.now ⟨_, rfl, congrArg PV.bool ?_⟩
                first | (simp [goodInner, all_false (q := fun k => decide (0 ≤ k) && decide (k ≤ 15)) i c2 (by simp; omega)]; done) | (have e2 : max (nth cs i) 0 = nth cs i := (by omega); rw [e2] at c3; simp [goodInner, nodup_false i c2 (by simpa using c3)])
            · try simp at g39
              refine q_f rfl ?_
              refine q_f rfl ?_
              refine q_pick_t rfl rfl ?_
              refine q_mv rfl ?_
              refine q_f rfl ?_
              refine q_f rfl ?_
              refine q_f rfl ?_
              refine q_pick_t rfl rfl ?_
              refine rg_nil ?_
              refine VS_cond rfl (fun _ => ?_) (fun e => by cases e)
              refine VS_seq ?_
              refine VS_r0 rfl ?_
              refine q_mv rfl ?_
              refine rg_nil ?_
              refine VS_ret ?_
              refine Bd.now ⟨_, rfl, congrArg PV.bool ?_⟩
              first | (simp [goodInner, all_false (q := fun k => decide (0 ≤ k) && decide (k ≤ 15)) i c2 (by simp; omega)]; done) | (have e2 : max (nth cs i) 0 = nth cs i := (by omega); rw [e2] at c3; simp [goodInner, nodup_false i c2 (by simpa using c3)])
          · try simp at c2
            refine VS_exit ?_
            refine VS_seq ?_
            refine VS_r0 rfl ?_
            refine q_mv rfl ?_
            refine rg_nil ?_
            refine VS_ret ?_
            refine Bd.now ⟨_, rfl, congrArg PV.bool ?_⟩
            have e1 := nodup_true (xs := cs) fun j hj => (g2 j (by omega)).2
            have e2 := all_true (xs := cs) (q := fun k => decide (0 ≤ k) && decide (k ≤ 15)) fun j hj => by have := (g2 j (by omega)).1; simp; omega
            simp only [goodInner, e1, e2, c0]
            simp
            omega
    · try simp at g16
      refine q_f rfl ?_
      refine q_f rfl ?_
      refine q_f rfl ?_
      refine q_f rfl ?_
      refine q_pick_t rfl rfl ?_
      refine rg_nil ?_
      refine VS_cond rfl (fun _ => ?_) (fun e => by cases e)
      refine VS_seq ?_
      refine VS_r0 rfl ?_
      refine q_mv rfl ?_
      refine rg_nil ?_
      refine VS_ret ?_
      refine Bd.now ⟨_, rfl, congrArg PV.bool ?_⟩
      first | (simp [goodInner, *]; done) | (simp [goodInner]; intros; exfalso; omega)
  · try simp at g10
    refine q_f rfl ?_
    refine q_f rfl ?_
    refine q_f rfl ?_
    refine q_f rfl ?_
    refine q_pick_t rfl rfl ?_
    refine q_mv rfl ?_
    refine q_f rfl ?_
    refine q_f rfl ?_
    refine q_f rfl ?_
    refine q_f rfl ?_
    refine q_pick_t rfl rfl ?_
    refine rg_nil ?_
    refine VS_cond rfl (fun _ => ?_) (fun e => by cases e)
    refine VS_seq ?_
    refine VS_r0 rfl ?_
    refine q_mv rfl ?_
    refine rg_nil ?_
    refine VS_ret ?_
    refine Bd.now ⟨_, rfl, congrArg PV.bool ?_⟩
    first | (simp [goodInner, *]; done) | (simp [goodInner]; intros; exfalso; omega)
theorem c_impl_RouteKey (ks cs : List Int) (k : Int) (hk : ks.length ≤ 1000000000) (hc : cs.length ≤ 1000000000) : PCon prog 45 [innP ks cs, i64 k] (fun p => p = i64 (if goodInner ks cs then nth cs (upTo ks k) else -1)) := by
  refine con_of_VS sl_impl_RouteKey (by simp) ?_
  refine VS_seq ?_
  refine VS_r0 rfl ?_
  refine q_box rfl rfl rfl (by first | exact trivial | exact Sub.nil | exact Sub.refl _ | exact Sub.app _ _ | exact SubL.sub (by repeat (first | exact SubL.nil | apply SubL.none | apply SubL.some | apply SubL.sh | apply SubL.eq)) | (refine Sub.of_eq ?_; intro o ob h; rcases o with _ | _ | _ | _ | _ | o <;> simp_all)) ?_
  refine q_mv rfl ?_
  refine rg_nil ?_
  refine VS_seq ?_
  refine VS_seq ?_
  refine VS_r0 rfl ?_
  first | refine q_load_c rfl rfl rfl ?_ | refine q_load_ra rfl rfl rfl rfl rfl (by first | (simp; done) | (simp [setAt]; done)) rfl ?_
  refine q_callp (c_impl_ValidInner ks cs hk hc) rfl (by first | exact trivial | exact Sub.nil | exact Sub.refl _ | exact Sub.app _ _ | exact SubL.sub (by repeat (first | exact SubL.nil | apply SubL.none | apply SubL.some | apply SubL.sh | apply SubL.eq)) | (refine Sub.of_eq ?_; intro o ob h; rcases o with _ | _ | _ | _ | _ | o <;> simp_all)) ?_
  refine q_not rfl ?_
  refine rg_nil ?_
  refine VS_cond rfl (fun c0 => ?_) (fun c0 => ?_)
  · try simp at c0
    refine VS_seq ?_
    refine VS_r0 rfl ?_
    refine q_mv rfl ?_
    refine rg_nil ?_
    refine VS_ret ?_
    exact Bd.now ⟨_, rfl, by simp [c0, goodInner_keys]⟩
  · try simp at c0
    refine VS_skip ?_
    refine VS_seq ?_
    refine VS_r2 _ hmix (Sub.refl _) ?_
    first | refine q_fld_r rfl ?_ | refine q_fld_c rfl rfl ?_
    first | refine q_load_c rfl rfl rfl ?_ | refine q_load_r rfl rfl rfl rfl rfl rfl rfl ?_ | refine q_load_o rfl rfl rfl rfl rfl ?_
    first | refine q_fld_r rfl ?_ | refine q_fld_c rfl rfl ?_
    first | refine q_load_c rfl rfl rfl ?_ | refine q_load_r rfl rfl rfl rfl rfl rfl rfl ?_ | refine q_load_o rfl rfl rfl rfl rfl ?_
    refine q_mv rfl ?_
    refine q_callp (c_impl_KeysUpTo ks k hk) rfl (by first | exact trivial | exact Sub.nil | exact Sub.refl _ | exact Sub.app _ _ | exact SubL.sub (by repeat (first | exact SubL.nil | apply SubL.none | apply SubL.some | apply SubL.sh | apply SubL.eq)) | (refine Sub.of_eq ?_; intro o ob h; rcases o with _ | _ | _ | _ | _ | o <;> simp_all)) ?_
    have l1 := goodInner_len c0
    have l2 := upTo_le ks k
    have l3 := goodInner_keys c0
    rw [if_pos l3]
    refine q_idx_m rfl rfl (by omega) (by omega) (fun _ => rfl) ?_
    first | refine q_load_c rfl rfl rfl ?_ | refine q_load_r rfl rfl rfl rfl rfl rfl rfl ?_ | refine q_load_o rfl rfl rfl rfl rfl ?_
    refine q_mv rfl ?_
    refine rg_nil ?_
    refine VS_ret ?_
    exact Bd.now ⟨_, rfl, by simp [c0, goodInner_keys]⟩
end Go.V
