/- A part of the proofs about laws of the page tree (see the text that bears the law): a small language of steps, its rules, and what the functions of the program return. -/
import Derived.Test.YtnnmedfjjkmbaaaLD
import Derived.Test.YtnnmedfjjkmbaaaSLa
set_option linter.all false
set_option linter.unusedVariables false
set_option linter.unusedSimpArgs false
set_option maxHeartbeats 4000000
namespace Go.V
open Go.Proofs.Try (prog)
set_option maxRecDepth 100000
theorem sl_spec_inRange : slimF prog 60 = some (15, (.seq (.reg 0 (.op ⟨some 6, none, .mv (.c (.pv (.bool false)))⟩ .nil)) (.seq (.reg 0 (.op ⟨some 7, none, .mv (.t 1)⟩ (.op ⟨some 8, none, .mv (.t 0)⟩ (.op ⟨some 9, none, .bin .leq (.t 7) (.t 8)⟩ (.op ⟨some 10, none, .mv (.t 9)⟩ (.op ⟨some 11, some (10, true), .mv (.t 0)⟩ (.op ⟨some 12, some (10, true), .mv (.t 2)⟩ (.op ⟨some 13, some (10, true), .bin .leq (.t 11) (.t 12)⟩ (.op ⟨some 14, none, .pick (.t 10) (.t 13) (.c (.pv (.bool false)))⟩ (.op ⟨some 6, none, .mv (.t 14)⟩ .nil)))))))))) .ret), [.t 6])) := by kernel_rfl
theorem c_spec_inRange (k a b : Int) : PCon prog 60 [i64 k, i64 a, i64 b] (fun p => p = .bool (decide (a ≤ k) && decide (k ≤ b))) := by
  refine con_of_VS sl_spec_inRange (by simp) ?_
  refine VS_seq ?_
  refine VS_r0 rfl ?_
  refine q_mv rfl ?_
  refine rg_nil ?_
  refine VS_seq ?_
  refine VS_r0 rfl ?_
  refine q_mv rfl ?_
  refine q_mv rfl ?_
  refine q_leq rfl rfl ?_
  refine q_mv rfl ?_
  refine q_b rfl (fun g10 => ?_) (fun g10 => ?_)
  · try simp at g10
    refine q_t rfl ?_
    refine q_mv rfl ?_
    refine q_t rfl ?_
    refine q_mv rfl ?_
    refine q_t rfl ?_
    refine q_leq rfl rfl ?_
    refine q_pick_t rfl rfl ?_
    refine q_mv rfl ?_
    refine rg_nil ?_
    refine VS_ret ?_
    exact Bd.now ⟨_, rfl, (by first | rfl | (simp [*]; done) | (simp; omega) | (simp_all; done) | (simp_all; omega))⟩
  · try simp at g10
    refine q_f rfl ?_
    refine q_f rfl ?_
    refine q_f rfl ?_
    refine q_pick_f rfl rfl ?_
    refine q_mv rfl ?_
    refine rg_nil ?_
    refine VS_ret ?_
    exact Bd.now ⟨_, rfl, (by first | rfl | (simp [*]; done) | (simp; omega) | (simp_all; done) | (simp_all; omega))⟩
theorem sl_impl_isKey : slimF prog 80 = some (9, (.seq (.reg 0 (.op ⟨some 2, none, .mv (.c (.pv (.bool false)))⟩ .nil)) (.seq (.reg 0 (.op ⟨some 3, none, .mv (.t 0)⟩ (.op ⟨some 4, none, .bin .geq (.t 3) (.c (.pv (.int .i64 0)))⟩ (.op ⟨some 5, none, .mv (.t 4)⟩ (.op ⟨some 6, some (5, true), .mv (.t 0)⟩ (.op ⟨some 7, some (5, true), .bin .leq (.t 6) (.c (.pv (.int .i64 99)))⟩ (.op ⟨some 8, none, .pick (.t 5) (.t 7) (.c (.pv (.bool false)))⟩ (.op ⟨some 2, none, .mv (.t 8)⟩ .nil)))))))) .ret), [.t 2])) := by kernel_rfl
theorem c_impl_isKey (k : Int) : PCon prog 80 [i64 k] (fun p => p = .bool (decide (0 ≤ k) && decide (k ≤ 99))) := by
  refine con_of_VS sl_impl_isKey (by simp) ?_
  refine VS_seq ?_
  refine VS_r0 rfl ?_
  refine q_mv rfl ?_
  refine rg_nil ?_
  refine VS_seq ?_
  refine VS_r0 rfl ?_
  refine q_mv rfl ?_
  refine q_geq rfl rfl ?_
  refine q_mv rfl ?_
  refine q_b rfl (fun g5 => ?_) (fun g5 => ?_)
  · try simp at g5
    refine q_t rfl ?_
    refine q_mv rfl ?_
    refine q_t rfl ?_
    refine q_leq rfl rfl ?_
    refine q_pick_t rfl rfl ?_
    refine q_mv rfl ?_
    refine rg_nil ?_
    refine VS_ret ?_
    exact Bd.now ⟨_, rfl, (by first | rfl | (simp [*]; done) | (simp; omega) | (simp_all; done) | (simp_all; omega))⟩
  · try simp at g5
    refine q_f rfl ?_
    refine q_f rfl ?_
    refine q_pick_f rfl rfl ?_
    refine q_mv rfl ?_
    refine rg_nil ?_
    refine VS_ret ?_
    exact Bd.now ⟨_, rfl, (by first | rfl | (simp [*]; done) | (simp; omega) | (simp_all; done) | (simp_all; omega))⟩
theorem sl_impl_isValue : slimF prog 51 = some (9, (.seq (.reg 0 (.op ⟨some 2, none, .mv (.c (.pv (.bool false)))⟩ .nil)) (.seq (.reg 0 (.op ⟨some 3, none, .mv (.t 0)⟩ (.op ⟨some 4, none, .bin .geq (.t 3) (.c (.pv (.int .i64 (-1000))))⟩ (.op ⟨some 5, none, .mv (.t 4)⟩ (.op ⟨some 6, some (5, true), .mv (.t 0)⟩ (.op ⟨some 7, some (5, true), .bin .leq (.t 6) (.c (.pv (.int .i64 1000)))⟩ (.op ⟨some 8, none, .pick (.t 5) (.t 7) (.c (.pv (.bool false)))⟩ (.op ⟨some 2, none, .mv (.t 8)⟩ .nil)))))))) .ret), [.t 2])) := by kernel_rfl
theorem c_impl_isValue (k : Int) : PCon prog 51 [i64 k] (fun p => p = .bool (decide (-1000 ≤ k) && decide (k ≤ 1000))) := by
  refine con_of_VS sl_impl_isValue (by simp) ?_
  refine VS_seq ?_
  refine VS_r0 rfl ?_
  refine q_mv rfl ?_
  refine rg_nil ?_
  refine VS_seq ?_
  refine VS_r0 rfl ?_
  refine q_mv rfl ?_
  refine q_geq rfl rfl ?_
  refine q_mv rfl ?_
  refine q_b rfl (fun g5 => ?_) (fun g5 => ?_)
  · try simp at g5
    refine q_t rfl ?_
    refine q_mv rfl ?_
    refine q_t rfl ?_
    refine q_leq rfl rfl ?_
    refine q_pick_t rfl rfl ?_
    refine q_mv rfl ?_
    refine rg_nil ?_
    refine VS_ret ?_
    exact Bd.now ⟨_, rfl, (by first | rfl | (simp [*]; done) | (simp; omega) | (simp_all; done) | (simp_all; omega))⟩
  · try simp at g5
    refine q_f rfl ?_
    refine q_f rfl ?_
    refine q_pick_f rfl rfl ?_
    refine q_mv rfl ?_
    refine rg_nil ?_
    refine VS_ret ?_
    exact Bd.now ⟨_, rfl, (by first | rfl | (simp [*]; done) | (simp; omega) | (simp_all; done) | (simp_all; omega))⟩
theorem sl_spec_allIn : slimF prog 89 = some (22, (.seq (.reg 0 (.op ⟨some 6, none, .mv (.c (.pv (.bool false)))⟩ .nil)) (.seq (.seq (.reg 0 (.op ⟨some 7, none, .mv (.c (.pv (.int .i64 0)))⟩ .nil)) (.block 0 (.loop (.seq (.seq (.reg 0 (.op ⟨some 8, none, .mv (.t 7)⟩ (.op ⟨some 9, none, .mv (.t 0)⟩ (.op ⟨some 10, none, .len (.t 9)⟩ (.op ⟨some 11, none, .bin .lss (.t 8) (.t 10)⟩ .nil))))) (.cond (.t 11) .skip (.exit 0))) (.seq (.block 1 (.seq (.reg 0 (.op ⟨some 14, none, .mv (.t 0)⟩ (.op ⟨some 15, none, .mv (.t 7)⟩ (.op ⟨some 16, none, .idx 1 (.t 14) (.t 15)⟩ (.op ⟨some 17, none, .load 1 false (.t 16)⟩ (.op ⟨some 18, none, .mv (.t 1)⟩ (.op ⟨some 19, none, .mv (.t 2)⟩ (.op ⟨some 20, none, .call 60 [.t 17, .t 18, .t 19]⟩ (.op ⟨some 21, none, .not (.t 20)⟩ .nil))))))))) (.cond (.t 21) (.seq (.reg 0 (.op ⟨some 6, none, .mv (.c (.pv (.bool false)))⟩ .nil)) .ret) .skip))) (.reg 0 (.op ⟨some 12, none, .mv (.t 7)⟩ (.op ⟨some 13, none, .bin .add (.t 12) (.c (.pv (.int .i64 1)))⟩ (.op ⟨some 7, none, .mv (.t 13)⟩ .nil))))))))) (.seq (.reg 0 (.op ⟨some 6, none, .mv (.c (.pv (.bool true)))⟩ .nil)) .ret)), [.t 6])) := by kernel_rfl
theorem c_spec_allIn (xs : List Int) (a b : Int) (hl : xs.length ≤ 1000000000) : PCon prog 89 [ints xs, i64 a, i64 b] (fun p => p = .bool (xs.all fun k => decide (a ≤ k) && decide (k ≤ b))) := by
  refine con_of_VS sl_spec_allIn (by simp) ?_
  refine VS_seq ?_
  refine VS_r0 rfl ?_
  refine q_mv rfl ?_
  refine rg_nil ?_
  refine VS_seq ?_
  refine VS_seq ?_
  refine VS_r0 rfl ?_
  refine q_mv rfl ?_
  refine rg_nil ?_
  refine VS_block ?_
  refine VS_bd (Bd.keepL [(0, .pv (ints xs)), (1, .pv (i64 a)), (2, .pv (i64 b)), (6, .pv (.bool false)), (7, .pv (i64 0))] ⟨rfl, rfl, rfl, rfl, rfl, trivial⟩ ?_)
  refine VS_loop (fun mz E S => ∃ i : Nat, mz = xs.length - i ∧ (i ≤ xs.length) ∧ (∀ j, j < i → (decide (a ≤ nth xs j) && decide (nth xs j ≤ b)) = true) ∧ E = env [(0, .pv (ints xs)), (1, .pv (i64 a)), (2, .pv (i64 b)), (6, .pv (.bool false)), (7, .pv (i64 i))] ∧ S = []) ⟨_, 0, rfl, (by first | omega | (intros; omega) | simp), (by first | omega | (intros; omega) | simp), rfl, rfl⟩ ?_
  rintro mz _ _ ⟨i, hmeas, g1, g2, rfl, rfl⟩
  refine VS_seq ?_
  refine VS_seq ?_
  refine VS_r0 rfl ?_
  refine q_mv rfl ?_
  refine q_mv rfl ?_
  first | refine q_len_m rfl ?_ | refine q_len_s rfl ?_ | refine q_len_o rfl ?_ | refine q_len_n rfl ?_ | refine q_len_x rfl ?_
  refine q_lss rfl rfl ?_
  refine rg_nil ?_
  refine VS_cond rfl (fun c0 => ?_) (fun c0 => ?_)
  · try simp at c0
    refine VS_skip ?_
    refine VS_seq ?_
    refine VS_block ?_
    refine VS_seq ?_
    refine VS_r0 rfl ?_
    refine q_mv rfl ?_
    refine q_mv rfl ?_
    first | refine q_idx_c _ rfl rfl (by omega) (fun _ => rfl) ?_ | refine q_idx_m rfl rfl (by omega) (by omega) (fun _ => rfl) ?_ | refine q_idx_om rfl rfl (by omega) (by omega) rfl rfl ?_
    first | refine q_load_c rfl rfl rfl ?_ | refine q_load_r rfl rfl rfl rfl rfl rfl rfl ?_ | refine q_load_o rfl rfl rfl rfl rfl ?_
    refine q_mv rfl ?_
    refine q_mv rfl ?_
    refine q_callp (c_spec_inRange _ _ _) rfl trivial ?_
    refine q_not rfl ?_
    refine rg_nil ?_
    refine VS_cond rfl (fun c1 => ?_) (fun c1 => ?_)
    · try simp at c1
      refine VS_seq ?_
      refine VS_r0 rfl ?_
      refine q_mv rfl ?_
      refine rg_nil ?_
      refine VS_ret ?_
      exact Bd.now ⟨_, rfl, congrArg PV.bool (all_false i c0 (by simp; omega)).symm⟩
    · try simp at c1
      refine VS_skip ?_
      refine VS_r0 rfl ?_
      refine q_mv rfl ?_
      refine q_add rfl rfl (inR64 (by omega)) ?_
      refine q_mv rfl ?_
      refine rg_nil ?_
      refine Bd.keepL [(0, .pv (ints xs)), (1, .pv (i64 a)), (2, .pv (i64 b)), (6, .pv (.bool false)), (7, .pv (i64 (i + 1)))] ⟨rfl, rfl, rfl, rfl, rfl, trivial⟩ ⟨_, ?_, i + 1, rfl, ?_, ?_, rfl, rfl⟩
      · first | omega | assumption | rfl | (simp; omega)
      · first | omega | assumption | rfl | (simp; omega)
      · intro j hj
        by_cases e : j = i
        · subst e; simp_all
        · exact g2 j (by omega)
  · try simp at c0
    refine VS_exit ?_
    refine VS_seq ?_
    refine VS_r0 rfl ?_
    refine q_mv rfl ?_
    refine rg_nil ?_
    refine VS_ret ?_
    exact Bd.now ⟨_, rfl, congrArg PV.bool (all_true fun j hj => g2 j (by omega)).symm⟩
theorem sl_spec_validKeys : slimF prog 83 = some (22, (.seq (.reg 0 (.op ⟨some 2, none, .mv (.c (.pv (.bool false)))⟩ .nil)) (.seq (.seq (.reg 0 (.op ⟨some 3, none, .mv (.c (.pv (.int .i64 1)))⟩ .nil)) (.block 0 (.loop (.seq (.seq (.reg 0 (.op ⟨some 4, none, .mv (.t 3)⟩ (.op ⟨some 5, none, .mv (.t 0)⟩ (.op ⟨some 6, none, .len (.t 5)⟩ (.op ⟨some 7, none, .bin .lss (.t 4) (.t 6)⟩ .nil))))) (.cond (.t 7) .skip (.exit 0))) (.seq (.block 1 (.seq (.reg 1 (.op ⟨some 10, none, .mv (.t 0)⟩ (.op ⟨some 11, none, .mv (.t 3)⟩ (.op ⟨some 12, none, .idx 1 (.t 10) (.t 11)⟩ (.op ⟨some 13, none, .load 1 false (.t 12)⟩ (.op ⟨some 14, none, .mv (.t 0)⟩ (.op ⟨some 15, none, .mv (.t 3)⟩ (.op ⟨some 16, none, .bin .sub (.t 15) (.c (.pv (.int .i64 1)))⟩ (.op ⟨some 17, none, .idx 1 (.t 14) (.t 16)⟩ (.op ⟨some 18, none, .load 1 false (.t 17)⟩ (.op ⟨some 19, none, .bin .leq (.t 13) (.t 18)⟩ .nil))))))))))) (.cond (.t 19) (.seq (.reg 0 (.op ⟨some 2, none, .mv (.c (.pv (.bool false)))⟩ .nil)) .ret) .skip))) (.reg 0 (.op ⟨some 8, none, .mv (.t 3)⟩ (.op ⟨some 9, none, .bin .add (.t 8) (.c (.pv (.int .i64 1)))⟩ (.op ⟨some 3, none, .mv (.t 9)⟩ .nil))))))))) (.seq (.reg 0 (.op ⟨some 20, none, .mv (.t 0)⟩ (.op ⟨some 21, none, .call 89 [.t 20, .c (.pv (.int .i64 0)), .c (.pv (.int .i64 99))]⟩ (.op ⟨some 2, none, .mv (.t 21)⟩ .nil)))) .ret)), [.t 2])) := by kernel_rfl
theorem c_spec_validKeys (xs : List Int) (hl : xs.length ≤ 1000000000) : PCon prog 83 [ints xs] (fun p => p = .bool (goodKeys xs)) := by
  refine con_of_VS sl_spec_validKeys (by simp) ?_
  refine VS_seq ?_
  refine VS_r0 rfl ?_
  refine q_mv rfl ?_
  refine rg_nil ?_
  refine VS_seq ?_
  refine VS_seq ?_
  refine VS_r0 rfl ?_
  refine q_mv rfl ?_
  refine rg_nil ?_
  refine VS_block ?_
  refine VS_bd (Bd.keepL [(0, .pv (ints xs)), (2, .pv (.bool false)), (3, .pv (i64 1))] ⟨rfl, rfl, rfl, trivial⟩ ?_)
  refine VS_loop (fun mz E S => ∃ i : Nat, mz = xs.length - i ∧ (1 ≤ i) ∧ (∀ j, j + 1 < i → nth xs j < nth xs (j + 1)) ∧ E = env [(0, .pv (ints xs)), (2, .pv (.bool false)), (3, .pv (i64 i))] ∧ S = []) ⟨_, 1, rfl, (by first | omega | (intros; omega) | simp), (by first | omega | (intros; omega) | simp), rfl, rfl⟩ ?_
  rintro mz _ _ ⟨i, hmeas, g1, g2, rfl, rfl⟩
  refine VS_seq ?_
  refine VS_seq ?_
  refine VS_r0 rfl ?_
  refine q_mv rfl ?_
  refine q_mv rfl ?_
  first | refine q_len_m rfl ?_ | refine q_len_s rfl ?_ | refine q_len_o rfl ?_ | refine q_len_n rfl ?_ | refine q_len_x rfl ?_
  refine q_lss rfl rfl ?_
  refine rg_nil ?_
  refine VS_cond rfl (fun c0 => ?_) (fun c0 => ?_)
  · try simp at c0
    refine VS_skip ?_
    refine VS_seq ?_
    refine VS_block ?_
    refine VS_seq ?_
    refine VS_r1 hmix rfl ?_
    refine q_mv rfl ?_
    refine q_mv rfl ?_
    first | refine q_idx_c _ rfl rfl (by omega) (fun _ => rfl) ?_ | refine q_idx_m rfl rfl (by omega) (by omega) (fun _ => rfl) ?_ | refine q_idx_om rfl rfl (by omega) (by omega) rfl rfl ?_
    first | refine q_load_c rfl rfl rfl ?_ | refine q_load_r rfl rfl rfl rfl rfl rfl rfl ?_ | refine q_load_o rfl rfl rfl rfl rfl ?_
    refine q_mv rfl ?_
    refine q_mv rfl ?_
    refine q_sub rfl rfl (inR64 (by omega)) ?_
    first | refine q_idx_c _ rfl rfl (by omega) (fun _ => rfl) ?_ | refine q_idx_m rfl rfl (by omega) (by omega) (fun _ => rfl) ?_ | refine q_idx_om rfl rfl (by omega) (by omega) rfl rfl ?_
    first | refine q_load_c rfl rfl rfl ?_ | refine q_load_r rfl rfl rfl rfl rfl rfl rfl ?_ | refine q_load_o rfl rfl rfl rfl rfl ?_
    refine q_leq rfl rfl ?_
    refine rg_nil ?_
    refine VS_cond rfl (fun c1 => ?_) (fun c1 => ?_)
    · try simp at c1
      refine VS_seq ?_
      refine VS_r0 rfl ?_
      refine q_mv rfl ?_
      refine rg_nil ?_
      refine VS_ret ?_
      exact Bd.now ⟨_, rfl, congrArg PV.bool (good_false i g1 c0 (by simpa using c1)).symm⟩
    · try simp at c1
      refine VS_skip ?_
      refine VS_r0 rfl ?_
      refine q_mv rfl ?_
      refine q_add rfl rfl (inR64 (by omega)) ?_
      refine q_mv rfl ?_
      refine rg_nil ?_
      refine Bd.keepL [(0, .pv (ints xs)), (2, .pv (.bool false)), (3, .pv (i64 (i + 1)))] ⟨rfl, rfl, rfl, trivial⟩ ⟨_, ?_, i + 1, rfl, ?_, ?_, rfl, rfl⟩
      · first | omega | assumption | rfl | (simp; omega)
      · first | omega | assumption | rfl | (simp; omega)
      · intro j hj
        by_cases e : j + 1 = i
        · have e2 : i - 1 = j := by omega
          have e3 : ((i : Int) - 1).toNat = j := by omega
          simp only [e2, e3] at c1
          rw [e]
          omega
        · exact g2 j (by omega)
  · try simp at c0
    refine VS_exit ?_
    refine VS_seq ?_
    refine VS_r0 rfl ?_
    refine q_mv rfl ?_
    refine q_callp (c_spec_allIn _ _ _ hl) rfl trivial ?_
    refine q_mv rfl ?_
    refine rg_nil ?_
    refine VS_ret ?_
    exact Bd.now ⟨_, rfl, congrArg PV.bool (good_all fun j hj => g2 j (by omega)).symm⟩
theorem sl_impl_ValidKeys : slimF prog 52 = some (27, (.seq (.reg 0 (.op ⟨some 2, none, .mv (.c (.pv (.bool false)))⟩ .nil)) (.seq (.seq (.reg 0 (.op ⟨some 5, none, .mv (.t 0)⟩ (.op ⟨some 6, none, .len (.t 5)⟩ (.op ⟨some 7, none, .mv (.c (.pv (.int .i64 0)))⟩ .nil)))) (.block 0 (.loop (.seq (.reg 0 (.op ⟨some 8, none, .bin .lss (.t 7) (.t 6)⟩ .nil)) (.seq (.cond (.t 8) .skip (.exit 0)) (.seq (.block 1 (.seq (.reg 0 (.op ⟨some 9, none, .mv (.t 7)⟩ (.op ⟨some 10, none, .idx 1 (.t 5) (.t 7)⟩ (.op ⟨some 11, none, .load 1 false (.t 10)⟩ (.op ⟨some 3, none, .mv (.t 9)⟩ (.op ⟨some 4, none, .mv (.t 11)⟩ .nil)))))) (.seq (.seq (.reg 0 (.op ⟨some 12, none, .mv (.t 4)⟩ (.op ⟨some 13, none, .call 80 [.t 12]⟩ (.op ⟨some 14, none, .not (.t 13)⟩ .nil)))) (.cond (.t 14) (.seq (.reg 0 (.op ⟨some 2, none, .mv (.c (.pv (.bool false)))⟩ .nil)) .ret) .skip)) (.seq (.reg 0 (.op ⟨some 15, none, .mv (.t 3)⟩ (.op ⟨some 16, none, .bin .gtr (.t 15) (.c (.pv (.int .i64 0)))⟩ (.op ⟨some 17, none, .mv (.t 16)⟩ (.op ⟨some 18, some (17, true), .mv (.t 0)⟩ (.op ⟨some 19, some (17, true), .mv (.t 3)⟩ (.op ⟨some 20, some (17, true), .bin .sub (.t 19) (.c (.pv (.int .i64 1)))⟩ (.op ⟨some 21, some (17, true), .idx 1 (.t 18) (.t 20)⟩ (.op ⟨some 22, some (17, true), .load 1 false (.t 21)⟩ (.op ⟨some 23, some (17, true), .mv (.t 4)⟩ (.op ⟨some 24, some (17, true), .bin .geq (.t 22) (.t 23)⟩ (.op ⟨some 25, none, .pick (.t 17) (.t 24) (.c (.pv (.bool false)))⟩ .nil)))))))))))) (.cond (.t 25) (.seq (.reg 0 (.op ⟨some 2, none, .mv (.c (.pv (.bool false)))⟩ .nil)) .ret) .skip))))) (.reg 0 (.op ⟨some 26, none, .bin .add (.t 7) (.c (.pv (.int .i64 1)))⟩ (.op ⟨some 7, none, .mv (.t 26)⟩ .nil))))))))) (.seq (.reg 0 (.op ⟨some 2, none, .mv (.c (.pv (.bool true)))⟩ .nil)) .ret)), [.t 2])) := by kernel_rfl
theorem c_impl_ValidKeys (xs : List Int) (hl : xs.length ≤ 1000000000) : PCon prog 52 [ints xs] (fun p => p = .bool (goodKeys xs)) := by
  refine con_of_VS sl_impl_ValidKeys (by simp) ?_
  refine VS_seq ?_
  refine VS_r0 rfl ?_
  refine q_mv rfl ?_
  refine rg_nil ?_
  refine VS_seq ?_
  refine VS_seq ?_
  refine VS_r0 rfl ?_
  refine q_mv rfl ?_
  first | refine q_len_m rfl ?_ | refine q_len_s rfl ?_ | refine q_len_o rfl ?_ | refine q_len_n rfl ?_ | refine q_len_x rfl ?_
  refine q_mv rfl ?_
  refine rg_nil ?_
  refine VS_block ?_
  refine VS_bd (Bd.keepL [(0, .pv (ints xs)), (2, .pv (.bool false)), (5, .pv (ints xs)), (6, .pv (i64 xs.length)), (7, .pv (i64 0))] ⟨rfl, rfl, rfl, rfl, rfl, trivial⟩ ?_)
  refine VS_loop (fun mz E S => ∃ i : Nat, mz = xs.length - i ∧ (i ≤ xs.length) ∧ (∀ j, j < i → 0 ≤ nth xs j ∧ nth xs j ≤ 99) ∧ (∀ j, j + 1 < i → nth xs j < nth xs (j + 1)) ∧ E = env [(0, .pv (ints xs)), (2, .pv (.bool false)), (5, .pv (ints xs)), (6, .pv (i64 xs.length)), (7, .pv (i64 i))] ∧ S = []) ⟨_, 0, rfl, (by first | omega | (intros; omega) | simp), (by first | omega | (intros; omega) | simp), (by first | omega | (intros; omega) | simp), rfl, rfl⟩ ?_
  rintro mz _ _ ⟨i, hmeas, g0, g1, g2, rfl, rfl⟩
  refine VS_seq ?_
  refine VS_r0 rfl ?_
  refine q_lss rfl rfl ?_
  refine rg_nil ?_
  refine VS_seq ?_
  refine VS_cond rfl (fun c0 => ?_) (fun c0 => ?_)
  · try simp at c0
    refine VS_skip ?_
    refine VS_seq ?_
    refine VS_block ?_
    refine VS_seq ?_
    refine VS_r0 rfl ?_
    refine q_mv rfl ?_
    first | refine q_idx_c _ rfl rfl (by omega) (fun _ => rfl) ?_ | refine q_idx_m rfl rfl (by omega) (by omega) (fun _ => rfl) ?_ | refine q_idx_om rfl rfl (by omega) (by omega) rfl rfl ?_
    first | refine q_load_c rfl rfl rfl ?_ | refine q_load_r rfl rfl rfl rfl rfl rfl rfl ?_ | refine q_load_o rfl rfl rfl rfl rfl ?_
    refine q_mv rfl ?_
    refine q_mv rfl ?_
    refine rg_nil ?_
    refine VS_seq ?_
    refine VS_seq ?_
    refine VS_r0 rfl ?_
    refine q_mv rfl ?_
    refine q_callp (c_impl_isKey _) rfl trivial ?_
    refine q_not rfl ?_
    refine rg_nil ?_
    refine VS_cond rfl (fun c1 => ?_) (fun c1 => ?_)
    · try simp at c1
      refine VS_seq ?_
      refine VS_r0 rfl ?_
      refine q_mv rfl ?_
      refine rg_nil ?_
      refine VS_ret ?_
      exact Bd.now ⟨_, rfl, congrArg PV.bool (good_false2 i c0 (by simp; omega)).symm⟩
    · try simp at c1
      refine VS_skip ?_
      refine VS_seq ?_
      refine VS_r0 rfl ?_
      refine q_mv rfl ?_
      refine q_gtr rfl rfl ?_
      refine q_mv rfl ?_
      refine q_b rfl (fun g17 => ?_) (fun g17 => ?_)
      · try simp at g17
        refine q_t rfl ?_
        refine q_mv rfl ?_
        refine q_t rfl ?_
        refine q_mv rfl ?_
        refine q_t rfl ?_
        refine q_sub rfl rfl (inR64 (by omega)) ?_
        refine q_t rfl ?_
        first | refine q_idx_c _ rfl rfl (by omega) (fun _ => rfl) ?_ | refine q_idx_m rfl rfl (by omega) (by omega) (fun _ => rfl) ?_ | refine q_idx_om rfl rfl (by omega) (by omega) rfl rfl ?_
        refine q_t rfl ?_
        first | refine q_load_c rfl rfl rfl ?_ | refine q_load_r rfl rfl rfl rfl rfl rfl rfl ?_ | refine q_load_o rfl rfl rfl rfl rfl ?_
        refine q_t rfl ?_
        refine q_mv rfl ?_
        refine q_t rfl ?_
        refine q_geq rfl rfl ?_
        refine q_pick_t rfl rfl ?_
        refine rg_nil ?_
        refine VS_cond rfl (fun c2 => ?_) (fun c2 => ?_)
        · try simp at c2
          refine VS_seq ?_
          refine VS_r0 rfl ?_
          refine q_mv rfl ?_
          refine rg_nil ?_
          refine VS_ret ?_
          exact Bd.now ⟨_, rfl, congrArg PV.bool (good_false i (by omega) c0 (by simpa using c2)).symm⟩
        · try simp at c2
          refine VS_skip ?_
          refine VS_r0 rfl ?_
          refine q_add rfl rfl (inR64 (by omega)) ?_
          refine q_mv rfl ?_
          refine rg_nil ?_
          refine Bd.keepL [(0, .pv (ints xs)), (2, .pv (.bool false)), (5, .pv (ints xs)), (6, .pv (i64 xs.length)), (7, .pv (i64 (i + 1)))] ⟨rfl, rfl, rfl, rfl, rfl, trivial⟩ ⟨_, ?_, i + 1, rfl, ?_, ?_, ?_, rfl, rfl⟩
          · first | omega | assumption | rfl | (simp; omega)
          · first | omega | assumption | rfl | (simp; omega)
          · intro j hj
            by_cases e : j = i
            · subst e; omega
            · exact g1 j (by omega)
          · intro j hj
            by_cases e : j + 1 = i
            · have e2 : i - 1 = j := by omega
              have e3 : ((i : Int) - 1).toNat = j := by omega
              first | (exfalso; omega) | (simp only [e2, e3] at c2; rw [e]; omega)
            · exact g2 j (by omega)
      · try simp at g17
        refine q_f rfl ?_
        refine q_f rfl ?_
        refine q_f rfl ?_
        refine q_f rfl ?_
        refine q_f rfl ?_
        refine q_f rfl ?_
        refine q_f rfl ?_
        refine q_pick_f rfl rfl ?_
        refine rg_nil ?_
        refine VS_cond rfl (fun e => by cases e) (fun _ => ?_)
        refine VS_skip ?_
        refine VS_r0 rfl ?_
        refine q_add rfl rfl (inR64 (by omega)) ?_
        refine q_mv rfl ?_
        refine rg_nil ?_
        refine Bd.keepL [(0, .pv (ints xs)), (2, .pv (.bool false)), (5, .pv (ints xs)), (6, .pv (i64 xs.length)), (7, .pv (i64 (i + 1)))] ⟨rfl, rfl, rfl, rfl, rfl, trivial⟩ ⟨_, ?_, i + 1, rfl, ?_, ?_, ?_, rfl, rfl⟩
        · first | omega | assumption | rfl | (simp; omega)
        · first | omega | assumption | rfl | (simp; omega)
        · intro j hj
          by_cases e : j = i
          · subst e; omega
          · exact g1 j (by omega)
        · intro j hj
          by_cases e : j + 1 = i
          · have e2 : i - 1 = j := by omega
            have e3 : ((i : Int) - 1).toNat = j := by omega
            first | (exfalso; omega) | (simp only [e2, e3] at c2; rw [e]; omega)
          · exact g2 j (by omega)
  · try simp at c0
    refine VS_exit ?_
    refine VS_seq ?_
    refine VS_r0 rfl ?_
    refine q_mv rfl ?_
    refine rg_nil ?_
    refine VS_ret ?_
    exact Bd.now ⟨_, rfl, congrArg PV.bool (good_true (fun j hj => g1 j (by omega)) (fun j hj => g2 j (by omega))).symm⟩
theorem sl_spec_below : slimF prog 67 = some (21, (.seq (.reg 0 (.op ⟨some 4, none, .mv (.c (.pv (.int .i64 0)))⟩ .nil)) (.seq (.reg 0 (.op ⟨some 5, none, .mv (.c (.pv (.int .i64 0)))⟩ .nil)) (.seq (.block 0 (.loop (.seq (.seq (.reg 0 (.op ⟨some 6, none, .mv (.t 5)⟩ (.op ⟨some 7, none, .mv (.t 0)⟩ (.op ⟨some 8, none, .len (.t 7)⟩ (.op ⟨some 9, none, .bin .lss (.t 6) (.t 8)⟩ (.op ⟨some 10, none, .mv (.t 9)⟩ (.op ⟨some 11, some (10, true), .mv (.t 0)⟩ (.op ⟨some 12, some (10, true), .mv (.t 5)⟩ (.op ⟨some 13, some (10, true), .idx 1 (.t 11) (.t 12)⟩ (.op ⟨some 14, some (10, true), .load 1 false (.t 13)⟩ (.op ⟨some 15, some (10, true), .mv (.t 1)⟩ (.op ⟨some 16, some (10, true), .bin .lss (.t 14) (.t 15)⟩ (.op ⟨some 17, none, .pick (.t 10) (.t 16) (.c (.pv (.bool false)))⟩ .nil))))))))))))) (.cond (.t 17) .skip (.exit 0))) (.block 1 (.reg 0 (.op ⟨some 18, none, .mv (.t 5)⟩ (.op ⟨some 19, none, .bin .add (.t 18) (.c (.pv (.int .i64 1)))⟩ (.op ⟨some 5, none, .mv (.t 19)⟩ .nil)))))))) (.seq (.reg 0 (.op ⟨some 20, none, .mv (.t 5)⟩ (.op ⟨some 4, none, .mv (.t 20)⟩ .nil))) .ret))), [.t 4])) := by kernel_rfl
theorem c_spec_below (xs : List Int) (k : Int) (hl : xs.length ≤ 1000000000) : PCon prog 67 [ints xs, i64 k] (fun p => p = i64 (upTo xs (k - 1))) := by
  refine con_of_VS sl_spec_below (by simp) ?_
  refine VS_seq ?_
  refine VS_r0 rfl ?_
  refine q_mv rfl ?_
  refine rg_nil ?_
  refine VS_seq ?_
  refine VS_r0 rfl ?_
  refine q_mv rfl ?_
  refine rg_nil ?_
  refine VS_seq ?_
  refine VS_block ?_
  refine VS_bd (Bd.keepL [(0, .pv (ints xs)), (1, .pv (i64 k)), (5, .pv (i64 0))] ⟨rfl, rfl, rfl, trivial⟩ ?_)
  refine VS_loop (fun mz E S => ∃ i : Nat, mz = xs.length - i ∧ (i ≤ xs.length) ∧ (∀ j, j < i → nth xs j ≤ k - 1) ∧ E = env [(0, .pv (ints xs)), (1, .pv (i64 k)), (5, .pv (i64 i))] ∧ S = []) ⟨_, 0, rfl, (by first | omega | (intros; omega) | simp), (by first | omega | (intros; omega) | simp), rfl, rfl⟩ ?_
  rintro mz _ _ ⟨i, hmeas, g0, g1, rfl, rfl⟩
  refine VS_seq ?_
  refine VS_seq ?_
  refine VS_r0 rfl ?_
  refine q_mv rfl ?_
  refine q_mv rfl ?_
  first | refine q_len_m rfl ?_ | refine q_len_s rfl ?_ | refine q_len_o rfl ?_ | refine q_len_n rfl ?_ | refine q_len_x rfl ?_
  refine q_lss rfl rfl ?_
  refine q_mv rfl ?_
  refine q_b rfl (fun g10 => ?_) (fun g10 => ?_)
  · try simp at g10
    refine q_t rfl ?_
    refine q_mv rfl ?_
    refine q_t rfl ?_
    refine q_mv rfl ?_
    refine q_t rfl ?_
    first | refine q_idx_c _ rfl rfl (by omega) (fun _ => rfl) ?_ | refine q_idx_m rfl rfl (by omega) (by omega) (fun _ => rfl) ?_ | refine q_idx_om rfl rfl (by omega) (by omega) rfl rfl ?_
    refine q_t rfl ?_
    first | refine q_load_c rfl rfl rfl ?_ | refine q_load_r rfl rfl rfl rfl rfl rfl rfl ?_ | refine q_load_o rfl rfl rfl rfl rfl ?_
    refine q_t rfl ?_
    refine q_mv rfl ?_
    refine q_t rfl ?_
    refine q_lss rfl rfl ?_
    refine q_pick_t rfl rfl ?_
    refine rg_nil ?_
    refine VS_cond rfl (fun c0 => ?_) (fun c0 => ?_)
    · try simp at c0
      refine VS_skip ?_
      refine VS_block ?_
      refine VS_r0 rfl ?_
      refine q_mv rfl ?_
      refine q_add rfl rfl (inR64 (by omega)) ?_
      refine q_mv rfl ?_
      refine rg_nil ?_
      refine Bd.keepL [(0, .pv (ints xs)), (1, .pv (i64 k)), (5, .pv (i64 (i + 1)))] ⟨rfl, rfl, rfl, trivial⟩ ⟨_, ?_, i + 1, rfl, ?_, ?_, rfl, rfl⟩
      · first | omega | assumption | rfl | (simp; omega)
      · first | omega | assumption | rfl | (simp; omega)
      · intro j hj
        by_cases e : j = i
        · subst e; first | omega | (simp at c0; omega)
        · exact g1 j (by omega)
    · try simp at c0
      refine VS_exit ?_
      refine VS_seq ?_
      refine VS_r0 rfl ?_
      refine q_mv rfl ?_
      refine q_mv rfl ?_
      refine rg_nil ?_
      refine VS_ret ?_
      exact Bd.now ⟨_, rfl, congrArg (fun n : Nat => i64 n) (upTo_eq g0 g1 (fun _ => by first | omega | (simp at c0; omega))).symm⟩
  · try simp at g10
    refine q_f rfl ?_
    refine q_f rfl ?_
    refine q_f rfl ?_
    refine q_f rfl ?_
    refine q_f rfl ?_
    refine q_f rfl ?_
    refine q_pick_f rfl rfl ?_
    refine rg_nil ?_
    refine VS_cond rfl (fun e => by cases e) (fun _ => ?_)
    refine VS_exit ?_
    refine VS_seq ?_
    refine VS_r0 rfl ?_
    refine q_mv rfl ?_
    refine q_mv rfl ?_
    refine rg_nil ?_
    refine VS_ret ?_
    exact Bd.now ⟨_, rfl, congrArg (fun n : Nat => i64 n) (upTo_eq g0 g1 (fun _ => by first | omega | (simp at c0; omega))).symm⟩
end Go.V

set_option maxHeartbeats 4000000
namespace Go.V
open Go.Proofs.Try (prog)
set_option maxRecDepth 100000
theorem sl_spec_reader_pick : slimF prog 55 = some (99, (.seq (.reg 0 (.op ⟨some 4, none, .mv (.c (.pv (.int .i64 0)))⟩ .nil)) (.seq (.reg 0 (.op ⟨some 7, none, .mv (.t 0)⟩ (.op ⟨some 8, none, .mv (.t 0)⟩ (.op ⟨some 9, none, .nilc (.t 8)⟩ (.op ⟨some 10, none, .fld 1 1 false (.t 9)⟩ (.op ⟨some 11, none, .load 1 false (.t 10)⟩ (.op ⟨some 12, none, .bin .add (.t 11) (.c (.pv (.int .i64 1)))⟩ (.op ⟨some 13, none, .nilc (.t 7)⟩ (.op ⟨some 14, none, .fld 1 1 false (.t 13)⟩ (.op ⟨none, none, .store 1 (.t 14) (.t 12)⟩ .nil)))))))))) (.seq (.seq (.reg 0 (.op ⟨some 15, none, .mv (.t 1)⟩ (.op ⟨some 16, none, .bin .lss (.t 15) (.c (.pv (.int .i64 1)))⟩ (.op ⟨some 17, none, .mv (.t 16)⟩ (.op ⟨some 18, some (17, false), .mv (.t 0)⟩ (.op ⟨some 19, some (17, false), .nilc (.t 18)⟩ (.op ⟨some 20, some (17, false), .fld 0 1 false (.t 19)⟩ (.op ⟨some 21, some (17, false), .load 1 false (.t 20)⟩ (.op ⟨some 22, some (17, false), .len (.t 21)⟩ (.op ⟨some 23, some (17, false), .bin .eql (.t 22) (.c (.pv (.int .i64 0)))⟩ (.op ⟨some 24, none, .pick (.t 17) (.c (.pv (.bool true))) (.t 23)⟩ .nil))))))))))) (.cond (.t 24) (.seq (.reg 0 (.op ⟨some 4, none, .mv (.c (.pv (.int .i64 0)))⟩ .nil)) .ret) .skip)) (.seq (.reg 0 (.op ⟨some 25, none, .mv (.t 0)⟩ (.op ⟨some 26, none, .nilc (.t 25)⟩ (.op ⟨some 27, none, .fld 1 1 false (.t 26)⟩ (.op ⟨some 28, none, .load 1 false (.t 27)⟩ (.op ⟨some 29, none, .bin .sub (.t 28) (.c (.pv (.int .i64 1)))⟩ (.op ⟨some 5, none, .mv (.t 29)⟩ .nil))))))) (.seq (.seq (.reg 0 (.op ⟨some 30, none, .mv (.t 5)⟩ (.op ⟨some 31, none, .mv (.t 0)⟩ (.op ⟨some 32, none, .nilc (.t 31)⟩ (.op ⟨some 33, none, .fld 0 1 false (.t 32)⟩ (.op ⟨some 34, none, .load 1 false (.t 33)⟩ (.op ⟨some 35, none, .len (.t 34)⟩ (.op ⟨some 36, none, .bin .lss (.t 30) (.t 35)⟩ .nil)))))))) (.cond (.t 36) (.seq (.reg 0 (.op ⟨some 37, none, .mv (.t 0)⟩ (.op ⟨some 38, none, .nilc (.t 37)⟩ (.op ⟨some 39, none, .fld 0 1 false (.t 38)⟩ (.op ⟨some 40, none, .load 1 false (.t 39)⟩ (.op ⟨some 41, none, .mv (.t 5)⟩ (.op ⟨some 42, none, .idx 1 (.t 40) (.t 41)⟩ (.op ⟨some 43, none, .load 1 false (.t 42)⟩ (.op ⟨some 44, none, .conv .i64 (.t 43)⟩ (.op ⟨some 45, none, .mv (.t 1)⟩ (.op ⟨some 46, none, .bin .rem (.t 44) (.t 45)⟩ (.op ⟨some 4, none, .mv (.t 46)⟩ .nil)))))))))))) .ret) .skip)) (.seq (.reg 1 (.op ⟨some 47, none, .mv (.t 0)⟩ (.op ⟨some 48, none, .nilc (.t 47)⟩ (.op ⟨some 49, none, .fld 0 1 false (.t 48)⟩ (.op ⟨some 50, none, .load 1 false (.t 49)⟩ (.op ⟨some 51, none, .mv (.t 5)⟩ (.op ⟨some 52, none, .mv (.t 0)⟩ (.op ⟨some 53, none, .nilc (.t 52)⟩ (.op ⟨some 54, none, .fld 0 1 false (.t 53)⟩ (.op ⟨some 55, none, .load 1 false (.t 54)⟩ (.op ⟨some 56, none, .len (.t 55)⟩ (.op ⟨some 57, none, .bin .rem (.t 51) (.t 56)⟩ (.op ⟨some 58, none, .idx 1 (.t 50) (.t 57)⟩ (.op ⟨some 59, none, .load 1 false (.t 58)⟩ (.op ⟨some 60, none, .conv .i64 (.t 59)⟩ (.op ⟨some 61, none, .bin .mul (.t 60) (.c (.pv (.int .i64 131)))⟩ (.op ⟨some 62, none, .mv (.t 0)⟩ (.op ⟨some 63, none, .nilc (.t 62)⟩ (.op ⟨some 64, none, .fld 0 1 false (.t 63)⟩ (.op ⟨some 65, none, .load 1 false (.t 64)⟩ (.op ⟨some 66, none, .mv (.t 5)⟩ (.op ⟨some 67, none, .bin .mul (.t 66) (.c (.pv (.int .i64 7)))⟩ (.op ⟨some 68, none, .bin .add (.t 67) (.c (.pv (.int .i64 3)))⟩ (.op ⟨some 69, none, .mv (.t 0)⟩ (.op ⟨some 70, none, .nilc (.t 69)⟩ (.op ⟨some 71, none, .fld 0 1 false (.t 70)⟩ (.op ⟨some 72, none, .load 1 false (.t 71)⟩ (.op ⟨some 73, none, .len (.t 72)⟩ (.op ⟨some 74, none, .bin .rem (.t 68) (.t 73)⟩ (.op ⟨some 75, none, .idx 1 (.t 65) (.t 74)⟩ (.op ⟨some 76, none, .load 1 false (.t 75)⟩ (.op ⟨some 77, none, .conv .i64 (.t 76)⟩ (.op ⟨some 78, none, .bin .mul (.t 77) (.c (.pv (.int .i64 1117)))⟩ (.op ⟨some 79, none, .bin .add (.t 61) (.t 78)⟩ (.op ⟨some 80, none, .mv (.t 5)⟩ (.op ⟨some 81, none, .bin .mul (.t 80) (.c (.pv (.int .i64 29)))⟩ (.op ⟨some 82, none, .bin .add (.t 79) (.t 81)⟩ (.op ⟨some 83, none, .mv (.t 5)⟩ (.op ⟨some 84, none, .mv (.t 0)⟩ (.op ⟨some 85, none, .nilc (.t 84)⟩ (.op ⟨some 86, none, .fld 0 1 false (.t 85)⟩ (.op ⟨some 87, none, .load 1 false (.t 86)⟩ (.op ⟨some 88, none, .len (.t 87)⟩ (.op ⟨some 89, none, .bin .quo (.t 83) (.t 88)⟩ (.op ⟨some 90, none, .bin .mul (.t 89) (.c (.pv (.int .i64 53)))⟩ (.op ⟨some 91, none, .bin .add (.t 82) (.t 90)⟩ (.op ⟨some 6, none, .mv (.t 91)⟩ .nil))))))))))))))))))))))))))))))))))))))))))))))) (.seq (.reg 0 (.op ⟨some 92, none, .mv (.t 6)⟩ (.op ⟨some 93, none, .mv (.t 6)⟩ (.op ⟨some 94, none, .bin .quo (.t 93) (.c (.pv (.int .i64 64)))⟩ (.op ⟨some 95, none, .bin .xor (.t 92) (.t 94)⟩ (.op ⟨some 6, none, .mv (.t 95)⟩ .nil)))))) (.seq (.reg 0 (.op ⟨some 96, none, .mv (.t 6)⟩ (.op ⟨some 97, none, .mv (.t 1)⟩ (.op ⟨some 98, none, .bin .rem (.t 96) (.t 97)⟩ (.op ⟨some 4, none, .mv (.t 98)⟩ .nil))))) .ret))))))), [.t 4])) := by kernel_rfl
theorem c_spec_reader_pick (bs : List Int) (hb : isU8 bs) (hbl : bs.length ≤ 2000) (p : Int) (hp : 0 ≤ p) (n : Int) (hp2 : p ≤ 1000000000000) (hn : n ≤ 1000000000000) : RdS prog 55 102 bs p [i64 n] (fun x q => ∃ v : Int, x = i64 v ∧ (0 ≤ v ∧ (v < n ∨ v = 0)) ∧ q = p + 1) := by
  refine callS_of_VS sl_spec_reader_pick (by simp) ?_
  refine VS_seq ?_
  refine VS_r0 rfl ?_
  refine q_mv rfl ?_
  refine rg_nil ?_
  refine VS_seq ?_
  refine VS_r0 rfl ?_
  refine q_mv rfl ?_
  refine q_mv rfl ?_
  first | refine q_nilc_r rfl ?_ | refine q_nilc_c rfl ?_
  first | refine q_fld_r rfl ?_ | refine q_fld_c rfl rfl ?_
  first | refine q_load_c rfl rfl rfl ?_ | refine q_load_r rfl rfl rfl rfl rfl rfl rfl ?_ | refine q_load_o rfl rfl rfl rfl rfl ?_
  refine q_add rfl rfl (inR64 (by omega)) ?_
  first | refine q_nilc_r rfl ?_ | refine q_nilc_c rfl ?_
  first | refine q_fld_r rfl ?_ | refine q_fld_c rfl rfl ?_
  refine q_store rfl rfl rfl rfl rfl rfl ⟨rfl, rfl, Nat.le_refl 2, rfl, by simp [isOne]⟩ rfl trivial ?_
  refine rg_nil ?_
  refine VS_st [some (rdr 102 bs (p + 1))] rfl ?_
  refine VS_seq ?_
  refine VS_seq ?_
  refine VS_r0 rfl ?_
  refine q_mv rfl ?_
  refine q_lss rfl rfl ?_
  refine q_mv rfl ?_
  refine q_b rfl (fun g17 => ?_) (fun g17 => ?_)
  · try simp at g17
    refine q_t rfl ?_
    refine q_mv rfl ?_
    refine q_t rfl ?_
    first | refine q_nilc_r rfl ?_ | refine q_nilc_c rfl ?_
    refine q_t rfl ?_
    first | refine q_fld_r rfl ?_ | refine q_fld_c rfl rfl ?_
    refine q_t rfl ?_
    first | refine q_load_c rfl rfl rfl ?_ | refine q_load_r rfl rfl rfl rfl rfl rfl rfl ?_ | refine q_load_o rfl rfl rfl rfl rfl ?_
    refine q_t rfl ?_
    first | refine q_len_m rfl ?_ | refine q_len_s rfl ?_ | refine q_len_o rfl ?_ | refine q_len_n rfl ?_ | refine q_len_x rfl ?_
    refine q_t rfl ?_
    refine q_eql rfl rfl ?_
    refine q_pick_f rfl rfl ?_
    refine rg_nil ?_
    refine VS_cond rfl (fun c0 => ?_) (fun c0 => ?_)
    · try simp at c0
      refine VS_seq ?_
      refine VS_r0 rfl ?_
      refine q_mv rfl ?_
      refine rg_nil ?_
      refine VS_ret ?_
      exact Bd.now ⟨_, rfl, _, _, _, rfl, ⟨0, rfl, ⟨Int.le_refl _, .inr rfl⟩, rfl⟩, rfl⟩
    · try simp at c0
      refine VS_skip ?_
      refine VS_seq ?_
      refine VS_r0 rfl ?_
      refine q_mv rfl ?_
      first | refine q_nilc_r rfl ?_ | refine q_nilc_c rfl ?_
      first | refine q_fld_r rfl ?_ | refine q_fld_c rfl rfl ?_
      first | refine q_load_c rfl rfl rfl ?_ | refine q_load_r rfl rfl rfl rfl rfl rfl rfl ?_ | refine q_load_o rfl rfl rfl rfl rfl ?_
      refine q_sub rfl rfl (inR64 (by omega)) ?_
      rw [show p + 1 - 1 = p by omega]
      refine q_mv rfl ?_
      refine rg_nil ?_
      refine VS_seq ?_
      refine VS_seq ?_
      refine VS_r0 rfl ?_
      refine q_mv rfl ?_
      refine q_mv rfl ?_
      first | refine q_nilc_r rfl ?_ | refine q_nilc_c rfl ?_
      first | refine q_fld_r rfl ?_ | refine q_fld_c rfl rfl ?_
      first | refine q_load_c rfl rfl rfl ?_ | refine q_load_r rfl rfl rfl rfl rfl rfl rfl ?_ | refine q_load_o rfl rfl rfl rfl rfl ?_
      first | refine q_len_m rfl ?_ | refine q_len_s rfl ?_ | refine q_len_o rfl ?_ | refine q_len_n rfl ?_ | refine q_len_x rfl ?_
      refine q_lss rfl rfl ?_
      refine rg_nil ?_
      refine VS_cond rfl (fun c1 => ?_) (fun c1 => ?_)
      · try simp at c1
        refine VS_seq ?_
        refine VS_r0 rfl ?_
        have q0 := hb.nth (i := p.toNat) (by omega)
        refine q_mv rfl ?_
        first | refine q_nilc_r rfl ?_ | refine q_nilc_c rfl ?_
        first | refine q_fld_r rfl ?_ | refine q_fld_c rfl rfl ?_
        first | refine q_load_c rfl rfl rfl ?_ | refine q_load_r rfl rfl rfl rfl rfl rfl rfl ?_ | refine q_load_o rfl rfl rfl rfl rfl ?_
        refine q_mv rfl ?_
        first | refine q_idx_c _ rfl rfl (by omega) (fun _ => rfl) ?_ | refine q_idx_m rfl rfl (by omega) (by omega) (fun _ => rfl) ?_ | refine q_idx_om rfl rfl (by omega) (by omega) rfl rfl ?_
        first | refine q_load_c rfl rfl rfl ?_ | refine q_load_r rfl rfl rfl rfl rfl rfl rfl ?_ | refine q_load_o rfl rfl rfl rfl rfl ?_
        refine q_conv rfl (inR64 (by omega)) ?_
        refine q_mv rfl ?_
        refine q_rem rfl rfl ⟨by omega, by omega⟩ ?_
        refine q_mv rfl ?_
        refine rg_nil ?_
        refine VS_ret ?_
        exact Bd.now ⟨_, rfl, _, _, _, rfl, ⟨_, rfl, ⟨Int.emod_nonneg _ (by omega), .inl (Int.emod_lt_of_pos _ (by omega))⟩, rfl⟩, rfl⟩
      · try simp at c1
        refine VS_skip ?_
        refine VS_seq ?_
        refine VS_r1 hmix rfl ?_
        have hpos : (0 : Int) < bs.length := by have := List.length_pos_iff.2 (show bs ≠ [] by assumption); omega
        have e1 := Int.emod_nonneg p (show (bs.length : Int) ≠ 0 by omega)
        have e2 := Int.emod_lt_of_pos p hpos
        have e3 := Int.emod_nonneg (p * 7 + 3) (show (bs.length : Int) ≠ 0 by omega)
        have e4 := Int.emod_lt_of_pos (p * 7 + 3) hpos
        have q1 := hb.nth (i := (p % bs.length).toNat) (by omega)
        have q2 := hb.nth (i := ((p * 7 + 3) % bs.length).toNat) (by omega)
        have e5 : 0 ≤ p / (bs.length : Int) := Int.ediv_nonneg hp (by omega)
        have e6 : p / (bs.length : Int) ≤ p := Int.ediv_le_self _ hp
        refine q_mv rfl ?_
        first | refine q_nilc_r rfl ?_ | refine q_nilc_c rfl ?_
        first | refine q_fld_r rfl ?_ | refine q_fld_c rfl rfl ?_
        first | refine q_load_c rfl rfl rfl ?_ | refine q_load_r rfl rfl rfl rfl rfl rfl rfl ?_ | refine q_load_o rfl rfl rfl rfl rfl ?_
        refine q_mv rfl ?_
        refine q_mv rfl ?_
        first | refine q_nilc_r rfl ?_ | refine q_nilc_c rfl ?_
        first | refine q_fld_r rfl ?_ | refine q_fld_c rfl rfl ?_
        first | refine q_load_c rfl rfl rfl ?_ | refine q_load_r rfl rfl rfl rfl rfl rfl rfl ?_ | refine q_load_o rfl rfl rfl rfl rfl ?_
        first | refine q_len_m rfl ?_ | refine q_len_s rfl ?_ | refine q_len_o rfl ?_ | refine q_len_n rfl ?_ | refine q_len_x rfl ?_
        refine q_rem rfl rfl ⟨by omega, by omega⟩ ?_
        first | refine q_idx_c _ rfl rfl (by omega) (fun _ => rfl) ?_ | refine q_idx_m rfl rfl (by omega) (by omega) (fun _ => rfl) ?_ | refine q_idx_om rfl rfl (by omega) (by omega) rfl rfl ?_
        first | refine q_load_c rfl rfl rfl ?_ | refine q_load_r rfl rfl rfl rfl rfl rfl rfl ?_ | refine q_load_o rfl rfl rfl rfl rfl ?_
        refine q_conv rfl (inR64 (by omega)) ?_
        refine q_mul rfl rfl (inR64 (by omega)) ?_
        refine q_mv rfl ?_
        first | refine q_nilc_r rfl ?_ | refine q_nilc_c rfl ?_
        first | refine q_fld_r rfl ?_ | refine q_fld_c rfl rfl ?_
        first | refine q_load_c rfl rfl rfl ?_ | refine q_load_r rfl rfl rfl rfl rfl rfl rfl ?_ | refine q_load_o rfl rfl rfl rfl rfl ?_
        refine q_mv rfl ?_
        refine q_mul rfl rfl (inR64 (by omega)) ?_
        refine q_add rfl rfl (inR64 (by omega)) ?_
        refine q_mv rfl ?_
        first | refine q_nilc_r rfl ?_ | refine q_nilc_c rfl ?_
        first | refine q_fld_r rfl ?_ | refine q_fld_c rfl rfl ?_
        first | refine q_load_c rfl rfl rfl ?_ | refine q_load_r rfl rfl rfl rfl rfl rfl rfl ?_ | refine q_load_o rfl rfl rfl rfl rfl ?_
        first | refine q_len_m rfl ?_ | refine q_len_s rfl ?_ | refine q_len_o rfl ?_ | refine q_len_n rfl ?_ | refine q_len_x rfl ?_
        refine q_rem rfl rfl ⟨by omega, by omega⟩ ?_
        first | refine q_idx_c _ rfl rfl (by omega) (fun _ => rfl) ?_ | refine q_idx_m rfl rfl (by omega) (by omega) (fun _ => rfl) ?_ | refine q_idx_om rfl rfl (by omega) (by omega) rfl rfl ?_
        first | refine q_load_c rfl rfl rfl ?_ | refine q_load_r rfl rfl rfl rfl rfl rfl rfl ?_ | refine q_load_o rfl rfl rfl rfl rfl ?_
        refine q_conv rfl (inR64 (by omega)) ?_
        refine q_mul rfl rfl (inR64 (by omega)) ?_
        refine q_add rfl rfl (inR64 (by omega)) ?_
        refine q_mv rfl ?_
        refine q_mul rfl rfl (inR64 (by omega)) ?_
        refine q_add rfl rfl (inR64 (by omega)) ?_
        refine q_mv rfl ?_
        refine q_mv rfl ?_
        first | refine q_nilc_r rfl ?_ | refine q_nilc_c rfl ?_
        first | refine q_fld_r rfl ?_ | refine q_fld_c rfl rfl ?_
        first | refine q_load_c rfl rfl rfl ?_ | refine q_load_r rfl rfl rfl rfl rfl rfl rfl ?_ | refine q_load_o rfl rfl rfl rfl rfl ?_
        first | refine q_len_m rfl ?_ | refine q_len_s rfl ?_ | refine q_len_o rfl ?_ | refine q_len_n rfl ?_ | refine q_len_x rfl ?_
        refine q_quo rfl rfl ⟨by omega, by omega, inR64 (by omega)⟩ ?_
        refine q_mul rfl rfl (inR64 (by omega)) ?_
        refine q_add rfl rfl (inR64 (by omega)) ?_
        refine q_mv rfl ?_
        refine rg_nil ?_
        refine VS_seq ?_
        refine VS_r0 rfl ?_
        refine q_mv rfl ?_
        refine q_mv rfl ?_
        refine q_quo rfl rfl ⟨by omega, by omega, inR64 (by omega)⟩ ?_
        refine q_xor rfl rfl ⟨by omega, by omega, (inR64 (by omega)).2, (inR64 (by omega)).2⟩ ?_
        refine q_mv rfl ?_
        refine rg_nil ?_
        refine VS_seq ?_
        refine VS_r0 rfl ?_
        refine q_mv rfl ?_
        refine q_mv rfl ?_
        refine q_rem rfl rfl ⟨by omega, by omega⟩ ?_
        refine q_mv rfl ?_
        refine rg_nil ?_
        refine VS_ret ?_
        exact Bd.now ⟨_, rfl, _, _, _, rfl, ⟨_, rfl, ⟨Int.emod_nonneg _ (by omega), .inl (Int.emod_lt_of_pos _ (by omega))⟩, rfl⟩, rfl⟩
  · try simp at g17
    refine q_f rfl ?_
    refine q_f rfl ?_
    refine q_f rfl ?_
    refine q_f rfl ?_
    refine q_f rfl ?_
    refine q_f rfl ?_
    refine q_pick_t rfl rfl ?_
    refine rg_nil ?_
    refine VS_cond rfl (fun _ => ?_) (fun e => by cases e)
    refine VS_seq ?_
    refine VS_r0 rfl ?_
    refine q_mv rfl ?_
    refine rg_nil ?_
    refine VS_ret ?_
    exact Bd.now ⟨_, rfl, _, _, _, rfl, ⟨0, rfl, ⟨Int.le_refl _, .inr rfl⟩, rfl⟩, rfl⟩
theorem sl_spec_reader_one : slimF prog 56 = some (12, (.seq (.reg 0 (.op ⟨some 4, none, .mv (.c (.pv (.int .i64 0)))⟩ .nil)) (.seq (.reg 0 (.op ⟨some 5, none, .mv (.t 1)⟩ (.op ⟨some 6, none, .mv (.t 0)⟩ (.op ⟨some 7, none, .mv (.t 1)⟩ (.op ⟨some 8, none, .len (.t 7)⟩ (.op ⟨some 9, none, .call 55 [.t 6, .t 8]⟩ (.op ⟨some 10, none, .idx 1 (.t 5) (.t 9)⟩ (.op ⟨some 11, none, .load 1 false (.t 10)⟩ (.op ⟨some 4, none, .mv (.t 11)⟩ .nil))))))))) .ret), [.t 4])) := by kernel_rfl
theorem c_spec_reader_one (bs : List Int) (hb : isU8 bs) (hbl : bs.length ≤ 2000) (p : Int) (hp : 0 ≤ p) (xs : List Int) (hx : 0 < xs.length) (hx2 : xs.length ≤ 1000000000) (hp2 : p ≤ 100000000000) : RdS prog 56 102 bs p [ints xs] (fun x q => ∃ v : Int, x = i64 v ∧ v ∈ xs ∧ q = p + 1) := by
  refine callS_of_VS sl_spec_reader_one (by simp) ?_
  refine VS_seq ?_
  refine VS_r0 rfl ?_
  refine q_mv rfl ?_
  refine rg_nil ?_
  refine VS_seq ?_
  refine VS_r0 rfl ?_
  refine q_mv rfl ?_
  refine q_mv rfl ?_
  refine q_mv rfl ?_
  first | refine q_len_m rfl ?_ | refine q_len_s rfl ?_ | refine q_len_o rfl ?_ | refine q_len_n rfl ?_ | refine q_len_x rfl ?_
  refine q_rd rfl (c_spec_reader_pick bs hb hbl _ (by omega) xs.length (by omega) (by omega)) rfl rfl (fun _ => trivial) ?_
  rintro _ q9 ⟨v, rfl, q_v, rfl⟩
  first | refine q_idx_c _ rfl rfl (by omega) (fun _ => rfl) ?_ | refine q_idx_m rfl rfl (by omega) (by omega) (fun _ => rfl) ?_ | refine q_idx_om rfl rfl (by omega) (by omega) rfl rfl ?_
  first | refine q_load_c rfl rfl rfl ?_ | refine q_load_r rfl rfl rfl rfl rfl rfl rfl ?_ | refine q_load_o rfl rfl rfl rfl rfl ?_
  refine q_mv rfl ?_
  refine rg_nil ?_
  refine VS_ret ?_
  exact Bd.now ⟨_, rfl, _, _, _, rfl, ⟨_, rfl, nth_mem (by omega), rfl⟩, rfl⟩
theorem sl_spec_newReader : slimF prog 41 = some (11, (.seq (.reg 0 (.op ⟨some 2, none, .mv (.c (.pv .nilp))⟩ .nil)) (.seq (.seq (.reg 0 (.op ⟨some 3, none, .mv (.t 0)⟩ (.op ⟨some 4, none, .len (.t 3)⟩ (.op ⟨some 5, none, .bin .gtr (.t 4) (.c (.pv (.int .i64 2000)))⟩ .nil)))) (.cond (.t 5) (.reg 0 (.op ⟨some 6, none, .mv (.t 0)⟩ (.op ⟨some 7, none, .slc 1 (.t 6) none (some (.c (.pv (.int .i64 2000))))⟩ (.op ⟨some 0, none, .mv (.t 7)⟩ .nil)))) .skip)) (.seq (.reg 0 (.op ⟨some 8, none, .mv (.t 0)⟩ (.op ⟨some 9, none, .build [.nils, .pv (.int .i64 0)] [(0, (1, .t 8))]⟩ (.op ⟨some 10, none, .box 102 2 (.t 9)⟩ (.op ⟨some 2, none, .mv (.t 10)⟩ .nil))))) .ret)), [.t 2])) := by kernel_rfl
theorem c_spec_newReader (bs : List Int) (hb : isU8 bs) (hl : bs.length ≤ 1048576) : NewRd prog 41 102 bs := by
  refine callS_of_VS sl_spec_newReader (by simp) ?_
  refine VS_seq ?_
  refine VS_r0 rfl ?_
  refine q_mv rfl ?_
  refine rg_nil ?_
  refine VS_seq ?_
  refine VS_seq ?_
  refine VS_r0 rfl ?_
  refine q_mv rfl ?_
  first | refine q_len_m rfl ?_ | refine q_len_s rfl ?_ | refine q_len_o rfl ?_ | refine q_len_n rfl ?_ | refine q_len_x rfl ?_
  refine q_gtr rfl rfl ?_
  refine rg_nil ?_
  refine VS_cond rfl (fun c0 => ?_) (fun c0 => ?_)
  · try simp at c0
    refine VS_r0 rfl ?_
    refine q_mv rfl ?_
    refine q_slc_m (xs := bs) (f := fun k => PV.int .u8 k) 0 2000 rfl rfl rfl ⟨rfl, rfl, by omega, by omega⟩ (fun _ => rfl) ?_
    refine q_mv rfl ?_
    refine rg_nil ?_
    refine VS_seq ?_
    refine VS_r0 rfl ?_
    refine q_mv rfl ?_
    refine q_build rfl ?_
    refine q_box rfl rfl rfl trivial ?_
    refine q_mv rfl ?_
    refine rg_nil ?_
    refine VS_ret ?_
    first | exact Bd.now ⟨.ptr 0 0 0, rfl, bs.take 2000, ⟨hb.take _, by simp; omega⟩, rfl, rfl⟩ | exact Bd.now ⟨.ptr 0 0 0, rfl, bs, ⟨hb, by omega⟩, rfl, rfl⟩
  · try simp at c0
    refine VS_skip ?_
    refine VS_seq ?_
    refine VS_r0 rfl ?_
    refine q_mv rfl ?_
    refine q_build rfl ?_
    refine q_box rfl rfl rfl trivial ?_
    refine q_mv rfl ?_
    refine rg_nil ?_
    refine VS_ret ?_
    first | exact Bd.now ⟨.ptr 0 0 0, rfl, bs.take 2000, ⟨hb.take _, by simp; omega⟩, rfl, rfl⟩ | exact Bd.now ⟨.ptr 0 0 0, rfl, bs, ⟨hb, by omega⟩, rfl, rfl⟩
end Go.V

set_option maxHeartbeats 4000000
namespace Go.V
open Go.Proofs.Try (prog)
set_option maxRecDepth 100000
end Go.V

set_option maxHeartbeats 4000000
namespace Go.V
open Go.Proofs.Try (prog)
set_option maxRecDepth 100000
theorem sl_laws_equalInts : slimF prog 62 = some (26, (.seq (.reg 0 (.op ⟨some 4, none, .mv (.c (.pv (.bool false)))⟩ .nil)) (.seq (.seq (.reg 0 (.op ⟨some 6, none, .mv (.t 0)⟩ (.op ⟨some 7, none, .len (.t 6)⟩ (.op ⟨some 8, none, .mv (.t 1)⟩ (.op ⟨some 9, none, .len (.t 8)⟩ (.op ⟨some 10, none, .bin .neq (.t 7) (.t 9)⟩ .nil)))))) (.cond (.t 10) (.seq (.reg 0 (.op ⟨some 4, none, .mv (.c (.pv (.bool false)))⟩ .nil)) .ret) .skip)) (.seq (.seq (.reg 0 (.op ⟨some 5, none, .mv (.c (.pv (.int .i64 0)))⟩ .nil)) (.block 0 (.loop (.seq (.seq (.reg 0 (.op ⟨some 11, none, .mv (.t 5)⟩ (.op ⟨some 12, none, .mv (.t 0)⟩ (.op ⟨some 13, none, .len (.t 12)⟩ (.op ⟨some 14, none, .bin .lss (.t 11) (.t 13)⟩ .nil))))) (.cond (.t 14) .skip (.exit 0))) (.seq (.block 1 (.seq (.reg 1 (.op ⟨some 17, none, .mv (.t 0)⟩ (.op ⟨some 18, none, .mv (.t 5)⟩ (.op ⟨some 19, none, .idx 1 (.t 17) (.t 18)⟩ (.op ⟨some 20, none, .load 1 false (.t 19)⟩ (.op ⟨some 21, none, .mv (.t 1)⟩ (.op ⟨some 22, none, .mv (.t 5)⟩ (.op ⟨some 23, none, .idx 1 (.t 21) (.t 22)⟩ (.op ⟨some 24, none, .load 1 false (.t 23)⟩ (.op ⟨some 25, none, .bin .neq (.t 20) (.t 24)⟩ .nil)))))))))) (.cond (.t 25) (.seq (.reg 0 (.op ⟨some 4, none, .mv (.c (.pv (.bool false)))⟩ .nil)) .ret) .skip))) (.reg 0 (.op ⟨some 15, none, .mv (.t 5)⟩ (.op ⟨some 16, none, .bin .add (.t 15) (.c (.pv (.int .i64 1)))⟩ (.op ⟨some 5, none, .mv (.t 16)⟩ .nil))))))))) (.seq (.reg 0 (.op ⟨some 4, none, .mv (.c (.pv (.bool true)))⟩ .nil)) .ret))), [.t 4])) := by kernel_rfl
theorem c_laws_equalInts (xs ys : List Int) (hx : xs.length ≤ 1000000000) (hy : ys.length ≤ 1000000000) : PCon prog 62 [ints xs, ints ys] (fun p => p = .bool (decide (xs = ys))) := by
  refine con_of_VS sl_laws_equalInts (by simp) ?_
  refine VS_seq ?_
  refine VS_r0 rfl ?_
  refine q_mv rfl ?_
  refine rg_nil ?_
  refine VS_seq ?_
  refine VS_seq ?_
  refine VS_r0 rfl ?_
  refine q_mv rfl ?_
  first | refine q_len_m rfl ?_ | refine q_len_s rfl ?_ | refine q_len_o rfl ?_ | refine q_len_n rfl ?_ | refine q_len_x rfl ?_
  refine q_mv rfl ?_
  first | refine q_len_m rfl ?_ | refine q_len_s rfl ?_ | refine q_len_o rfl ?_ | refine q_len_n rfl ?_ | refine q_len_x rfl ?_
  refine q_neq rfl rfl ?_
  refine rg_nil ?_
  refine VS_cond rfl (fun c0 => ?_) (fun c0 => ?_)
  · try simp at c0
    refine VS_seq ?_
    refine VS_r0 rfl ?_
    refine q_mv rfl ?_
    refine rg_nil ?_
    refine VS_ret ?_
    refine Bd.now ⟨_, rfl, congrArg PV.bool (decide_eq_false fun e => ?_).symm⟩
    subst e; omega
  · try simp at c0
    refine VS_skip ?_
    refine VS_seq ?_
    refine VS_seq ?_
    refine VS_r0 rfl ?_
    refine q_mv rfl ?_
    refine rg_nil ?_
    refine VS_block ?_
    refine VS_bd (Bd.keepL [(0, .pv (ints xs)), (1, .pv (ints ys)), (4, .pv (.bool false)), (5, .pv (i64 0))] ⟨rfl, rfl, rfl, rfl, trivial⟩ ?_)
    refine VS_loop (fun mz E S => ∃ i : Nat, mz = xs.length - i ∧ (i ≤ xs.length) ∧ (∀ j, j < i → nth xs j = nth ys j) ∧ E = env [(0, .pv (ints xs)), (1, .pv (ints ys)), (4, .pv (.bool false)), (5, .pv (i64 i))] ∧ S = []) ⟨_, 0, rfl, (by first | omega | (intros; omega) | simp), (by first | omega | (intros; omega) | simp), rfl, rfl⟩ ?_
    rintro mz _ _ ⟨i, hmeas, g0, g1, rfl, rfl⟩
    refine VS_seq ?_
    refine VS_seq ?_
    refine VS_r0 rfl ?_
    refine q_mv rfl ?_
    refine q_mv rfl ?_
    first | refine q_len_m rfl ?_ | refine q_len_s rfl ?_ | refine q_len_o rfl ?_ | refine q_len_n rfl ?_ | refine q_len_x rfl ?_
    refine q_lss rfl rfl ?_
    refine rg_nil ?_
    refine VS_cond rfl (fun c1 => ?_) (fun c1 => ?_)
    · try simp at c1
      refine VS_skip ?_
      refine VS_seq ?_
      refine VS_block ?_
      refine VS_seq ?_
      refine VS_r1 hmix rfl ?_
      refine q_mv rfl ?_
      refine q_mv rfl ?_
      first | refine q_idx_c _ rfl rfl (by omega) (fun _ => rfl) ?_ | refine q_idx_m rfl rfl (by omega) (by omega) (fun _ => rfl) ?_ | refine q_idx_om rfl rfl (by omega) (by omega) rfl rfl ?_
      first | refine q_load_c rfl rfl rfl ?_ | refine q_load_r rfl rfl rfl rfl rfl rfl rfl ?_ | refine q_load_o rfl rfl rfl rfl rfl ?_
      refine q_mv rfl ?_
      refine q_mv rfl ?_
      first | refine q_idx_c _ rfl rfl (by omega) (fun _ => rfl) ?_ | refine q_idx_m rfl rfl (by omega) (by omega) (fun _ => rfl) ?_ | refine q_idx_om rfl rfl (by omega) (by omega) rfl rfl ?_
      first | refine q_load_c rfl rfl rfl ?_ | refine q_load_r rfl rfl rfl rfl rfl rfl rfl ?_ | refine q_load_o rfl rfl rfl rfl rfl ?_
      refine q_neq rfl rfl ?_
      refine rg_nil ?_
      refine VS_cond rfl (fun c2 => ?_) (fun c2 => ?_)
      · try simp at c2
        refine VS_seq ?_
        refine VS_r0 rfl ?_
        refine q_mv rfl ?_
        refine rg_nil ?_
        refine VS_ret ?_
        refine Bd.now ⟨_, rfl, congrArg PV.bool (decide_eq_false fun e => ?_).symm⟩
        subst e; exact c2 rfl
      · try simp at c2
        refine VS_skip ?_
        refine VS_r0 rfl ?_
        refine q_mv rfl ?_
        refine q_add rfl rfl (inR64 (by omega)) ?_
        refine q_mv rfl ?_
        refine rg_nil ?_
        refine Bd.keepL [(0, .pv (ints xs)), (1, .pv (ints ys)), (4, .pv (.bool false)), (5, .pv (i64 (i + 1)))] ⟨rfl, rfl, rfl, rfl, trivial⟩ ⟨_, ?_, i + 1, rfl, ?_, ?_, rfl, rfl⟩
        · first | omega | assumption | rfl | (simp; omega)
        · first | omega | assumption | rfl | (simp; omega)
        · intro j hj
          by_cases e : j = i
          · subst e; simpa using c2
          · exact g1 j (by omega)
    · try simp at c1
      refine VS_exit ?_
      refine VS_seq ?_
      refine VS_r0 rfl ?_
      refine q_mv rfl ?_
      refine rg_nil ?_
      refine VS_ret ?_
      exact Bd.now ⟨_, rfl, congrArg PV.bool (decide_eq_true (list_ext_nth (by omega) fun j hj => g1 j (by omega))).symm⟩
end Go.V
