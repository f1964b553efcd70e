/- A part of the proofs about laws of the page tree (see the text that bears the law): a small language of steps, its rules, and what the functions of the program return. -/
import Derived.Test.YtgblkaealpggdaaLD
import Derived.Test.YtgblkaealpggdaaSLa
set_option linter.all false
set_option linter.unusedVariables false
set_option linter.unusedSimpArgs false
set_option maxHeartbeats 4000000
namespace Go.V
open Go.Proofs.Try (prog)
set_option maxRecDepth 100000
theorem sl_spec_inRange : slimF prog 50 = some (15, (.seq (.reg 0 (.o 6 (.mv (.c (.pv (.bool false)))) .nil)) (.seq (.reg 0 (.o 7 (.mv (.t 1)) (.o 8 (.mv (.t 0)) (.o 9 (.bin .leq (.t 7) (.t 8)) (.o 10 (.mv (.t 9)) (.g 11 10 true (.mv (.t 0)) (.g 12 10 true (.mv (.t 2)) (.g 13 10 true (.bin .leq (.t 11) (.t 12)) (.o 14 (.pick (.t 10) (.t 13) (.c (.pv (.bool false)))) (.o 6 (.mv (.t 14)) .nil)))))))))) .ret), [.t 6])) := by kernel_rfl
theorem c_spec_inRange (k a b : Int) : PCon prog 50 [i64 k, i64 a, i64 b] (fun p => p = .bool (decide (a ≤ k) && decide (k ≤ b))) := by
 refine con_of_VS sl_spec_inRange (by simp) (VS_seq (VS_r0 rfl (q_mv rfl (rg_nil (VS_seq (VS_r0 rfl (q_mv rfl (q_mv rfl (q_leq rfl rfl (q_mv rfl ?_))))))))))
 refine q_b rfl (fun g10 => ?_) (fun g10 => ?_)
 ·try simp at g10
  refine q_t rfl (q_mv rfl (q_t rfl (q_mv rfl (q_t rfl (q_leq rfl rfl (q_pick_t rfl rfl (q_mv rfl (rg_nil (VS_ret ?_)))))))))
  exact Bd.now ⟨_, rfl, (by (simp [*]; done))⟩
 ·try simp at g10
  refine q_f rfl (q_f rfl (q_f rfl (q_pick_f rfl rfl (q_mv rfl (rg_nil (VS_ret ?_))))))
  exact Bd.now ⟨_, rfl, (by (simp; omega))⟩
theorem sl_impl_isKey : slimF prog 43 = some (9, (.seq (.reg 0 (.o 2 (.mv (.c (.pv (.bool false)))) .nil)) (.seq (.reg 0 (.o 3 (.mv (.t 0)) (.o 4 (.bin .geq (.t 3) (.c (.pv (.int .i64 0)))) (.o 5 (.mv (.t 4)) (.g 6 5 true (.mv (.t 0)) (.g 7 5 true (.bin .leq (.t 6) (.c (.pv (.int .i64 99)))) (.o 8 (.pick (.t 5) (.t 7) (.c (.pv (.bool false)))) (.o 2 (.mv (.t 8)) .nil)))))))) .ret), [.t 2])) := by kernel_rfl
theorem c_impl_isKey (k : Int) : PCon prog 43 [i64 k] (fun p => p = .bool (decide (0 ≤ k) && decide (k ≤ 99))) := by
 refine con_of_VS sl_impl_isKey (by simp) (VS_seq (VS_r0 rfl (q_mv rfl (rg_nil (VS_seq (VS_r0 rfl (q_mv rfl (q_geq rfl rfl (q_mv rfl ?_)))))))))
 refine q_b rfl (fun g5 => ?_) (fun g5 => ?_)
 ·try simp at g5
  refine q_t rfl (q_mv rfl (q_t rfl (q_leq rfl rfl (q_pick_t rfl rfl (q_mv rfl (rg_nil (VS_ret ?_)))))))
  exact Bd.now ⟨_, rfl, (by (simp [*]; done))⟩
 ·try simp at g5
  refine q_f rfl (q_f rfl (q_pick_f rfl rfl (q_mv rfl (rg_nil (VS_ret ?_)))))
  exact Bd.now ⟨_, rfl, (by (simp; omega))⟩
theorem sl_impl_isValue : slimF prog 44 = some (9, (.seq (.reg 0 (.o 2 (.mv (.c (.pv (.bool false)))) .nil)) (.seq (.reg 0 (.o 3 (.mv (.t 0)) (.o 4 (.bin .geq (.t 3) (.c (.pv (.int .i64 (-1000))))) (.o 5 (.mv (.t 4)) (.g 6 5 true (.mv (.t 0)) (.g 7 5 true (.bin .leq (.t 6) (.c (.pv (.int .i64 1000)))) (.o 8 (.pick (.t 5) (.t 7) (.c (.pv (.bool false)))) (.o 2 (.mv (.t 8)) .nil)))))))) .ret), [.t 2])) := by kernel_rfl
theorem c_impl_isValue (k : Int) : PCon prog 44 [i64 k] (fun p => p = .bool (decide (-1000 ≤ k) && decide (k ≤ 1000))) := by
 refine con_of_VS sl_impl_isValue (by simp) (VS_seq (VS_r0 rfl (q_mv rfl (rg_nil (VS_seq (VS_r0 rfl (q_mv rfl (q_geq rfl rfl (q_mv rfl ?_)))))))))
 refine q_b rfl (fun g5 => ?_) (fun g5 => ?_)
 ·try simp at g5
  refine q_t rfl (q_mv rfl (q_t rfl (q_leq rfl rfl (q_pick_t rfl rfl (q_mv rfl (rg_nil (VS_ret ?_)))))))
  exact Bd.now ⟨_, rfl, (by (simp [*]; done))⟩
 ·try simp at g5
  refine q_f rfl (q_f rfl (q_pick_f rfl rfl (q_mv rfl (rg_nil (VS_ret ?_)))))
  exact Bd.now ⟨_, rfl, (by (simp; omega))⟩
theorem sl_spec_allIn : slimF prog 70 = some (22, (.seq (.reg 0 (.o 6 (.mv (.c (.pv (.bool false)))) .nil)) (.seq (.seq (.reg 0 (.o 7 (.mv (.c (.pv (.int .i64 0)))) .nil)) (.block 0 (.loop (.seq (.seq (.reg 0 (.o 8 (.mv (.t 7)) (.o 9 (.mv (.t 0)) (.o 10 (.len (.t 9)) (.o 11 (.bin .lss (.t 8) (.t 10)) .nil))))) (.cond (.t 11) .skip (.exit 0))) (.seq (.block 1 (.seq (.reg 0 (.o 14 (.mv (.t 0)) (.o 15 (.mv (.t 7)) (.o 16 (.idx 1 (.t 14) (.t 15)) (.o 17 (.load 1 false (.t 16)) (.o 18 (.mv (.t 1)) (.o 19 (.mv (.t 2)) (.o 20 (.call 50 [.t 17, .t 18, .t 19]) (.o 21 (.not (.t 20)) .nil))))))))) (.cond (.t 21) (.seq (.reg 0 (.o 6 (.mv (.c (.pv (.bool false)))) .nil)) .ret) .skip))) (.reg 0 (.o 12 (.mv (.t 7)) (.o 13 (.bin .add (.t 12) (.c (.pv (.int .i64 1)))) (.o 7 (.mv (.t 13)) .nil))))))))) (.seq (.reg 0 (.o 6 (.mv (.c (.pv (.bool true)))) .nil)) .ret)), [.t 6])) := by kernel_rfl
theorem c_spec_allIn (xs : List Int) (a b : Int) (hl : xs.length ≤ 1000000000) : PCon prog 70 [ints xs, i64 a, i64 b] (fun p => p = .bool (xs.all fun k => decide (a ≤ k) && decide (k ≤ b))) := by
 refine con_of_VS sl_spec_allIn (by simp) (VS_seq (VS_r0 rfl (q_mv rfl (rg_nil (VS_seq (VS_seq (VS_r0 rfl (q_mv rfl (rg_nil (VS_block ?_))))))))))
 refine VS_bd (Bd.keepL [(0, .pv (ints xs)), (1, .pv (i64 a)), (2, .pv (i64 b)), (6, .pv (.bool false)), (7, .pv (i64 0))] ⟨rfl, rfl, rfl, rfl, rfl, trivial⟩ ?_)
 refine VS_loop (fun mz E S => ∃ i : Nat, mz = xs.length - i ∧ (i ≤ xs.length) ∧ (∀ j, j < i → (decide (a ≤ nth xs j) && decide (nth xs j ≤ b)) = true) ∧ E = env [(0, .pv (ints xs)), (1, .pv (i64 a)), (2, .pv (i64 b)), (6, .pv (.bool false)), (7, .pv (i64 i))] ∧ S = []) ⟨_, 0, rfl, (by omega), (by omega), rfl, rfl⟩ ?_
 rintro mz _ _ ⟨i, hmeas, g1, g2, rfl, rfl⟩
 refine VS_seq (VS_seq (VS_r0 rfl (q_mv rfl (q_mv rfl (q_len_m rfl (q_lss rfl rfl (rg_nil ?_)))))))
 refine VS_cond rfl (fun c0 => ?_) (fun c0 => ?_)
 ·try simp at c0
  refine VS_skip (VS_seq (VS_block (VS_seq (VS_r0 rfl (q_mv rfl (q_mv rfl (q_idx_c _ rfl rfl (by omega) (fun _ => rfl) (q_load_c rfl rfl rfl (q_mv rfl (q_mv rfl (q_callp (c_spec_inRange _ _ _) rfl trivial (q_not rfl (rg_nil ?_)))))))))))))
  refine VS_cond rfl (fun c1 => ?_) (fun c1 => ?_)
  ·try simp at c1
   refine VS_seq (VS_r0 rfl (q_mv rfl (rg_nil (VS_ret ?_))))
   exact Bd.now ⟨_, rfl, congrArg PV.bool (all_false i c0 (by simp; omega)).symm⟩
  ·try simp at c1
   refine VS_skip (VS_r0 rfl (q_mv rfl (q_add rfl rfl (inR64 (by omega)) (q_mv rfl (rg_nil ?_)))))
   refine Bd.keepL [(0, .pv (ints xs)), (1, .pv (i64 a)), (2, .pv (i64 b)), (6, .pv (.bool false)), (7, .pv (i64 (i + 1)))] ⟨rfl, rfl, rfl, rfl, rfl, trivial⟩ ⟨_, ?_, i + 1, rfl, ?_, ?_, rfl, rfl⟩
   ·omega
   ·omega
   ·intro j hj
    by_cases e : j = i
    ·subst e; simp_all
    ·exact g2 j (by omega)
 ·try simp at c0
  refine VS_exit (VS_seq (VS_r0 rfl (q_mv rfl (rg_nil (VS_ret ?_)))))
  exact Bd.now ⟨_, rfl, congrArg PV.bool (all_true fun j hj => g2 j (by omega)).symm⟩
theorem sl_spec_isIn : slimF prog 87 = some (18, (.seq (.reg 0 (.o 4 (.mv (.c (.pv (.bool false)))) .nil)) (.seq (.seq (.reg 0 (.o 5 (.mv (.c (.pv (.int .i64 0)))) .nil)) (.block 0 (.loop (.seq (.seq (.reg 0 (.o 6 (.mv (.t 5)) (.o 7 (.mv (.t 0)) (.o 8 (.len (.t 7)) (.o 9 (.bin .lss (.t 6) (.t 8)) .nil))))) (.cond (.t 9) .skip (.exit 0))) (.seq (.block 1 (.seq (.reg 0 (.o 12 (.mv (.t 0)) (.o 13 (.mv (.t 5)) (.o 14 (.idx 1 (.t 12) (.t 13)) (.o 15 (.load 1 false (.t 14)) (.o 16 (.mv (.t 1)) (.o 17 (.bin .eql (.t 15) (.t 16)) .nil))))))) (.cond (.t 17) (.seq (.reg 0 (.o 4 (.mv (.c (.pv (.bool true)))) .nil)) .ret) .skip))) (.reg 0 (.o 10 (.mv (.t 5)) (.o 11 (.bin .add (.t 10) (.c (.pv (.int .i64 1)))) (.o 5 (.mv (.t 11)) .nil))))))))) (.seq (.reg 0 (.o 4 (.mv (.c (.pv (.bool false)))) .nil)) .ret)), [.t 4])) := by kernel_rfl
theorem c_spec_isIn (xs : List Int) (k : Int) (hl : xs.length ≤ 1000000000) : PCon prog 87 [ints xs, i64 k] (fun p => p = .bool (xs.contains k)) := by
 refine con_of_VS sl_spec_isIn (by simp) (VS_seq (VS_r0 rfl (q_mv rfl (rg_nil (VS_seq (VS_seq (VS_r0 rfl (q_mv rfl (rg_nil (VS_block ?_))))))))))
 refine VS_bd (Bd.keepL [(0, .pv (ints xs)), (1, .pv (i64 k)), (4, .pv (.bool false)), (5, .pv (i64 0))] ⟨rfl, rfl, rfl, rfl, trivial⟩ ?_)
 refine VS_loop (fun mz E S => ∃ i : Nat, mz = xs.length - i ∧ (i ≤ xs.length) ∧ (∀ j, j < i → nth xs j ≠ k) ∧ E = env [(0, .pv (ints xs)), (1, .pv (i64 k)), (4, .pv (.bool false)), (5, .pv (i64 i))] ∧ S = []) ⟨_, 0, rfl, (by omega), (by omega), rfl, rfl⟩ ?_
 rintro mz _ _ ⟨i, hmeas, g1, g2, rfl, rfl⟩
 refine VS_seq (VS_seq (VS_r0 rfl (q_mv rfl (q_mv rfl (q_len_m rfl (q_lss rfl rfl (rg_nil ?_)))))))
 refine VS_cond rfl (fun c0 => ?_) (fun c0 => ?_)
 ·try simp at c0
  refine VS_skip (VS_seq (VS_block (VS_seq (VS_r0 rfl (q_mv rfl (q_mv rfl (q_idx_c _ rfl rfl (by omega) (fun _ => rfl) (q_load_c rfl rfl rfl (q_mv rfl (q_eql rfl rfl (rg_nil ?_)))))))))))
  refine VS_cond rfl (fun c1 => ?_) (fun c1 => ?_)
  ·try simp at c1
   refine VS_seq (VS_r0 rfl (q_mv rfl (rg_nil (VS_ret ?_))))
   exact Bd.now ⟨_, rfl, congrArg PV.bool (has_true i c0 c1).symm⟩
  ·try simp at c1
   refine VS_skip (VS_r0 rfl (q_mv rfl (q_add rfl rfl (inR64 (by omega)) (q_mv rfl (rg_nil ?_)))))
   refine Bd.keepL [(0, .pv (ints xs)), (1, .pv (i64 k)), (4, .pv (.bool false)), (5, .pv (i64 (i + 1)))] ⟨rfl, rfl, rfl, rfl, trivial⟩ ⟨_, ?_, i + 1, rfl, ?_, ?_, rfl, rfl⟩
   ·omega
   ·omega
   ·intro j hj
    by_cases e : j = i
    ·subst e; simp_all
    ·exact g2 j (by omega)
 ·try simp at c0
  refine VS_exit (VS_seq (VS_r0 rfl (q_mv rfl (rg_nil (VS_ret ?_)))))
  exact Bd.now ⟨_, rfl, congrArg PV.bool (has_false fun j hj => g2 j (by omega)).symm⟩
theorem sl_spec_validKeys : slimF prog 69 = some (22, (.seq (.reg 0 (.o 2 (.mv (.c (.pv (.bool false)))) .nil)) (.seq (.seq (.reg 0 (.o 3 (.mv (.c (.pv (.int .i64 1)))) .nil)) (.block 0 (.loop (.seq (.seq (.reg 0 (.o 4 (.mv (.t 3)) (.o 5 (.mv (.t 0)) (.o 6 (.len (.t 5)) (.o 7 (.bin .lss (.t 4) (.t 6)) .nil))))) (.cond (.t 7) .skip (.exit 0))) (.seq (.block 1 (.seq (.reg 1 (.o 10 (.mv (.t 0)) (.o 11 (.mv (.t 3)) (.o 12 (.idx 1 (.t 10) (.t 11)) (.o 13 (.load 1 false (.t 12)) (.o 14 (.mv (.t 0)) (.o 15 (.mv (.t 3)) (.o 16 (.bin .sub (.t 15) (.c (.pv (.int .i64 1)))) (.o 17 (.idx 1 (.t 14) (.t 16)) (.o 18 (.load 1 false (.t 17)) (.o 19 (.bin .leq (.t 13) (.t 18)) .nil))))))))))) (.cond (.t 19) (.seq (.reg 0 (.o 2 (.mv (.c (.pv (.bool false)))) .nil)) .ret) .skip))) (.reg 0 (.o 8 (.mv (.t 3)) (.o 9 (.bin .add (.t 8) (.c (.pv (.int .i64 1)))) (.o 3 (.mv (.t 9)) .nil))))))))) (.seq (.reg 0 (.o 20 (.mv (.t 0)) (.o 21 (.call 70 [.t 20, .c (.pv (.int .i64 0)), .c (.pv (.int .i64 99))]) (.o 2 (.mv (.t 21)) .nil)))) .ret)), [.t 2])) := by kernel_rfl
theorem c_spec_validKeys (xs : List Int) (hl : xs.length ≤ 1000000000) : PCon prog 69 [ints xs] (fun p => p = .bool (goodKeys xs)) := by
 refine con_of_VS sl_spec_validKeys (by simp) (VS_seq (VS_r0 rfl (q_mv rfl (rg_nil (VS_seq (VS_seq (VS_r0 rfl (q_mv rfl (rg_nil (VS_block ?_))))))))))
 refine VS_bd (Bd.keepL [(0, .pv (ints xs)), (2, .pv (.bool false)), (3, .pv (i64 1))] ⟨rfl, rfl, rfl, trivial⟩ ?_)
 refine VS_loop (fun mz E S => ∃ i : Nat, mz = xs.length - i ∧ (1 ≤ i) ∧ (∀ j, j + 1 < i → nth xs j < nth xs (j + 1)) ∧ E = env [(0, .pv (ints xs)), (2, .pv (.bool false)), (3, .pv (i64 i))] ∧ S = []) ⟨_, 1, rfl, (by omega), (by omega), rfl, rfl⟩ ?_
 rintro mz _ _ ⟨i, hmeas, g1, g2, rfl, rfl⟩
 refine VS_seq (VS_seq (VS_r0 rfl (q_mv rfl (q_mv rfl (q_len_m rfl (q_lss rfl rfl (rg_nil ?_)))))))
 refine VS_cond rfl (fun c0 => ?_) (fun c0 => ?_)
 ·try simp at c0
  refine VS_skip (VS_seq (VS_block (VS_seq (VS_r1 hmix rfl (q_mv rfl (q_mv rfl (q_idx_c _ rfl rfl (by omega) (fun _ => rfl) (q_load_c rfl rfl rfl (q_mv rfl (q_mv rfl (q_sub rfl rfl (inR64 (by omega)) (q_idx_m rfl rfl (by omega) (by omega) (fun _ => rfl) (q_load_c rfl rfl rfl (q_leq rfl rfl (rg_nil ?_)))))))))))))))
  refine VS_cond rfl (fun c1 => ?_) (fun c1 => ?_)
  ·try simp at c1
   refine VS_seq (VS_r0 rfl (q_mv rfl (rg_nil (VS_ret ?_))))
   exact Bd.now ⟨_, rfl, congrArg PV.bool (good_false i g1 c0 (by simpa using c1)).symm⟩
  ·try simp at c1
   refine VS_skip (VS_r0 rfl (q_mv rfl (q_add rfl rfl (inR64 (by omega)) (q_mv rfl (rg_nil ?_)))))
   refine Bd.keepL [(0, .pv (ints xs)), (2, .pv (.bool false)), (3, .pv (i64 (i + 1)))] ⟨rfl, rfl, rfl, trivial⟩ ⟨_, ?_, i + 1, rfl, ?_, ?_, rfl, rfl⟩
   ·omega
   ·omega
   ·intro j hj
    by_cases e : j + 1 = i
    ·have e2 : i - 1 = j := by omega
     have e3 : ((i : Int) - 1).toNat = j := by omega
     simp only [e2, e3] at c1
     rw [e]
     omega
    ·exact g2 j (by omega)
 ·try simp at c0
  refine VS_exit (VS_seq (VS_r0 rfl (q_mv rfl (q_callp (c_spec_allIn _ _ _ hl) rfl trivial (q_mv rfl (rg_nil (VS_ret ?_)))))))
  exact Bd.now ⟨_, rfl, congrArg PV.bool (good_all fun j hj => g2 j (by omega)).symm⟩
theorem sl_impl_ValidKeys : slimF prog 65 = some (27, (.seq (.reg 0 (.o 2 (.mv (.c (.pv (.bool false)))) .nil)) (.seq (.seq (.reg 0 (.o 5 (.mv (.t 0)) (.o 6 (.len (.t 5)) (.o 7 (.mv (.c (.pv (.int .i64 0)))) .nil)))) (.block 0 (.loop (.seq (.reg 0 (.o 8 (.bin .lss (.t 7) (.t 6)) .nil)) (.seq (.cond (.t 8) .skip (.exit 0)) (.seq (.block 1 (.seq (.reg 0 (.o 9 (.mv (.t 7)) (.o 10 (.idx 1 (.t 5) (.t 7)) (.o 11 (.load 1 false (.t 10)) (.o 3 (.mv (.t 9)) (.o 4 (.mv (.t 11)) .nil)))))) (.seq (.seq (.reg 0 (.o 12 (.mv (.t 4)) (.o 13 (.call 43 [.t 12]) (.o 14 (.not (.t 13)) .nil)))) (.cond (.t 14) (.seq (.reg 0 (.o 2 (.mv (.c (.pv (.bool false)))) .nil)) .ret) .skip)) (.seq (.reg 0 (.o 15 (.mv (.t 3)) (.o 16 (.bin .gtr (.t 15) (.c (.pv (.int .i64 0)))) (.o 17 (.mv (.t 16)) (.g 18 17 true (.mv (.t 0)) (.g 19 17 true (.mv (.t 3)) (.g 20 17 true (.bin .sub (.t 19) (.c (.pv (.int .i64 1)))) (.g 21 17 true (.idx 1 (.t 18) (.t 20)) (.g 22 17 true (.load 1 false (.t 21)) (.g 23 17 true (.mv (.t 4)) (.g 24 17 true (.bin .geq (.t 22) (.t 23)) (.o 25 (.pick (.t 17) (.t 24) (.c (.pv (.bool false)))) .nil)))))))))))) (.cond (.t 25) (.seq (.reg 0 (.o 2 (.mv (.c (.pv (.bool false)))) .nil)) .ret) .skip))))) (.reg 0 (.o 26 (.bin .add (.t 7) (.c (.pv (.int .i64 1)))) (.o 7 (.mv (.t 26)) .nil))))))))) (.seq (.reg 0 (.o 2 (.mv (.c (.pv (.bool true)))) .nil)) .ret)), [.t 2])) := by kernel_rfl
theorem c_impl_ValidKeys (xs : List Int) (hl : xs.length ≤ 1000000000) : PCon prog 65 [ints xs] (fun p => p = .bool (goodKeys xs)) := by
 refine con_of_VS sl_impl_ValidKeys (by simp) (VS_seq (VS_r0 rfl (q_mv rfl (rg_nil (VS_seq (VS_seq (VS_r0 rfl (q_mv rfl (q_len_m rfl (q_mv rfl (rg_nil (VS_block ?_))))))))))))
 refine VS_bd (Bd.keepL [(0, .pv (ints xs)), (2, .pv (.bool false)), (5, .pv (ints xs)), (6, .pv (i64 xs.length)), (7, .pv (i64 0))] ⟨rfl, rfl, rfl, rfl, rfl, trivial⟩ ?_)
 refine VS_loop (fun mz E S => ∃ i : Nat, mz = xs.length - i ∧ (i ≤ xs.length) ∧ (∀ j, j < i → 0 ≤ nth xs j ∧ nth xs j ≤ 99) ∧ (∀ j, j + 1 < i → nth xs j < nth xs (j + 1)) ∧ E = env [(0, .pv (ints xs)), (2, .pv (.bool false)), (5, .pv (ints xs)), (6, .pv (i64 xs.length)), (7, .pv (i64 i))] ∧ S = []) ⟨_, 0, rfl, (by omega), (by omega), (by omega), rfl, rfl⟩ ?_
 rintro mz _ _ ⟨i, hmeas, g0, g1, g2, rfl, rfl⟩
 refine VS_seq (VS_r0 rfl (q_lss rfl rfl (rg_nil (VS_seq ?_))))
 refine VS_cond rfl (fun c0 => ?_) (fun c0 => ?_)
 ·try simp at c0
  refine VS_skip (VS_seq (VS_block (VS_seq (VS_r0 rfl (q_mv rfl (q_idx_c _ rfl rfl (by omega) (fun _ => rfl) (q_load_c rfl rfl rfl (q_mv rfl (q_mv rfl (rg_nil (VS_seq (VS_seq (VS_r0 rfl (q_mv rfl (q_callp (c_impl_isKey _) rfl trivial ?_)))))))))))))))
  refine q_not rfl (rg_nil ?_)
  refine VS_cond rfl (fun c1 => ?_) (fun c1 => ?_)
  ·try simp at c1
   refine VS_seq (VS_r0 rfl (q_mv rfl (rg_nil (VS_ret ?_))))
   exact Bd.now ⟨_, rfl, congrArg PV.bool (good_false2 i c0 (by simp; omega)).symm⟩
  ·try simp at c1
   refine VS_skip (VS_seq (VS_r0 rfl (q_mv rfl (q_gtr rfl rfl (q_mv rfl ?_)))))
   refine q_b rfl (fun g17 => ?_) (fun g17 => ?_)
   ·try simp at g17
    refine q_t rfl (q_mv rfl (q_t rfl (q_mv rfl (q_t rfl (q_sub rfl rfl (inR64 (by omega)) (q_t rfl (q_idx_m rfl rfl (by omega) (by omega) (fun _ => rfl) (q_t rfl (q_load_c rfl rfl rfl (q_t rfl (q_mv rfl (q_t rfl (q_geq rfl rfl (q_pick_t rfl rfl (rg_nil ?_)))))))))))))))
    refine VS_cond rfl (fun c2 => ?_) (fun c2 => ?_)
    ·try simp at c2
     refine VS_seq (VS_r0 rfl (q_mv rfl (rg_nil (VS_ret ?_))))
     exact Bd.now ⟨_, rfl, congrArg PV.bool (good_false i (by omega) c0 (by simpa using c2)).symm⟩
    ·try simp at c2
     refine VS_skip (VS_r0 rfl (q_add rfl rfl (inR64 (by omega)) (q_mv rfl (rg_nil ?_))))
     refine Bd.keepL [(0, .pv (ints xs)), (2, .pv (.bool false)), (5, .pv (ints xs)), (6, .pv (i64 xs.length)), (7, .pv (i64 (i + 1)))] ⟨rfl, rfl, rfl, rfl, rfl, trivial⟩ ⟨_, ?_, i + 1, rfl, ?_, ?_, ?_, rfl, rfl⟩
     ·omega
     ·omega
     ·intro j hj
      by_cases e : j = i
      ·subst e; omega
      ·exact g1 j (by omega)
     ·intro j hj
      by_cases e : j + 1 = i
      ·have e2 : i - 1 = j := by omega
       have e3 : ((i : Int) - 1).toNat = j := by omega
       (simp only [e2, e3] at c2; rw [e]; omega)
      ·exact g2 j (by omega)
   ·try simp at g17
    refine q_f rfl (q_f rfl (q_f rfl (q_f rfl (q_f rfl (q_f rfl (q_f rfl (q_pick_f rfl rfl (rg_nil ?_))))))))
    refine VS_cond rfl (fun e => by cases e) (fun _ => ?_)
    refine VS_skip (VS_r0 rfl (q_add rfl rfl (inR64 (by omega)) (q_mv rfl (rg_nil ?_))))
    refine Bd.keepL [(0, .pv (ints xs)), (2, .pv (.bool false)), (5, .pv (ints xs)), (6, .pv (i64 xs.length)), (7, .pv (i64 (i + 1)))] ⟨rfl, rfl, rfl, rfl, rfl, trivial⟩ ⟨_, ?_, i + 1, rfl, ?_, ?_, ?_, rfl, rfl⟩
    ·omega
    ·omega
    ·intro j hj
     by_cases e : j = i
     ·subst e; omega
     ·exact g1 j (by omega)
    ·intro j hj
     by_cases e : j + 1 = i
     ·have e2 : i - 1 = j := by omega
      have e3 : ((i : Int) - 1).toNat = j := by omega
      (exfalso; omega)
     ·exact g2 j (by omega)
 ·try simp at c0
  refine VS_exit (VS_seq (VS_r0 rfl (q_mv rfl (rg_nil (VS_ret ?_)))))
  exact Bd.now ⟨_, rfl, congrArg PV.bool (good_true (fun j hj => g1 j (by omega)) (fun j hj => g2 j (by omega))).symm⟩
theorem sl_spec_upTo : slimF prog 113 = some (21, (.seq (.reg 0 (.o 4 (.mv (.c (.pv (.int .i64 0)))) .nil)) (.seq (.reg 0 (.o 5 (.mv (.c (.pv (.int .i64 0)))) .nil)) (.seq (.block 0 (.loop (.seq (.seq (.reg 0 (.o 6 (.mv (.t 5)) (.o 7 (.mv (.t 0)) (.o 8 (.len (.t 7)) (.o 9 (.bin .lss (.t 6) (.t 8)) (.o 10 (.mv (.t 9)) (.g 11 10 true (.mv (.t 0)) (.g 12 10 true (.mv (.t 5)) (.g 13 10 true (.idx 1 (.t 11) (.t 12)) (.g 14 10 true (.load 1 false (.t 13)) (.g 15 10 true (.mv (.t 1)) (.g 16 10 true (.bin .leq (.t 14) (.t 15)) (.o 17 (.pick (.t 10) (.t 16) (.c (.pv (.bool false)))) .nil))))))))))))) (.cond (.t 17) .skip (.exit 0))) (.block 1 (.reg 0 (.o 18 (.mv (.t 5)) (.o 19 (.bin .add (.t 18) (.c (.pv (.int .i64 1)))) (.o 5 (.mv (.t 19)) .nil)))))))) (.seq (.reg 0 (.o 20 (.mv (.t 5)) (.o 4 (.mv (.t 20)) .nil))) .ret))), [.t 4])) := by kernel_rfl
theorem c_spec_upTo (xs : List Int) (k : Int) (hl : xs.length ≤ 1000000000) : PCon prog 113 [ints xs, i64 k] (fun p => p = i64 (upTo xs k)) := by
 refine con_of_VS sl_spec_upTo (by simp) (VS_seq (VS_r0 rfl (q_mv rfl (rg_nil (VS_seq (VS_r0 rfl (q_mv rfl (rg_nil (VS_seq (VS_block ?_))))))))))
 refine VS_bd (Bd.keepL [(0, .pv (ints xs)), (1, .pv (i64 k)), (5, .pv (i64 0))] ⟨rfl, rfl, rfl, trivial⟩ ?_)
 refine VS_loop (fun mz E S => ∃ i : Nat, mz = xs.length - i ∧ (i ≤ xs.length) ∧ (∀ j, j < i → nth xs j ≤ k) ∧ E = env [(0, .pv (ints xs)), (1, .pv (i64 k)), (5, .pv (i64 i))] ∧ S = []) ⟨_, 0, rfl, (by omega), (by omega), rfl, rfl⟩ ?_
 rintro mz _ _ ⟨i, hmeas, g0, g1, rfl, rfl⟩
 refine VS_seq (VS_seq (VS_r0 rfl (q_mv rfl (q_mv rfl (q_len_m rfl (q_lss rfl rfl (q_mv rfl ?_)))))))
 refine q_b rfl (fun g10 => ?_) (fun g10 => ?_)
 ·try simp at g10
  refine q_t rfl (q_mv rfl (q_t rfl (q_mv rfl (q_t rfl (q_idx_c _ rfl rfl (by omega) (fun _ => rfl) (q_t rfl (q_load_c rfl rfl rfl (q_t rfl (q_mv rfl (q_t rfl (q_leq rfl rfl (q_pick_t rfl rfl (rg_nil ?_)))))))))))))
  refine VS_cond rfl (fun c0 => ?_) (fun c0 => ?_)
  ·try simp at c0
   refine VS_skip (VS_block (VS_r0 rfl (q_mv rfl (q_add rfl rfl (inR64 (by omega)) (q_mv rfl (rg_nil ?_))))))
   refine Bd.keepL [(0, .pv (ints xs)), (1, .pv (i64 k)), (5, .pv (i64 (i + 1)))] ⟨rfl, rfl, rfl, trivial⟩ ⟨_, ?_, i + 1, rfl, ?_, ?_, rfl, rfl⟩
   ·omega
   ·omega
   ·intro j hj
    by_cases e : j = i
    ·subst e; first | omega | (simp at c0; omega)
    ·exact g1 j (by omega)
  ·try simp at c0
   refine VS_exit (VS_seq (VS_r0 rfl (q_mv rfl (q_mv rfl (rg_nil (VS_ret ?_))))))
   exact Bd.now ⟨_, rfl, congrArg (fun n : Nat => i64 n) (upTo_eq g0 g1 (fun _ => by first | omega | (simp at c0; omega))).symm⟩
 ·try simp at g10
  refine q_f rfl (q_f rfl (q_f rfl (q_f rfl (q_f rfl (q_f rfl (q_pick_f rfl rfl (rg_nil ?_)))))))
  refine VS_cond rfl (fun e => by cases e) (fun _ => ?_)
  refine VS_exit (VS_seq (VS_r0 rfl (q_mv rfl (q_mv rfl (rg_nil (VS_ret ?_))))))
  exact Bd.now ⟨_, rfl, congrArg (fun n : Nat => i64 n) (upTo_eq g0 g1 (fun _ => by first | omega | (simp at c0; omega))).symm⟩
theorem sl_spec_below : slimF prog 103 = some (21, (.seq (.reg 0 (.o 4 (.mv (.c (.pv (.int .i64 0)))) .nil)) (.seq (.reg 0 (.o 5 (.mv (.c (.pv (.int .i64 0)))) .nil)) (.seq (.block 0 (.loop (.seq (.seq (.reg 0 (.o 6 (.mv (.t 5)) (.o 7 (.mv (.t 0)) (.o 8 (.len (.t 7)) (.o 9 (.bin .lss (.t 6) (.t 8)) (.o 10 (.mv (.t 9)) (.g 11 10 true (.mv (.t 0)) (.g 12 10 true (.mv (.t 5)) (.g 13 10 true (.idx 1 (.t 11) (.t 12)) (.g 14 10 true (.load 1 false (.t 13)) (.g 15 10 true (.mv (.t 1)) (.g 16 10 true (.bin .lss (.t 14) (.t 15)) (.o 17 (.pick (.t 10) (.t 16) (.c (.pv (.bool false)))) .nil))))))))))))) (.cond (.t 17) .skip (.exit 0))) (.block 1 (.reg 0 (.o 18 (.mv (.t 5)) (.o 19 (.bin .add (.t 18) (.c (.pv (.int .i64 1)))) (.o 5 (.mv (.t 19)) .nil)))))))) (.seq (.reg 0 (.o 20 (.mv (.t 5)) (.o 4 (.mv (.t 20)) .nil))) .ret))), [.t 4])) := by kernel_rfl
theorem c_spec_below (xs : List Int) (k : Int) (hl : xs.length ≤ 1000000000) : PCon prog 103 [ints xs, i64 k] (fun p => p = i64 (upTo xs (k - 1))) := by
 refine con_of_VS sl_spec_below (by simp) (VS_seq (VS_r0 rfl (q_mv rfl (rg_nil (VS_seq (VS_r0 rfl (q_mv rfl (rg_nil (VS_seq (VS_block ?_))))))))))
 refine VS_bd (Bd.keepL [(0, .pv (ints xs)), (1, .pv (i64 k)), (5, .pv (i64 0))] ⟨rfl, rfl, rfl, trivial⟩ ?_)
 refine VS_loop (fun mz E S => ∃ i : Nat, mz = xs.length - i ∧ (i ≤ xs.length) ∧ (∀ j, j < i → nth xs j ≤ k - 1) ∧ E = env [(0, .pv (ints xs)), (1, .pv (i64 k)), (5, .pv (i64 i))] ∧ S = []) ⟨_, 0, rfl, (by omega), (by omega), rfl, rfl⟩ ?_
 rintro mz _ _ ⟨i, hmeas, g0, g1, rfl, rfl⟩
 refine VS_seq (VS_seq (VS_r0 rfl (q_mv rfl (q_mv rfl (q_len_m rfl (q_lss rfl rfl (q_mv rfl ?_)))))))
 refine q_b rfl (fun g10 => ?_) (fun g10 => ?_)
 ·try simp at g10
  refine q_t rfl (q_mv rfl (q_t rfl (q_mv rfl (q_t rfl (q_idx_c _ rfl rfl (by omega) (fun _ => rfl) (q_t rfl (q_load_c rfl rfl rfl (q_t rfl (q_mv rfl (q_t rfl (q_lss rfl rfl (q_pick_t rfl rfl (rg_nil ?_)))))))))))))
  refine VS_cond rfl (fun c0 => ?_) (fun c0 => ?_)
  ·try simp at c0
   refine VS_skip (VS_block (VS_r0 rfl (q_mv rfl (q_add rfl rfl (inR64 (by omega)) (q_mv rfl (rg_nil ?_))))))
   refine Bd.keepL [(0, .pv (ints xs)), (1, .pv (i64 k)), (5, .pv (i64 (i + 1)))] ⟨rfl, rfl, rfl, trivial⟩ ⟨_, ?_, i + 1, rfl, ?_, ?_, rfl, rfl⟩
   ·omega
   ·omega
   ·intro j hj
    by_cases e : j = i
    ·subst e; first | omega | (simp at c0; omega)
    ·exact g1 j (by omega)
  ·try simp at c0
   refine VS_exit (VS_seq (VS_r0 rfl (q_mv rfl (q_mv rfl (rg_nil (VS_ret ?_))))))
   exact Bd.now ⟨_, rfl, congrArg (fun n : Nat => i64 n) (upTo_eq g0 g1 (fun _ => by first | omega | (simp at c0; omega))).symm⟩
 ·try simp at g10
  refine q_f rfl (q_f rfl (q_f rfl (q_f rfl (q_f rfl (q_f rfl (q_pick_f rfl rfl (rg_nil ?_)))))))
  refine VS_cond rfl (fun e => by cases e) (fun _ => ?_)
  refine VS_exit (VS_seq (VS_r0 rfl (q_mv rfl (q_mv rfl (rg_nil (VS_ret ?_))))))
  exact Bd.now ⟨_, rfl, congrArg (fun n : Nat => i64 n) (upTo_eq g0 g1 (fun _ => by first | omega | (simp at c0; omega))).symm⟩
end Go.V

set_option maxHeartbeats 4000000
namespace Go.V
open Go.Proofs.Try (prog)
theorem ob {os : List Nat} (h : os[0]? = some 0) : ∀ i, i < 1 → os[i]? = some i := fun i hi => by
 have e : i = 0 := by omega
 subst e; exact h
set_option maxRecDepth 100000
theorem sl_spec_copyInts : slimF prog 83 = some (6, (.seq (.reg 0 (.o 2 (.mv (.c .nils)) .nil)) (.seq (.reg 0 (.o 3 (.lit 3 1 0 [.pv (.int .i64 0)] []) (.o 4 (.mv (.t 0)) (.o 5 (.app 3 1 8 (.t 3) (.t 4)) (.o 2 (.mv (.t 5)) .nil))))) .ret), [.t 2])) := by kernel_rfl
theorem c_spec_copyInts (xs : List Int) (hl : xs.length ≤ 1000000000) : NewS prog 83 3 1 [ints xs] (dI xs) := by
 refine callS_of_VS sl_spec_copyInts (by simp) (VS_seq (VS_r0 rfl (q_mv rfl (rg_nil (VS_seq (VS_r0 rfl (q_lit0 (q_mv rfl (q_app_zm (ys := xs) (f := fun k => .pv (i64 k)) rfl (elems_I xs) (cell_I xs) ⟨by omega, by omega⟩ trivial (q_mv rfl (rg_nil (VS_ret ?_))))))))))))
 exact Bd.now ⟨ownD 0 (dI xs), by cases xs <;> rfl, rfl, rfl⟩
theorem sl_spec_reader_pick : slimF prog 48 = some (99, (.seq (.reg 0 (.o 4 (.mv (.c (.pv (.int .i64 0)))) .nil)) (.seq (.reg 0 (.o 7 (.mv (.t 0)) (.o 8 (.mv (.t 0)) (.o 9 (.nilc (.t 8)) (.o 10 (.fld 1 1 false (.t 9)) (.o 11 (.load 1 false (.t 10)) (.o 12 (.bin .add (.t 11) (.c (.pv (.int .i64 1)))) (.o 13 (.nilc (.t 7)) (.o 14 (.fld 1 1 false (.t 13)) (.op ⟨none, none, .store 1 (.t 14) (.t 12)⟩ .nil)))))))))) (.seq (.seq (.reg 0 (.o 15 (.mv (.t 1)) (.o 16 (.bin .lss (.t 15) (.c (.pv (.int .i64 1)))) (.o 17 (.mv (.t 16)) (.g 18 17 false (.mv (.t 0)) (.g 19 17 false (.nilc (.t 18)) (.g 20 17 false (.fld 0 1 false (.t 19)) (.g 21 17 false (.load 1 false (.t 20)) (.g 22 17 false (.len (.t 21)) (.g 23 17 false (.bin .eql (.t 22) (.c (.pv (.int .i64 0)))) (.o 24 (.pick (.t 17) (.c (.pv (.bool true))) (.t 23)) .nil))))))))))) (.cond (.t 24) (.seq (.reg 0 (.o 4 (.mv (.c (.pv (.int .i64 0)))) .nil)) .ret) .skip)) (.seq (.reg 0 (.o 25 (.mv (.t 0)) (.o 26 (.nilc (.t 25)) (.o 27 (.fld 1 1 false (.t 26)) (.o 28 (.load 1 false (.t 27)) (.o 29 (.bin .sub (.t 28) (.c (.pv (.int .i64 1)))) (.o 5 (.mv (.t 29)) .nil))))))) (.seq (.seq (.reg 0 (.o 30 (.mv (.t 5)) (.o 31 (.mv (.t 0)) (.o 32 (.nilc (.t 31)) (.o 33 (.fld 0 1 false (.t 32)) (.o 34 (.load 1 false (.t 33)) (.o 35 (.len (.t 34)) (.o 36 (.bin .lss (.t 30) (.t 35)) .nil)))))))) (.cond (.t 36) (.seq (.reg 0 (.o 37 (.mv (.t 0)) (.o 38 (.nilc (.t 37)) (.o 39 (.fld 0 1 false (.t 38)) (.o 40 (.load 1 false (.t 39)) (.o 41 (.mv (.t 5)) (.o 42 (.idx 1 (.t 40) (.t 41)) (.o 43 (.load 1 false (.t 42)) (.o 44 (.conv .i64 (.t 43)) (.o 45 (.mv (.t 1)) (.o 46 (.bin .rem (.t 44) (.t 45)) (.o 4 (.mv (.t 46)) .nil)))))))))))) .ret) .skip)) (.seq (.reg 1 (.o 47 (.mv (.t 0)) (.o 48 (.nilc (.t 47)) (.o 49 (.fld 0 1 false (.t 48)) (.o 50 (.load 1 false (.t 49)) (.o 51 (.mv (.t 5)) (.o 52 (.mv (.t 0)) (.o 53 (.nilc (.t 52)) (.o 54 (.fld 0 1 false (.t 53)) (.o 55 (.load 1 false (.t 54)) (.o 56 (.len (.t 55)) (.o 57 (.bin .rem (.t 51) (.t 56)) (.o 58 (.idx 1 (.t 50) (.t 57)) (.o 59 (.load 1 false (.t 58)) (.o 60 (.conv .i64 (.t 59)) (.o 61 (.bin .mul (.t 60) (.c (.pv (.int .i64 131)))) (.o 62 (.mv (.t 0)) (.o 63 (.nilc (.t 62)) (.o 64 (.fld 0 1 false (.t 63)) (.o 65 (.load 1 false (.t 64)) (.o 66 (.mv (.t 5)) (.o 67 (.bin .mul (.t 66) (.c (.pv (.int .i64 7)))) (.o 68 (.bin .add (.t 67) (.c (.pv (.int .i64 3)))) (.o 69 (.mv (.t 0)) (.o 70 (.nilc (.t 69)) (.o 71 (.fld 0 1 false (.t 70)) (.o 72 (.load 1 false (.t 71)) (.o 73 (.len (.t 72)) (.o 74 (.bin .rem (.t 68) (.t 73)) (.o 75 (.idx 1 (.t 65) (.t 74)) (.o 76 (.load 1 false (.t 75)) (.o 77 (.conv .i64 (.t 76)) (.o 78 (.bin .mul (.t 77) (.c (.pv (.int .i64 1117)))) (.o 79 (.bin .add (.t 61) (.t 78)) (.o 80 (.mv (.t 5)) (.o 81 (.bin .mul (.t 80) (.c (.pv (.int .i64 29)))) (.o 82 (.bin .add (.t 79) (.t 81)) (.o 83 (.mv (.t 5)) (.o 84 (.mv (.t 0)) (.o 85 (.nilc (.t 84)) (.o 86 (.fld 0 1 false (.t 85)) (.o 87 (.load 1 false (.t 86)) (.o 88 (.len (.t 87)) (.o 89 (.bin .quo (.t 83) (.t 88)) (.o 90 (.bin .mul (.t 89) (.c (.pv (.int .i64 53)))) (.o 91 (.bin .add (.t 82) (.t 90)) (.o 6 (.mv (.t 91)) .nil))))))))))))))))))))))))))))))))))))))))))))))) (.seq (.reg 0 (.o 92 (.mv (.t 6)) (.o 93 (.mv (.t 6)) (.o 94 (.bin .quo (.t 93) (.c (.pv (.int .i64 64)))) (.o 95 (.bin .xor (.t 92) (.t 94)) (.o 6 (.mv (.t 95)) .nil)))))) (.seq (.reg 0 (.o 96 (.mv (.t 6)) (.o 97 (.mv (.t 1)) (.o 98 (.bin .rem (.t 96) (.t 97)) (.o 4 (.mv (.t 98)) .nil))))) .ret))))))), [.t 4])) := by kernel_rfl
theorem c_spec_reader_pick (bs : List Int) (hb : isU8 bs) (hbl : bs.length ≤ 2000) (p : Int) (hp : 0 ≤ p) (n : Int) (hp2 : p ≤ 1000000000000) (hn : n ≤ 1000000000000) : RdS prog 48 84 bs p [i64 n] (fun x q => ∃ v : Int, x = i64 v ∧ (0 ≤ v ∧ (v < n ∨ v = 0)) ∧ q = p + 1) := by
 refine callS_of_VS sl_spec_reader_pick (by simp) (VS_seq (VS_r0 rfl (q_mv rfl (rg_nil (VS_seq (VS_r0 rfl (q_mv rfl (q_mv rfl (q_nilc_r rfl (q_fld_r rfl (q_load_r rfl rfl rfl rfl rfl rfl rfl (q_add rfl rfl (inR64 (by omega)) (q_nilc_r rfl (q_fld_r rfl (q_store rfl rfl rfl rfl rfl rfl ⟨rfl, rfl, Nat.le_refl 2, rfl, by simp [isOne]⟩ rfl trivial ?_)))))))))))))))
 refine rg_nil (VS_st [some (rdr 84 bs (p + 1))] rfl (VS_seq (VS_seq (VS_r0 rfl (q_mv rfl (q_lss rfl rfl (q_mv rfl ?_)))))))
 refine q_b rfl (fun g17 => ?_) (fun g17 => ?_)
 ·try simp at g17
  refine q_t rfl (q_mv rfl (q_t rfl (q_nilc_r rfl (q_t rfl (q_fld_r rfl (q_t rfl (q_load_r rfl rfl rfl rfl rfl rfl rfl (q_t rfl (q_len_m rfl (q_t rfl (q_eql rfl rfl (q_pick_f rfl rfl (rg_nil ?_)))))))))))))
  refine VS_cond rfl (fun c0 => ?_) (fun c0 => ?_)
  ·try simp at c0
   refine VS_seq (VS_r0 rfl (q_mv rfl (rg_nil (VS_ret ?_))))
   exact Bd.now ⟨_, rfl, _, _, _, rfl, ⟨0, rfl, ⟨Int.le_refl _, .inr rfl⟩, rfl⟩, rfl⟩
  ·try simp at c0
   refine VS_skip (VS_seq (VS_r0 rfl (q_mv rfl (q_nilc_r rfl (q_fld_r rfl (q_load_r rfl rfl rfl rfl rfl rfl rfl (q_sub rfl rfl (inR64 (by omega)) ?_)))))))
   rw [show p + 1 - 1 = p by omega]
   refine q_mv rfl (rg_nil (VS_seq (VS_seq (VS_r0 rfl (q_mv rfl (q_mv rfl (q_nilc_r rfl (q_fld_r rfl (q_load_r rfl rfl rfl rfl rfl rfl rfl (q_len_m rfl (q_lss rfl rfl (rg_nil ?_))))))))))))
   refine VS_cond rfl (fun c1 => ?_) (fun c1 => ?_)
   ·try simp at c1
    refine VS_seq (VS_r0 rfl ?_)
    have q0 := hb.nth (i := p.toNat) (by omega)
    refine q_mv rfl (q_nilc_r rfl (q_fld_r rfl (q_load_r rfl rfl rfl rfl rfl rfl rfl (q_mv rfl (q_idx_m rfl rfl (by omega) (by omega) (fun _ => rfl) (q_load_c rfl rfl rfl (q_conv rfl (inR64 (by omega)) (q_mv rfl (q_rem rfl rfl ⟨by omega, by omega⟩ (q_mv rfl (rg_nil (VS_ret ?_))))))))))))
    exact Bd.now ⟨_, rfl, _, _, _, rfl, ⟨_, rfl, ⟨Int.emod_nonneg _ (by omega), .inl (Int.emod_lt_of_pos _ (by omega))⟩, rfl⟩, rfl⟩
   ·try simp at c1
    refine VS_skip (VS_seq (VS_r1 hmix rfl ?_))
    have hpos : (0 : Int) < bs.length := by have := List.length_pos_iff.2 (show bs ≠ [] by assumption); omega
    have e1 := Int.emod_nonneg p (show (bs.length : Int) ≠ 0 by omega)
    have e2 := Int.emod_lt_of_pos p hpos
    have e3 := Int.emod_nonneg (p * 7 + 3) (show (bs.length : Int) ≠ 0 by omega)
    have e4 := Int.emod_lt_of_pos (p * 7 + 3) hpos
    have q1 := hb.nth (i := (p % bs.length).toNat) (by omega)
    have q2 := hb.nth (i := ((p * 7 + 3) % bs.length).toNat) (by omega)
    have e5 : 0 ≤ p / (bs.length : Int) := Int.ediv_nonneg hp (by omega)
    have e6 : p / (bs.length : Int) ≤ p := Int.ediv_le_self _ hp
    refine q_mv rfl (q_nilc_r rfl (q_fld_r rfl (q_load_r rfl rfl rfl rfl rfl rfl rfl (q_mv rfl (q_mv rfl (q_nilc_r rfl (q_fld_r rfl (q_load_r rfl rfl rfl rfl rfl rfl rfl (q_len_m rfl (q_rem rfl rfl ⟨by omega, by omega⟩ (q_idx_m rfl rfl (by omega) (by omega) (fun _ => rfl) (q_load_c rfl rfl rfl (q_conv rfl (inR64 (by omega)) (q_mul rfl rfl (inR64 (by omega)) (q_mv rfl ?_)))))))))))))))
    refine q_nilc_r rfl (q_fld_r rfl (q_load_r rfl rfl rfl rfl rfl rfl rfl (q_mv rfl (q_mul rfl rfl (inR64 (by omega)) (q_add rfl rfl (inR64 (by omega)) (q_mv rfl (q_nilc_r rfl (q_fld_r rfl (q_load_r rfl rfl rfl rfl rfl rfl rfl (q_len_m rfl (q_rem rfl rfl ⟨by omega, by omega⟩ (q_idx_m rfl rfl (by omega) (by omega) (fun _ => rfl) (q_load_c rfl rfl rfl (q_conv rfl (inR64 (by omega)) (q_mul rfl rfl (inR64 (by omega)) ?_)))))))))))))))
    refine q_add rfl rfl (inR64 (by omega)) (q_mv rfl (q_mul rfl rfl (inR64 (by omega)) (q_add rfl rfl (inR64 (by omega)) (q_mv rfl (q_mv rfl (q_nilc_r rfl (q_fld_r rfl (q_load_r rfl rfl rfl rfl rfl rfl rfl (q_len_m rfl (q_quo rfl rfl ⟨by omega, by omega, inR64 (by omega)⟩ (q_mul rfl rfl (inR64 (by omega)) (q_add rfl rfl (inR64 (by omega)) (q_mv rfl (rg_nil (VS_seq ?_)))))))))))))))
    refine VS_r0 rfl (q_mv rfl (q_mv rfl (q_quo rfl rfl ⟨by omega, by omega, inR64 (by omega)⟩ (q_xor rfl rfl ⟨by omega, by omega, (inR64 (by omega)).2, (inR64 (by omega)).2⟩ (q_mv rfl (rg_nil (VS_seq (VS_r0 rfl (q_mv rfl (q_mv rfl (q_rem rfl rfl ⟨by omega, by omega⟩ (q_mv rfl (rg_nil (VS_ret ?_))))))))))))))
    exact Bd.now ⟨_, rfl, _, _, _, rfl, ⟨_, rfl, ⟨Int.emod_nonneg _ (by omega), .inl (Int.emod_lt_of_pos _ (by omega))⟩, rfl⟩, rfl⟩
 ·try simp at g17
  refine q_f rfl (q_f rfl (q_f rfl (q_f rfl (q_f rfl (q_f rfl (q_pick_t rfl rfl (rg_nil ?_)))))))
  refine VS_cond rfl (fun _ => ?_) (fun e => by cases e)
  refine VS_seq (VS_r0 rfl (q_mv rfl (rg_nil (VS_ret ?_))))
  exact Bd.now ⟨_, rfl, _, _, _, rfl, ⟨0, rfl, ⟨Int.le_refl _, .inr rfl⟩, rfl⟩, rfl⟩
theorem sl_spec_reader_one : slimF prog 47 = some (12, (.seq (.reg 0 (.o 4 (.mv (.c (.pv (.int .i64 0)))) .nil)) (.seq (.reg 0 (.o 5 (.mv (.t 1)) (.o 6 (.mv (.t 0)) (.o 7 (.mv (.t 1)) (.o 8 (.len (.t 7)) (.o 9 (.call 48 [.t 6, .t 8]) (.o 10 (.idx 1 (.t 5) (.t 9)) (.o 11 (.load 1 false (.t 10)) (.o 4 (.mv (.t 11)) .nil))))))))) .ret), [.t 4])) := by kernel_rfl
theorem c_spec_reader_one (bs : List Int) (hb : isU8 bs) (hbl : bs.length ≤ 2000) (p : Int) (hp : 0 ≤ p) (xs : List Int) (hx : 0 < xs.length) (hx2 : xs.length ≤ 1000000000) (hp2 : p ≤ 100000000000) : RdS prog 47 84 bs p [ints xs] (fun x q => ∃ v : Int, x = i64 v ∧ v ∈ xs ∧ q = p + 1) := by
 refine callS_of_VS sl_spec_reader_one (by simp) (VS_seq (VS_r0 rfl (q_mv rfl (rg_nil (VS_seq (VS_r0 rfl (q_mv rfl (q_mv rfl (q_mv rfl (q_len_m rfl ?_))))))))))
 refine q_rd rfl (c_spec_reader_pick bs hb hbl _ (by omega) xs.length (by omega) (by omega)) rfl rfl (fun _ => trivial) ?_
 rintro _ q9 ⟨v, rfl, q_v, rfl⟩
 refine q_idx_m rfl rfl (by omega) (by omega) (fun _ => rfl) (q_load_c rfl rfl rfl (q_mv rfl (rg_nil (VS_ret ?_))))
 exact Bd.now ⟨_, rfl, _, _, _, rfl, ⟨_, rfl, nth_mem (by omega), rfl⟩, rfl⟩
theorem sl_spec_newReader : slimF prog 33 = some (11, (.seq (.reg 0 (.o 2 (.mv (.c (.pv .nilp))) .nil)) (.seq (.seq (.reg 0 (.o 3 (.mv (.t 0)) (.o 4 (.len (.t 3)) (.o 5 (.bin .gtr (.t 4) (.c (.pv (.int .i64 2000)))) .nil)))) (.cond (.t 5) (.reg 0 (.o 6 (.mv (.t 0)) (.o 7 (.slc 1 (.t 6) none (some (.c (.pv (.int .i64 2000))))) (.o 0 (.mv (.t 7)) .nil)))) .skip)) (.seq (.reg 0 (.o 8 (.mv (.t 0)) (.o 9 (.build [.nils, .pv (.int .i64 0)] [(0, (1, .t 8))]) (.o 10 (.box 84 2 (.t 9)) (.o 2 (.mv (.t 10)) .nil))))) .ret)), [.t 2])) := by kernel_rfl
theorem c_spec_newReader (bs : List Int) (hb : isU8 bs) (hl : bs.length ≤ 1048576) : NewRd prog 33 84 bs := by
 refine callS_of_VS sl_spec_newReader (by simp) (VS_seq (VS_r0 rfl (q_mv rfl (rg_nil (VS_seq (VS_seq (VS_r0 rfl (q_mv rfl (q_len_m rfl (q_gtr rfl rfl (rg_nil ?_)))))))))))
 refine VS_cond rfl (fun c0 => ?_) (fun c0 => ?_)
 ·try simp at c0
  refine VS_r0 rfl (q_mv rfl (q_slc_m (xs := bs) (f := fun k => PV.int .u8 k) 0 2000 rfl rfl rfl ⟨rfl, rfl, by omega, by omega⟩ (fun _ => rfl) (q_mv rfl (rg_nil (VS_seq (VS_r0 rfl (q_mv rfl (q_build rfl (q_box rfl rfl rfl trivial (q_mv rfl (rg_nil (VS_ret ?_))))))))))))
  exact Bd.now ⟨.ptr 0 0 0, rfl, bs.take 2000, ⟨hb.take _, by simp; omega⟩, rfl, rfl⟩
 ·try simp at c0
  refine VS_skip (VS_seq (VS_r0 rfl (q_mv rfl (q_build rfl (q_box rfl rfl rfl trivial (q_mv rfl (rg_nil (VS_ret ?_))))))))
  exact Bd.now ⟨.ptr 0 0 0, rfl, bs, ⟨hb, by omega⟩, rfl, rfl⟩
theorem sl_spec_reader_spoil : slimF prog 82 = some (41, (.seq (.reg 0 (.o 6 (.mv (.c .nils)) .nil)) (.seq (.reg 0 (.o 8 (.mv (.t 1)) (.o 9 (.call 83 [.t 8]) (.o 7 (.mv (.t 9)) .nil)))) (.seq (.seq (.reg 0 (.o 10 (.mv (.t 0)) (.o 11 (.call 48 [.t 10, .c (.pv (.int .i64 20))]) .nil))) (.block 0 (.seq (.reg 0 (.o 13 (.bin .eql (.t 11) (.c (.pv (.int .i64 0)))) (.o 12 (.mv (.t 13)) .nil))) (.cond (.t 12) (.reg 0 (.o 14 (.mv (.t 7)) (.o 15 (.mv (.t 2)) (.o 16 (.lit 3 1 1 [.pv (.int .i64 0)] [(0, .t 15)]) (.o 17 (.app 3 1 8 (.t 14) (.t 16)) (.o 7 (.mv (.t 17)) .nil)))))) (.seq (.reg 0 (.o 19 (.bin .eql (.t 11) (.c (.pv (.int .i64 1)))) (.o 18 (.mv (.t 19)) .nil))) (.cond (.t 18) (.seq (.reg 0 (.o 20 (.mv (.t 7)) (.o 21 (.len (.t 20)) (.o 22 (.bin .gtr (.t 21) (.c (.pv (.int .i64 0)))) .nil)))) (.cond (.t 22) (.reg 0 (.o 23 (.mv (.t 7)) (.o 24 (.slc 1 (.t 23) (some (.c (.pv (.int .i64 1)))) none) (.o 7 (.mv (.t 24)) .nil)))) .skip)) (.seq (.reg 0 (.o 26 (.bin .eql (.t 11) (.c (.pv (.int .i64 2)))) (.o 25 (.mv (.t 26)) .nil))) (.cond (.t 25) (.seq (.reg 0 (.o 27 (.mv (.t 7)) (.o 28 (.len (.t 27)) (.o 29 (.bin .gtr (.t 28) (.c (.pv (.int .i64 0)))) .nil)))) (.cond (.t 29) (.reg 0 (.o 30 (.mv (.t 7)) (.o 31 (.mv (.t 0)) (.o 32 (.mv (.t 7)) (.o 33 (.len (.t 32)) (.o 34 (.call 48 [.t 31, .t 33]) (.o 35 (.mv (.t 0)) (.o 36 (.mv (.t 2)) (.o 37 (.lit 3 1 4 [.pv (.int .i64 0)] [(0, .c (.pv (.int .i64 (-1)))), (1, .t 36), (2, .c (.pv (.int .i64 0))), (3, .c (.pv (.int .i64 1)))]) (.o 38 (.call 47 [.t 35, .t 37]) (.o 39 (.idx 1 (.t 30) (.t 34)) (.op ⟨none, none, .store 1 (.t 39) (.t 38)⟩ .nil)))))))))))) .skip)) .skip)))))))) (.seq (.reg 0 (.o 40 (.mv (.t 7)) (.o 6 (.mv (.t 40)) .nil))) .ret))), [.t 6])) := by kernel_rfl
theorem c_spec_reader_spoil (bs : List Int) (hb : isU8 bs) (hbl : bs.length ≤ 2000) (p : Int) (hp : 0 ≤ p) (xs : List Int) (n : Int) (hx : xs.length ≤ 1000000) (hx2 : bdI 1000000000 xs) (hn : -1000000000 ≤ n ∧ n ≤ 1000000000) (hp2 : p ≤ 90000000000) : RdS prog 82 84 bs p [ints xs, i64 n] (fun x q => ∃ ys : List Int, x = ints ys ∧ (ys.length ≤ xs.length + 1 ∧ bdI 1000000000 ys) ∧ (p ≤ q ∧ q ≤ p + 3)) := by
 refine callS_of_VS sl_spec_reader_spoil (by simp) (VS_seq (VS_r0 rfl (q_mv rfl (rg_nil (VS_seq (VS_r0 rfl (q_mv rfl (q_new rfl (c_spec_copyInts xs (by omega)) (flat_I _) (by rfl) trivial (q_mv rfl (rg_nil (VS_seq (VS_seq (VS_r0 rfl (q_mv rfl ?_))))))))))))))
 refine q_rd rfl (c_spec_reader_pick bs hb hbl _ (by omega) 20 (by omega) (by omega)) rfl rfl (fun _ => trivial) ?_
 rintro _ q11 ⟨a, rfl, q_a, rfl⟩
 refine rg_nil (VS_block (VS_seq (VS_r0 rfl (q_eql rfl rfl (q_mv rfl (rg_nil ?_))))))
 refine VS_cond rfl (fun c0 => ?_) (fun c0 => ?_)
 ·try simp at c0
  refine VS_r0 rfl (q_mv rfl (q_mv rfl (q_lit rfl rfl rfl rfl (q_app_dm (xs := xs) (ys := [n]) (f := fun k => .pv (i64 k)) rfl rfl rfl rfl ⟨by simp; omega, by simp; omega⟩ trivial (q_mv rfl (rg_nil (VS_seq (VS_r0 rfl (q_mv rfl (q_mv rfl (rg_nil (VS_ret ?_))))))))))))
  first
   | refine Bd.pureB 6 2 3 1 (xs := dI (xs ++ [n])) rfl rfl (toPVs_dI _) ?_
   | refine Bd.pureB 6 1 3 1 (xs := dI (xs.set b.toNat c)) (Eq.trans (b := ownD 1 (dI xs)) rfl (ownD_len (by simp))) rfl (toPVs_dI _) ?_
   | refine Bd.pureB 6 1 3 1 (xs := dI xs) rfl rfl (toPVs_dI _) ?_
   | skip
  first
   | refine Bd.renL [0] (ob rfl) (by simp) [(6, .pv (ints (xs ++ [n])))] ⟨rfl, trivial⟩ rfl ?_
   | refine Bd.renL [0] (ob rfl) (by simp) [(6, .pv (ints (xs.set b.toNat c)))] ⟨rfl, trivial⟩ rfl ?_
   | refine Bd.renL [0] (ob rfl) (by simp) [(6, .pv (ints ((xs.take xs.length).drop 1)))] ⟨rfl, trivial⟩ rfl ?_
   | refine Bd.renL [0] (ob rfl) (by simp) [(6, .pv (ints xs))] ⟨rfl, trivial⟩ rfl ?_
  refine ⟨_, rfl, _, _, _, rfl, ⟨_, rfl, ⟨?_, ?_⟩, ⟨by omega, by omega⟩⟩, rfl⟩
  ·(simp; done)
  ·exact hx2.app (bdI.one hn)
 ·try simp at c0
  refine VS_seq (VS_r0 rfl (q_eql rfl rfl (q_mv rfl (rg_nil ?_))))
  refine VS_cond rfl (fun c1 => ?_) (fun c1 => ?_)
  ·try simp at c1
   refine VS_seq (VS_r0 rfl (q_mv rfl (q_len_dm rfl (q_gtr rfl rfl (rg_nil ?_)))))
   refine VS_cond rfl (fun c2 => ?_) (fun c2 => ?_)
   ·try simp at c2
    refine VS_bd (Bd.pure 7 1 3 1 (xs := dI xs) rfl rfl (toPVs_dI _) ?_)
    refine VS_r0 rfl (q_mv rfl (q_slc_m (xs := xs) (f := fun k => i64 k) 1 xs.length rfl rfl rfl ⟨rfl, by simp, by omega, by omega⟩ (fun _ => rfl) (q_mv rfl (rg_nil (VS_seq (VS_r0 rfl (q_mv rfl (q_mv rfl (rg_nil (VS_ret ?_))))))))))
    first
     | refine Bd.pureB 6 2 3 1 (xs := dI (xs ++ [n])) rfl rfl (toPVs_dI _) ?_
     | refine Bd.pureB 6 1 3 1 (xs := dI (xs.set b.toNat c)) (Eq.trans (b := ownD 1 (dI xs)) rfl (ownD_len (by simp))) rfl (toPVs_dI _) ?_
     | refine Bd.pureB 6 1 3 1 (xs := dI xs) rfl rfl (toPVs_dI _) ?_
     | skip
    first
     | refine Bd.renL [0] (ob rfl) (by simp) [(6, .pv (ints (xs ++ [n])))] ⟨rfl, trivial⟩ rfl ?_
     | refine Bd.renL [0] (ob rfl) (by simp) [(6, .pv (ints (xs.set b.toNat c)))] ⟨rfl, trivial⟩ rfl ?_
     | refine Bd.renL [0] (ob rfl) (by simp) [(6, .pv (ints ((xs.take xs.length).drop 1)))] ⟨rfl, trivial⟩ rfl ?_
     | refine Bd.renL [0] (ob rfl) (by simp) [(6, .pv (ints xs))] ⟨rfl, trivial⟩ rfl ?_
    refine ⟨_, rfl, _, _, _, rfl, ⟨_, rfl, ⟨?_, ?_⟩, ⟨by omega, by omega⟩⟩, rfl⟩
    ·(simp; omega)
    ·exact (hx2.take _).drop _
   ·try simp at c2
    refine VS_skip (VS_seq (VS_r0 rfl (q_mv rfl (q_mv rfl (rg_nil (VS_ret ?_))))))
    first
     | refine Bd.pureB 6 2 3 1 (xs := dI (xs ++ [n])) rfl rfl (toPVs_dI _) ?_
     | refine Bd.pureB 6 1 3 1 (xs := dI (xs.set b.toNat c)) (Eq.trans (b := ownD 1 (dI xs)) rfl (ownD_len (by simp))) rfl (toPVs_dI _) ?_
     | refine Bd.pureB 6 1 3 1 (xs := dI xs) rfl rfl (toPVs_dI _) ?_
     | skip
    first
     | refine Bd.renL [0] (ob rfl) (by simp) [(6, .pv (ints (xs ++ [n])))] ⟨rfl, trivial⟩ rfl ?_
     | refine Bd.renL [0] (ob rfl) (by simp) [(6, .pv (ints (xs.set b.toNat c)))] ⟨rfl, trivial⟩ rfl ?_
     | refine Bd.renL [0] (ob rfl) (by simp) [(6, .pv (ints ((xs.take xs.length).drop 1)))] ⟨rfl, trivial⟩ rfl ?_
     | refine Bd.renL [0] (ob rfl) (by simp) [(6, .pv (ints xs))] ⟨rfl, trivial⟩ rfl ?_
    refine ⟨_, rfl, _, _, _, rfl, ⟨_, rfl, ⟨?_, ?_⟩, ⟨by omega, by omega⟩⟩, rfl⟩
    ·(simp; done)
    ·exact hx2
  ·try simp at c1
   refine VS_seq (VS_r0 rfl (q_eql rfl rfl (q_mv rfl (rg_nil ?_))))
   refine VS_cond rfl (fun c3 => ?_) (fun c3 => ?_)
   ·try simp at c3
    refine VS_seq (VS_r0 rfl (q_mv rfl (q_len_dm rfl (q_gtr rfl rfl (rg_nil ?_)))))
    refine VS_cond rfl (fun c4 => ?_) (fun c4 => ?_)
    ·try simp at c4
     refine VS_r0 rfl (q_mv rfl (q_mv rfl (q_mv rfl (q_len_dm rfl ?_))))
     refine q_rd rfl (c_spec_reader_pick bs hb hbl _ (by omega) xs.length (by omega) (by omega)) rfl rfl (fun _ => trivial) ?_
     rintro _ q34 ⟨b, rfl, q_b, rfl⟩
     refine q_mv rfl (q_mv rfl (q_lit (xs := [-1, n, 0, 1].map (.int .i64)) rfl rfl rfl rfl ?_))
     refine q_rd rfl (c_spec_reader_one bs hb hbl _ (by omega) [-1, n, 0, 1] (by simp) (by simp) (by omega)) rfl rfl (fun _ => trivial) ?_
     rintro _ q38 ⟨c, rfl, q_c, rfl⟩
     refine q_idx_dm (ty := 3) (xs := xs) rfl rfl (by omega) (by omega) rfl (q_store_d (ty := 3) (xs := xs) rfl rfl rfl (by omega) trivial (rg_nil (VS_seq (VS_r0 rfl (q_mv rfl (q_mv rfl (rg_nil (VS_ret ?_))))))))
     first
      | refine Bd.pureB 6 2 3 1 (xs := dI (xs ++ [n])) rfl rfl (toPVs_dI _) ?_
      | refine Bd.pureB 6 1 3 1 (xs := dI (xs.set b.toNat c)) (Eq.trans (b := ownD 1 (dI xs)) rfl (ownD_len (by simp))) rfl (toPVs_dI _) ?_
      | refine Bd.pureB 6 1 3 1 (xs := dI xs) rfl rfl (toPVs_dI _) ?_
      | skip
     first
      | refine Bd.renL [0] (ob rfl) (by simp) [(6, .pv (ints (xs ++ [n])))] ⟨rfl, trivial⟩ rfl ?_
      | refine Bd.renL [0] (ob rfl) (by simp) [(6, .pv (ints (xs.set b.toNat c)))] ⟨rfl, trivial⟩ rfl ?_
      | refine Bd.renL [0] (ob rfl) (by simp) [(6, .pv (ints ((xs.take xs.length).drop 1)))] ⟨rfl, trivial⟩ rfl ?_
      | refine Bd.renL [0] (ob rfl) (by simp) [(6, .pv (ints xs))] ⟨rfl, trivial⟩ rfl ?_
     refine ⟨_, rfl, _, _, _, rfl, ⟨_, rfl, ⟨?_, ?_⟩, ⟨by omega, by omega⟩⟩, rfl⟩
     ·(simp; done)
     ·(simp only [List.mem_cons, List.not_mem_nil, or_false] at q_c; exact hx2.set _ (by omega))
    ·try simp at c4
     refine VS_skip (VS_seq (VS_r0 rfl (q_mv rfl (q_mv rfl (rg_nil (VS_ret ?_))))))
     first
      | refine Bd.pureB 6 2 3 1 (xs := dI (xs ++ [n])) rfl rfl (toPVs_dI _) ?_
      | refine Bd.pureB 6 1 3 1 (xs := dI (xs.set b.toNat c)) (Eq.trans (b := ownD 1 (dI xs)) rfl (ownD_len (by simp))) rfl (toPVs_dI _) ?_
      | refine Bd.pureB 6 1 3 1 (xs := dI xs) rfl rfl (toPVs_dI _) ?_
      | skip
     first
      | refine Bd.renL [0] (ob rfl) (by simp) [(6, .pv (ints (xs ++ [n])))] ⟨rfl, trivial⟩ rfl ?_
      | refine Bd.renL [0] (ob rfl) (by simp) [(6, .pv (ints (xs.set b.toNat c)))] ⟨rfl, trivial⟩ rfl ?_
      | refine Bd.renL [0] (ob rfl) (by simp) [(6, .pv (ints ((xs.take xs.length).drop 1)))] ⟨rfl, trivial⟩ rfl ?_
      | refine Bd.renL [0] (ob rfl) (by simp) [(6, .pv (ints xs))] ⟨rfl, trivial⟩ rfl ?_
     refine ⟨_, rfl, _, _, _, rfl, ⟨_, rfl, ⟨?_, ?_⟩, ⟨by omega, by omega⟩⟩, rfl⟩
     ·(simp; done)
     ·exact hx2
   ·try simp at c3
    refine VS_skip (VS_seq (VS_r0 rfl (q_mv rfl (q_mv rfl (rg_nil (VS_ret ?_))))))
    first
     | refine Bd.pureB 6 2 3 1 (xs := dI (xs ++ [n])) rfl rfl (toPVs_dI _) ?_
     | refine Bd.pureB 6 1 3 1 (xs := dI (xs.set b.toNat c)) (Eq.trans (b := ownD 1 (dI xs)) rfl (ownD_len (by simp))) rfl (toPVs_dI _) ?_
     | refine Bd.pureB 6 1 3 1 (xs := dI xs) rfl rfl (toPVs_dI _) ?_
     | skip
    first
     | refine Bd.renL [0] (ob rfl) (by simp) [(6, .pv (ints (xs ++ [n])))] ⟨rfl, trivial⟩ rfl ?_
     | refine Bd.renL [0] (ob rfl) (by simp) [(6, .pv (ints (xs.set b.toNat c)))] ⟨rfl, trivial⟩ rfl ?_
     | refine Bd.renL [0] (ob rfl) (by simp) [(6, .pv (ints ((xs.take xs.length).drop 1)))] ⟨rfl, trivial⟩ rfl ?_
     | refine Bd.renL [0] (ob rfl) (by simp) [(6, .pv (ints xs))] ⟨rfl, trivial⟩ rfl ?_
    refine ⟨_, rfl, _, _, _, rfl, ⟨_, rfl, ⟨?_, ?_⟩, ⟨by omega, by omega⟩⟩, rfl⟩
    ·(simp; done)
    ·exact hx2
end Go.V

set_option maxHeartbeats 4000000
namespace Go.V
open Go.Proofs.Try (prog)
set_option maxRecDepth 100000
theorem sl_slices_Clone_int : slimF prog 39 = some (8, (.seq (.reg 0 (.o 2 (.mv (.c .nils)) .nil)) (.seq (.seq (.reg 0 (.o 3 (.mv (.t 0)) (.o 4 (.isnil false (.t 3)) .nil))) (.cond (.t 4) (.seq (.reg 0 (.o 2 (.mv (.c .nils)) .nil)) .ret) .skip)) (.seq (.reg 0 (.o 5 (.lit 3 1 0 [.pv (.int .i64 0)] []) (.o 6 (.mv (.t 0)) (.o 7 (.app 3 1 8 (.t 5) (.t 6)) (.o 2 (.mv (.t 7)) .nil))))) .ret)), [.t 2])) := by kernel_rfl
theorem c_slices_Clone_int (xs : List Int) (hl : xs.length ≤ 1000000000) : NewS prog 39 3 1 [ints xs] (dI xs) := by
 refine callS_of_VS sl_slices_Clone_int (by simp) (VS_seq (VS_r0 rfl (q_mv rfl (rg_nil (VS_seq (VS_seq (VS_r0 rfl (q_mv rfl ?_))))))))
 refine q_isnil_m rfl trivial ?_ ?_
 ·skip
  refine rg_nil ?_
  refine VS_cond rfl (fun e => by cases e) (fun _ => ?_)
  refine VS_skip (VS_seq (VS_r0 rfl (q_lit0 (q_mv rfl (q_app_zm (ys := xs) (f := fun k => .pv (i64 k)) rfl (elems_I xs) (cell_I xs) ⟨by omega, by omega⟩ trivial (q_mv rfl (rg_nil (VS_ret ?_))))))))
  exact Bd.now ⟨ownD 0 (dI xs), by cases xs <;> rfl, rfl, rfl⟩
 ·intro hn
  rw [List.map_eq_nil_iff] at hn
  subst hn
  refine rg_nil ?_
  refine VS_cond rfl (fun _ => ?_) (fun e => by cases e)
  refine VS_seq (VS_r0 rfl (q_mv rfl (rg_nil (VS_ret ?_))))
  exact Bd.pad ⟨.nils, rfl, rfl, rfl⟩
end Go.V

set_option maxHeartbeats 4000000
namespace Go.V
open Go.Proofs.Try (prog)
set_option maxRecDepth 100000
theorem sl_laws_equalInts : slimF prog 13 = some (26, (.seq (.reg 0 (.o 4 (.mv (.c (.pv (.bool false)))) .nil)) (.seq (.seq (.reg 0 (.o 6 (.mv (.t 0)) (.o 7 (.len (.t 6)) (.o 8 (.mv (.t 1)) (.o 9 (.len (.t 8)) (.o 10 (.bin .neq (.t 7) (.t 9)) .nil)))))) (.cond (.t 10) (.seq (.reg 0 (.o 4 (.mv (.c (.pv (.bool false)))) .nil)) .ret) .skip)) (.seq (.seq (.reg 0 (.o 5 (.mv (.c (.pv (.int .i64 0)))) .nil)) (.block 0 (.loop (.seq (.seq (.reg 0 (.o 11 (.mv (.t 5)) (.o 12 (.mv (.t 0)) (.o 13 (.len (.t 12)) (.o 14 (.bin .lss (.t 11) (.t 13)) .nil))))) (.cond (.t 14) .skip (.exit 0))) (.seq (.block 1 (.seq (.reg 1 (.o 17 (.mv (.t 0)) (.o 18 (.mv (.t 5)) (.o 19 (.idx 1 (.t 17) (.t 18)) (.o 20 (.load 1 false (.t 19)) (.o 21 (.mv (.t 1)) (.o 22 (.mv (.t 5)) (.o 23 (.idx 1 (.t 21) (.t 22)) (.o 24 (.load 1 false (.t 23)) (.o 25 (.bin .neq (.t 20) (.t 24)) .nil)))))))))) (.cond (.t 25) (.seq (.reg 0 (.o 4 (.mv (.c (.pv (.bool false)))) .nil)) .ret) .skip))) (.reg 0 (.o 15 (.mv (.t 5)) (.o 16 (.bin .add (.t 15) (.c (.pv (.int .i64 1)))) (.o 5 (.mv (.t 16)) .nil))))))))) (.seq (.reg 0 (.o 4 (.mv (.c (.pv (.bool true)))) .nil)) .ret))), [.t 4])) := by kernel_rfl
theorem c_laws_equalInts (xs ys : List Int) (hx : xs.length ≤ 1000000000) (hy : ys.length ≤ 1000000000) : PCon prog 13 [ints xs, ints ys] (fun p => p = .bool (decide (xs = ys))) := by
 refine con_of_VS sl_laws_equalInts (by simp) (VS_seq (VS_r0 rfl (q_mv rfl (rg_nil (VS_seq (VS_seq (VS_r0 rfl (q_mv rfl (q_len_m rfl (q_mv rfl (q_len_m rfl (q_neq rfl rfl (rg_nil ?_)))))))))))))
 refine VS_cond rfl (fun c0 => ?_) (fun c0 => ?_)
 ·try simp at c0
  refine VS_seq (VS_r0 rfl (q_mv rfl (rg_nil (VS_ret ?_))))
  refine Bd.now ⟨_, rfl, congrArg PV.bool (decide_eq_false fun e => ?_).symm⟩
  subst e; omega
 ·try simp at c0
  refine VS_skip (VS_seq (VS_seq (VS_r0 rfl (q_mv rfl (rg_nil (VS_block ?_))))))
  refine VS_bd (Bd.keepL [(0, .pv (ints xs)), (1, .pv (ints ys)), (4, .pv (.bool false)), (5, .pv (i64 0))] ⟨rfl, rfl, rfl, rfl, trivial⟩ ?_)
  refine VS_loop (fun mz E S => ∃ i : Nat, mz = xs.length - i ∧ (i ≤ xs.length) ∧ (∀ j, j < i → nth xs j = nth ys j) ∧ E = env [(0, .pv (ints xs)), (1, .pv (ints ys)), (4, .pv (.bool false)), (5, .pv (i64 i))] ∧ S = []) ⟨_, 0, rfl, (by omega), (by omega), rfl, rfl⟩ ?_
  rintro mz _ _ ⟨i, hmeas, g0, g1, rfl, rfl⟩
  refine VS_seq (VS_seq (VS_r0 rfl (q_mv rfl (q_mv rfl (q_len_m rfl (q_lss rfl rfl (rg_nil ?_)))))))
  refine VS_cond rfl (fun c1 => ?_) (fun c1 => ?_)
  ·try simp at c1
   refine VS_skip (VS_seq (VS_block (VS_seq (VS_r1 hmix rfl (q_mv rfl (q_mv rfl (q_idx_c _ rfl rfl (by omega) (fun _ => rfl) (q_load_c rfl rfl rfl (q_mv rfl (q_mv rfl (q_idx_c _ rfl rfl (by omega) (fun _ => rfl) (q_load_c rfl rfl rfl (q_neq rfl rfl (rg_nil ?_))))))))))))))
   refine VS_cond rfl (fun c2 => ?_) (fun c2 => ?_)
   ·try simp at c2
    refine VS_seq (VS_r0 rfl (q_mv rfl (rg_nil (VS_ret ?_))))
    refine Bd.now ⟨_, rfl, congrArg PV.bool (decide_eq_false fun e => ?_).symm⟩
    subst e; exact c2 rfl
   ·try simp at c2
    refine VS_skip (VS_r0 rfl (q_mv rfl (q_add rfl rfl (inR64 (by omega)) (q_mv rfl (rg_nil ?_)))))
    refine Bd.keepL [(0, .pv (ints xs)), (1, .pv (ints ys)), (4, .pv (.bool false)), (5, .pv (i64 (i + 1)))] ⟨rfl, rfl, rfl, rfl, trivial⟩ ⟨_, ?_, i + 1, rfl, ?_, ?_, rfl, rfl⟩
    ·omega
    ·omega
    ·intro j hj
     by_cases e : j = i
     ·subst e; simpa using c2
     ·exact g1 j (by omega)
  ·try simp at c1
   refine VS_exit (VS_seq (VS_r0 rfl (q_mv rfl (rg_nil (VS_ret ?_)))))
   exact Bd.now ⟨_, rfl, congrArg PV.bool (decide_eq_true (list_ext_nth (by omega) fun j hj => g1 j (by omega))).symm⟩
end Go.V
