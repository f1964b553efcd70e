/- A part of the proofs about laws of the page tree (see the text that bears the law): a small language of steps, its rules, and what the functions of the program return. -/
import Derived.Test.YtgblkaealpggdaaWKbn
import Derived.Test.YtgblkaealpggdaaQT
set_option linter.all false
set_option linter.unusedVariables false
set_option linter.unusedSimpArgs false
set_option maxHeartbeats 4000000
namespace Go.V
open Go.Proofs.Try (prog)
theorem zcm (os : List Nat) : ∀ i, i < 0 → os[i]? = some i := fun i hi => absurd hi (Nat.not_lt_zero i)
set_option maxRecDepth 100000
theorem sl_impl_ValidOps : slimF prog 17 = some (41, (.seq (.reg 0 (.o 2 (.mv (.c (.pv (.bool false)))) .nil)) (.seq (.seq (.reg 0 (.o 5 (.mv (.t 0)) (.o 6 (.len (.t 5)) (.o 7 (.bin .gtr (.t 6) (.c (.pv (.int .i64 4)))) .nil)))) (.cond (.t 7) (.seq (.reg 0 (.o 2 (.mv (.c (.pv (.bool false)))) .nil)) .ret) .skip)) (.seq (.seq (.reg 0 (.o 8 (.mv (.t 0)) (.o 9 (.len (.t 8)) (.o 10 (.mv (.c (.pv (.int .i64 0)))) .nil)))) (.block 0 (.loop (.seq (.reg 0 (.o 11 (.bin .lss (.t 10) (.t 9)) .nil)) (.seq (.cond (.t 11) .skip (.exit 0)) (.seq (.block 1 (.seq (.reg 0 (.o 12 (.idx 3 (.t 8) (.t 10)) (.o 13 (.load 3 true (.t 12)) (.o 4 (.alloc 36 3 (.agg [.pv (.int .i64 0), .pv (.int .i64 0), .pv (.int .i64 0)])) (.op ⟨none, none, .store 3 (.t 4) (.t 13)⟩ .nil))))) (.seq (.seq (.reg 0 (.o 14 (.fld 0 1 false (.t 4)) (.o 15 (.load 1 false (.t 14)) (.o 16 (.bin .neq (.t 15) (.c (.pv (.int .i64 0)))) (.o 17 (.mv (.t 16)) (.g 18 17 true (.fld 0 1 false (.t 4)) (.g 19 17 true (.load 1 false (.t 18)) (.g 20 17 true (.bin .neq (.t 19) (.c (.pv (.int .i64 1)))) (.o 21 (.pick (.t 17) (.t 20) (.c (.pv (.bool false)))) .nil))))))))) (.cond (.t 21) (.seq (.reg 0 (.o 2 (.mv (.c (.pv (.bool false)))) .nil)) .ret) .skip)) (.seq (.seq (.reg 0 (.o 22 (.fld 1 1 false (.t 4)) (.o 23 (.load 1 false (.t 22)) (.o 24 (.call 43 [.t 23]) (.o 25 (.not (.t 24)) (.o 26 (.mv (.t 25)) (.g 27 26 false (.fld 2 1 false (.t 4)) (.g 28 26 false (.load 1 false (.t 27)) (.g 29 26 false (.call 44 [.t 28]) (.g 30 26 false (.not (.t 29)) (.o 31 (.pick (.t 26) (.c (.pv (.bool true))) (.t 30)) .nil))))))))))) (.cond (.t 31) (.seq (.reg 0 (.o 2 (.mv (.c (.pv (.bool false)))) .nil)) .ret) .skip)) (.seq (.reg 0 (.o 32 (.fld 0 1 false (.t 4)) (.o 33 (.load 1 false (.t 32)) (.o 34 (.bin .eql (.t 33) (.c (.pv (.int .i64 0)))) (.o 35 (.mv (.t 34)) (.g 36 35 true (.fld 2 1 false (.t 4)) (.g 37 35 true (.load 1 false (.t 36)) (.g 38 35 true (.bin .neq (.t 37) (.c (.pv (.int .i64 0)))) (.o 39 (.pick (.t 35) (.t 38) (.c (.pv (.bool false)))) .nil))))))))) (.cond (.t 39) (.seq (.reg 0 (.o 2 (.mv (.c (.pv (.bool false)))) .nil)) .ret) .skip)))))) (.reg 0 (.o 40 (.bin .add (.t 10) (.c (.pv (.int .i64 1)))) (.o 10 (.mv (.t 40)) .nil))))))))) (.seq (.reg 0 (.o 2 (.mv (.c (.pv (.bool true)))) .nil)) .ret))), [.t 2])) := by kernel_rfl
theorem c_impl_ValidOps (xs : List Op3) (hl : xs.length ≤ 1000000) : PCon prog 17 [ops xs] (fun p => p = .bool (okOps xs)) := by
 refine con_of_VS sl_impl_ValidOps (by simp) (VS_seq (VS_r0 rfl (q_mv rfl (rg_nil (VS_seq (VS_seq (VS_r0 rfl (q_mv rfl (q_len_m rfl (q_gtr rfl rfl (rg_nil ?_)))))))))))
 refine VS_cond rfl (fun c0 => ?_) (fun c0 => ?_)
 ·try simp at c0
  refine VS_seq (VS_r0 rfl (q_mv rfl (rg_nil (VS_ret ?_))))
  refine Bd.now ⟨_, rfl, congrArg PV.bool (ops_long (by omega)).symm⟩
 ·try simp at c0
  refine VS_skip (VS_seq (VS_seq (VS_r0 rfl (q_mv rfl (q_len_m rfl (q_mv rfl (rg_nil (VS_block ?_))))))))
  refine VS_bd (Bd.keepL [(8, .pv (ops xs)), (9, .pv (i64 xs.length)), (10, .pv (i64 0))] ⟨rfl, rfl, rfl, trivial⟩ ?_)
  refine VS_loop (fun mz E S => ∃ i : Nat, mz = xs.length - i ∧ (i ≤ xs.length) ∧ (∀ j, j < i → okO (nth xs j) = true) ∧ E = env [(8, .pv (ops xs)), (9, .pv (i64 xs.length)), (10, .pv (i64 i))] ∧ S = []) ⟨_, 0, rfl, (by omega), (by omega), rfl, rfl⟩ ?_
  rintro mz _ _ ⟨i, hmeas, g0, g1, rfl, rfl⟩
  refine VS_seq (VS_r0 rfl (q_lss rfl rfl (rg_nil (VS_seq ?_))))
  refine VS_cond rfl (fun c1 => ?_) (fun c1 => ?_)
  ·try simp at c1
   refine VS_skip (VS_seq (VS_block (VS_seq (VS_r0 rfl (q_idx_m (f := opP) (xs := xs) (n := (i : Int)) rfl rfl (by omega) (by omega) (fun _ => rfl) ?_)))))
   rw [Int.toNat_natCast]
   refine q_load_c rfl rfl rfl (q_alloc trivial (q_store rfl rfl rfl rfl rfl rfl ⟨rfl, rfl, by simp, rfl, by simp [isOne]⟩ rfl trivial (rg_nil (VS_seq (VS_seq (VS_r0 rfl (q_fld_r rfl (q_load_r rfl rfl rfl rfl rfl rfl rfl (q_neq rfl rfl (q_mv rfl ?_))))))))))
   refine q_b rfl (fun g17 => ?_) (fun g17 => ?_)
   ·try simp at g17
    refine q_t rfl (q_fld_r rfl (q_t rfl (q_load_r rfl rfl rfl rfl rfl rfl rfl (q_t rfl (q_neq rfl rfl (q_pick_t rfl rfl (rg_nil ?_)))))))
    refine VS_cond rfl (fun c2 => ?_) (fun c2 => ?_)
    ·try simp at c2
     refine VS_seq (VS_r0 rfl (q_mv rfl (rg_nil (VS_ret ?_))))
     refine Bd.now ⟨_, rfl, congrArg PV.bool (ops_no (i := i) (by omega) ?_).symm⟩
     omega
    ·try simp at c2
     refine VS_skip (VS_seq (VS_seq (VS_r0 rfl (q_fld_r rfl (q_load_r rfl rfl rfl rfl rfl rfl rfl (q_callp (c_impl_isKey _) rfl trivial (q_not rfl (q_mv rfl ?_))))))))
     refine q_b rfl (fun g26 => ?_) (fun g26 => ?_)
     ·try simp at g26
      refine q_t rfl (q_fld_r rfl (q_t rfl (q_load_r rfl rfl rfl rfl rfl rfl rfl (q_t rfl (q_callp (c_impl_isValue _) rfl trivial (q_t rfl (q_not rfl (q_pick_f rfl rfl (rg_nil ?_)))))))))
      refine VS_cond rfl (fun c3 => ?_) (fun c3 => ?_)
      ·try simp at c3
       refine VS_seq (VS_r0 rfl (q_mv rfl (rg_nil (VS_ret ?_))))
       refine Bd.now ⟨_, rfl, congrArg PV.bool (ops_no (i := i) (by omega) ?_).symm⟩
       omega
      ·try simp at c3
       refine VS_skip (VS_seq (VS_r0 rfl (q_fld_r rfl (q_load_r rfl rfl rfl rfl rfl rfl rfl (q_eql rfl rfl (q_mv rfl ?_))))))
       refine q_b rfl (fun g35 => ?_) (fun g35 => ?_)
       ·try simp at g35
        refine q_t rfl (q_fld_r rfl (q_t rfl (q_load_r rfl rfl rfl rfl rfl rfl rfl (q_t rfl (q_neq rfl rfl (q_pick_t rfl rfl (rg_nil ?_)))))))
        refine VS_cond rfl (fun c4 => ?_) (fun c4 => ?_)
        ·try simp at c4
         refine VS_seq (VS_r0 rfl (q_mv rfl (rg_nil (VS_ret ?_))))
         refine Bd.now ⟨_, rfl, congrArg PV.bool (ops_no (i := i) (by omega) ?_).symm⟩
         omega
        ·try simp at c4
         refine VS_skip (VS_r0 rfl (q_add rfl rfl (inR64 (by omega)) (q_mv rfl (rg_nil ?_))))
         refine Bd.renL [] (zcm _) (by simp) [(8, .pv (ops xs)), (9, .pv (i64 xs.length)), (10, .pv (i64 (i + 1)))] ⟨rfl, rfl, rfl, trivial⟩ rfl ⟨_, ?_, i + 1, rfl, ?_, ?_, rfl, rfl⟩
         ·omega
         ·omega
         ·intro j hj
          by_cases e : j = i
          ·subst e; exact okO_iff.2 (by refine ⟨?_, ?_, ?_, ?_⟩ <;> (first | omega | (simp at *; omega) | (simp_all; done) | (simp_all; omega)))
          ·exact g1 j (by omega)
       ·try simp at g35
        refine q_f rfl (q_f rfl (q_f rfl (q_pick_f rfl rfl (rg_nil ?_))))
        refine VS_cond rfl (fun e => by cases e) (fun _ => ?_)
        refine VS_skip (VS_r0 rfl (q_add rfl rfl (inR64 (by omega)) (q_mv rfl (rg_nil ?_))))
        refine Bd.renL [] (zcm _) (by simp) [(8, .pv (ops xs)), (9, .pv (i64 xs.length)), (10, .pv (i64 (i + 1)))] ⟨rfl, rfl, rfl, trivial⟩ rfl ⟨_, ?_, i + 1, rfl, ?_, ?_, rfl, rfl⟩
        ·omega
        ·omega
        ·intro j hj
         by_cases e : j = i
         ·subst e; exact okO_iff.2 (by refine ⟨?_, ?_, ?_, ?_⟩ <;> (first | omega | (simp at *; omega) | (simp_all; done) | (simp_all; omega)))
         ·exact g1 j (by omega)
     ·try simp at g26
      refine q_f rfl (q_f rfl (q_f rfl (q_f rfl (q_pick_t rfl rfl (rg_nil ?_)))))
      refine VS_cond rfl (fun _ => ?_) (fun e => by cases e)
      refine VS_seq (VS_r0 rfl (q_mv rfl (rg_nil (VS_ret ?_))))
      refine Bd.now ⟨_, rfl, congrArg PV.bool (ops_no (i := i) (by omega) ?_).symm⟩
      omega
   ·try simp at g17
    refine q_f rfl (q_f rfl (q_f rfl (q_pick_f rfl rfl (rg_nil ?_))))
    refine VS_cond rfl (fun e => by cases e) (fun _ => ?_)
    refine VS_skip (VS_seq (VS_seq (VS_r0 rfl (q_fld_r rfl (q_load_r rfl rfl rfl rfl rfl rfl rfl (q_callp (c_impl_isKey _) rfl trivial (q_not rfl (q_mv rfl ?_))))))))
    refine q_b rfl (fun g26 => ?_) (fun g26 => ?_)
    ·try simp at g26
     refine q_t rfl (q_fld_r rfl (q_t rfl (q_load_r rfl rfl rfl rfl rfl rfl rfl (q_t rfl (q_callp (c_impl_isValue _) rfl trivial (q_t rfl (q_not rfl (q_pick_f rfl rfl (rg_nil ?_)))))))))
     refine VS_cond rfl (fun c3 => ?_) (fun c3 => ?_)
     ·try simp at c3
      refine VS_seq (VS_r0 rfl (q_mv rfl (rg_nil (VS_ret ?_))))
      refine Bd.now ⟨_, rfl, congrArg PV.bool (ops_no (i := i) (by omega) ?_).symm⟩
      omega
     ·try simp at c3
      refine VS_skip (VS_seq (VS_r0 rfl (q_fld_r rfl (q_load_r rfl rfl rfl rfl rfl rfl rfl (q_eql rfl rfl (q_mv rfl ?_))))))
      refine q_b rfl (fun g35 => ?_) (fun g35 => ?_)
      ·try simp at g35
       refine q_t rfl (q_fld_r rfl (q_t rfl (q_load_r rfl rfl rfl rfl rfl rfl rfl (q_t rfl (q_neq rfl rfl (q_pick_t rfl rfl (rg_nil ?_)))))))
       refine VS_cond rfl (fun c4 => ?_) (fun c4 => ?_)
       ·try simp at c4
        refine VS_seq (VS_r0 rfl (q_mv rfl (rg_nil (VS_ret ?_))))
        refine Bd.now ⟨_, rfl, congrArg PV.bool (ops_no (i := i) (by omega) ?_).symm⟩
        omega
       ·try simp at c4
        refine VS_skip (VS_r0 rfl (q_add rfl rfl (inR64 (by omega)) (q_mv rfl (rg_nil ?_))))
        refine Bd.renL [] (zcm _) (by simp) [(8, .pv (ops xs)), (9, .pv (i64 xs.length)), (10, .pv (i64 (i + 1)))] ⟨rfl, rfl, rfl, trivial⟩ rfl ⟨_, ?_, i + 1, rfl, ?_, ?_, rfl, rfl⟩
        ·omega
        ·omega
        ·intro j hj
         by_cases e : j = i
         ·subst e; exact okO_iff.2 (by refine ⟨?_, ?_, ?_, ?_⟩ <;> (first | omega | (simp at *; omega) | (simp_all; done) | (simp_all; omega)))
         ·exact g1 j (by omega)
      ·try simp at g35
       refine q_f rfl (q_f rfl (q_f rfl (q_pick_f rfl rfl (rg_nil ?_))))
       refine VS_cond rfl (fun e => by cases e) (fun _ => ?_)
       refine VS_skip (VS_r0 rfl (q_add rfl rfl (inR64 (by omega)) (q_mv rfl (rg_nil ?_))))
       refine Bd.renL [] (zcm _) (by simp) [(8, .pv (ops xs)), (9, .pv (i64 xs.length)), (10, .pv (i64 (i + 1)))] ⟨rfl, rfl, rfl, trivial⟩ rfl ⟨_, ?_, i + 1, rfl, ?_, ?_, rfl, rfl⟩
       ·omega
       ·omega
       ·intro j hj
        by_cases e : j = i
        ·subst e; exact okO_iff.2 (by refine ⟨?_, ?_, ?_, ?_⟩ <;> (first | omega | (simp at *; omega) | (simp_all; done) | (simp_all; omega)))
        ·exact g1 j (by omega)
    ·try simp at g26
     refine q_f rfl (q_f rfl (q_f rfl (q_f rfl (q_pick_t rfl rfl (rg_nil ?_)))))
     refine VS_cond rfl (fun _ => ?_) (fun e => by cases e)
     refine VS_seq (VS_r0 rfl (q_mv rfl (rg_nil (VS_ret ?_))))
     refine Bd.now ⟨_, rfl, congrArg PV.bool (ops_no (i := i) (by omega) ?_).symm⟩
     omega
  ·try simp at c1
   refine VS_exit (VS_seq (VS_r0 rfl (q_mv rfl (rg_nil (VS_ret ?_)))))
   refine Bd.now ⟨_, rfl, congrArg PV.bool ?_⟩
   rw [ops_all (fun j hj => g1 j (by omega))]
   exact (decide_eq_true (by omega)).symm
theorem sl_spec_validOps : slimF prog 45 = some (54, (.seq (.reg 0 (.o 2 (.mv (.c (.pv (.bool false)))) .nil)) (.seq (.seq (.reg 0 (.o 3 (.mv (.c (.pv (.int .i64 0)))) .nil)) (.block 0 (.loop (.seq (.seq (.reg 0 (.o 4 (.mv (.t 3)) (.o 5 (.mv (.t 0)) (.o 6 (.len (.t 5)) (.o 7 (.bin .lss (.t 4) (.t 6)) .nil))))) (.cond (.t 7) .skip (.exit 0))) (.seq (.block 1 (.seq (.reg 0 (.o 10 (.mv (.t 0)) (.o 11 (.mv (.t 3)) (.o 12 (.idx 3 (.t 10) (.t 11)) (.o 13 (.fld 0 1 false (.t 12)) (.o 14 (.load 1 false (.t 13)) (.o 15 (.call 50 [.t 14, .c (.pv (.int .i64 0)), .c (.pv (.int .i64 1))]) (.o 16 (.not (.t 15)) (.o 17 (.mv (.t 16)) (.g 18 17 false (.mv (.t 0)) (.g 19 17 false (.mv (.t 3)) (.g 20 17 false (.idx 3 (.t 18) (.t 19)) (.g 21 17 false (.fld 1 1 false (.t 20)) (.g 22 17 false (.load 1 false (.t 21)) (.g 23 17 false (.call 50 [.t 22, .c (.pv (.int .i64 0)), .c (.pv (.int .i64 99))]) (.g 24 17 false (.not (.t 23)) (.o 25 (.pick (.t 17) (.c (.pv (.bool true))) (.t 24)) (.o 26 (.mv (.t 25)) (.g 27 26 false (.mv (.t 0)) (.g 28 26 false (.mv (.t 3)) (.g 29 26 false (.idx 3 (.t 27) (.t 28)) (.g 30 26 false (.fld 2 1 false (.t 29)) (.g 31 26 false (.load 1 false (.t 30)) (.g 32 26 false (.call 50 [.t 31, .c (.pv (.int .i64 (-1000))), .c (.pv (.int .i64 1000))]) (.g 33 26 false (.not (.t 32)) (.o 34 (.pick (.t 26) (.c (.pv (.bool true))) (.t 33)) (.o 35 (.mv (.t 34)) (.g 36 35 false (.mv (.t 0)) (.g 37 35 false (.mv (.t 3)) (.g 38 35 false (.idx 3 (.t 36) (.t 37)) (.g 39 35 false (.fld 0 1 false (.t 38)) (.g 40 35 false (.load 1 false (.t 39)) (.g 41 35 false (.bin .eql (.t 40) (.c (.pv (.int .i64 0)))) (.g 42 35 false (.mv (.t 41)) (.g 43 42 true (.mv (.t 0)) (.g 44 42 true (.mv (.t 3)) (.g 45 42 true (.idx 3 (.t 43) (.t 44)) (.g 46 42 true (.fld 2 1 false (.t 45)) (.g 47 42 true (.load 1 false (.t 46)) (.g 48 42 true (.bin .neq (.t 47) (.c (.pv (.int .i64 0)))) (.g 49 35 false (.pick (.t 42) (.t 48) (.c (.pv (.bool false)))) (.o 50 (.pick (.t 35) (.c (.pv (.bool true))) (.t 49)) .nil)))))))))))))))))))))))))))))))))))))))))) (.cond (.t 50) (.seq (.reg 0 (.o 2 (.mv (.c (.pv (.bool false)))) .nil)) .ret) .skip))) (.reg 0 (.o 8 (.mv (.t 3)) (.o 9 (.bin .add (.t 8) (.c (.pv (.int .i64 1)))) (.o 3 (.mv (.t 9)) .nil))))))))) (.seq (.reg 0 (.o 51 (.mv (.t 0)) (.o 52 (.len (.t 51)) (.o 53 (.bin .leq (.t 52) (.c (.pv (.int .i64 4)))) (.o 2 (.mv (.t 53)) .nil))))) .ret)), [.t 2])) := by kernel_rfl
theorem c_spec_validOps (xs : List Op3) (hl : xs.length ≤ 1000000) : PCon prog 45 [ops xs] (fun p => p = .bool (okOps xs)) := by
 refine con_of_VS sl_spec_validOps (by simp) (VS_seq (VS_r0 rfl (q_mv rfl (rg_nil (VS_seq (VS_seq (VS_r0 rfl (q_mv rfl (rg_nil (VS_block ?_))))))))))
 refine VS_bd (Bd.keepL [(0, .pv (ops xs)), (3, .pv (i64 0))] ⟨rfl, rfl, trivial⟩ ?_)
 refine VS_loop (fun mz E S => ∃ i : Nat, mz = xs.length - i ∧ (i ≤ xs.length) ∧ (∀ j, j < i → okO (nth xs j) = true) ∧ E = env [(0, .pv (ops xs)), (3, .pv (i64 i))] ∧ S = []) ⟨_, 0, rfl, (by omega), (by omega), rfl, rfl⟩ ?_
 rintro mz _ _ ⟨i, hmeas, g0, g1, rfl, rfl⟩
 refine VS_seq (VS_seq (VS_r0 rfl (q_mv rfl (q_mv rfl (q_len_m rfl (q_lss rfl rfl (rg_nil ?_)))))))
 refine VS_cond rfl (fun c0 => ?_) (fun c0 => ?_)
 ·try simp at c0
  refine VS_skip (VS_seq (VS_block (VS_seq (VS_r0 rfl (q_mv rfl (q_mv rfl (q_idx_m (f := opP) (xs := xs) (n := (i : Int)) rfl rfl (by omega) (by omega) (fun _ => rfl) ?_)))))))
  rw [Int.toNat_natCast]
  refine q_fld_c rfl rfl (q_load_c rfl rfl rfl (q_callp (c_spec_inRange _ _ _) rfl trivial (q_not rfl (q_mv rfl ?_))))
  refine q_b rfl (fun g17 => ?_) (fun g17 => ?_)
  ·try simp at g17
   refine q_t rfl (q_mv rfl (q_t rfl (q_mv rfl (q_t rfl (q_idx_m (f := opP) (xs := xs) (n := (i : Int)) rfl rfl (by omega) (by omega) (fun _ => rfl) ?_)))))
   rw [Int.toNat_natCast]
   refine q_t rfl (q_fld_c rfl rfl (q_t rfl (q_load_c rfl rfl rfl (q_t rfl (q_callp (c_spec_inRange _ _ _) rfl trivial (q_t rfl (q_not rfl (q_pick_f rfl rfl (q_mv rfl ?_)))))))))
   refine q_b rfl (fun g26 => ?_) (fun g26 => ?_)
   ·try simp at g26
    refine q_t rfl (q_mv rfl (q_t rfl (q_mv rfl (q_t rfl (q_idx_m (f := opP) (xs := xs) (n := (i : Int)) rfl rfl (by omega) (by omega) (fun _ => rfl) ?_)))))
    rw [Int.toNat_natCast]
    refine q_t rfl (q_fld_c rfl rfl (q_t rfl (q_load_c rfl rfl rfl (q_t rfl (q_callp (c_spec_inRange _ _ _) rfl trivial (q_t rfl (q_not rfl (q_pick_f rfl rfl (q_mv rfl ?_)))))))))
    refine q_b rfl (fun g35 => ?_) (fun g35 => ?_)
    ·try simp at g35
     refine q_t rfl (q_mv rfl (q_t rfl (q_mv rfl (q_t rfl (q_idx_m (f := opP) (xs := xs) (n := (i : Int)) rfl rfl (by omega) (by omega) (fun _ => rfl) ?_)))))
     rw [Int.toNat_natCast]
     refine q_t rfl (q_fld_c rfl rfl (q_t rfl (q_load_c rfl rfl rfl (q_t rfl (q_eql rfl rfl (q_t rfl (q_mv rfl ?_)))))))
     refine q_b rfl (fun g42 => ?_) (fun g42 => ?_)
     ·try simp at g42
      refine q_t rfl (q_mv rfl (q_t rfl (q_mv rfl (q_t rfl (q_idx_m (f := opP) (xs := xs) (n := (i : Int)) rfl rfl (by omega) (by omega) (fun _ => rfl) ?_)))))
      rw [Int.toNat_natCast]
      refine q_t rfl (q_fld_c rfl rfl (q_t rfl (q_load_c rfl rfl rfl (q_t rfl (q_neq rfl rfl (q_t rfl (q_pick_t rfl rfl (q_pick_f rfl rfl (rg_nil ?_)))))))))
      refine VS_cond rfl (fun c1 => ?_) (fun c1 => ?_)
      ·try simp at c1
       refine VS_seq (VS_r0 rfl (q_mv rfl (rg_nil (VS_ret ?_))))
       refine Bd.now ⟨_, rfl, congrArg PV.bool (ops_no (i := i) (by omega) ?_).symm⟩
       omega
      ·try simp at c1
       refine VS_skip (VS_r0 rfl (q_mv rfl (q_add rfl rfl (inR64 (by omega)) (q_mv rfl (rg_nil ?_)))))
       refine Bd.keepL [(0, .pv (ops xs)), (3, .pv (i64 (i + 1)))] ⟨rfl, rfl, trivial⟩ ⟨_, ?_, i + 1, rfl, ?_, ?_, rfl, rfl⟩
       ·omega
       ·omega
       ·intro j hj
        by_cases e : j = i
        ·subst e; exact okO_iff.2 (by refine ⟨?_, ?_, ?_, ?_⟩ <;> (first | omega | (simp at *; omega) | (simp_all; done) | (simp_all; omega)))
        ·exact g1 j (by omega)
     ·try simp at g42
      refine q_f rfl (q_f rfl (q_f rfl (q_f rfl (q_f rfl (q_f rfl (q_t rfl (q_pick_f rfl rfl (q_pick_f rfl rfl (rg_nil ?_)))))))))
      refine VS_cond rfl (fun e => by cases e) (fun _ => ?_)
      refine VS_skip (VS_r0 rfl (q_mv rfl (q_add rfl rfl (inR64 (by omega)) (q_mv rfl (rg_nil ?_)))))
      refine Bd.keepL [(0, .pv (ops xs)), (3, .pv (i64 (i + 1)))] ⟨rfl, rfl, trivial⟩ ⟨_, ?_, i + 1, rfl, ?_, ?_, rfl, rfl⟩
      ·omega
      ·omega
      ·intro j hj
       by_cases e : j = i
       ·subst e; exact okO_iff.2 (by refine ⟨?_, ?_, ?_, ?_⟩ <;> (first | omega | (simp at *; omega) | (simp_all; done) | (simp_all; omega)))
       ·exact g1 j (by omega)
    ·try simp at g35
     refine q_f rfl (q_f rfl (q_f rfl (q_f rfl (q_f rfl (q_f rfl (q_f rfl (q_u rfl (q_u rfl (q_u rfl (q_u rfl (q_u rfl (q_u rfl (q_f rfl (q_pick_t rfl rfl (rg_nil ?_)))))))))))))))
     refine VS_cond rfl (fun _ => ?_) (fun e => by cases e)
     refine VS_seq (VS_r0 rfl (q_mv rfl (rg_nil (VS_ret ?_))))
     refine Bd.now ⟨_, rfl, congrArg PV.bool (ops_no (i := i) (by omega) ?_).symm⟩
     omega
   ·try simp at g26
    refine q_f rfl (q_f rfl (q_f rfl (q_f rfl (q_f rfl (q_f rfl (q_f rfl (q_pick_t rfl rfl (q_mv rfl (q_f rfl (q_f rfl (q_f rfl (q_f rfl (q_f rfl (q_f rfl (q_f rfl ?_)))))))))))))))
    refine q_u rfl (q_u rfl (q_u rfl (q_u rfl (q_u rfl (q_u rfl (q_f rfl (q_pick_t rfl rfl (rg_nil ?_))))))))
    refine VS_cond rfl (fun _ => ?_) (fun e => by cases e)
    refine VS_seq (VS_r0 rfl (q_mv rfl (rg_nil (VS_ret ?_))))
    refine Bd.now ⟨_, rfl, congrArg PV.bool (ops_no (i := i) (by omega) ?_).symm⟩
    omega
  ·try simp at g17
   refine q_f rfl (q_f rfl (q_f rfl (q_f rfl (q_f rfl (q_f rfl (q_f rfl (q_pick_t rfl rfl (q_mv rfl (q_f rfl (q_f rfl (q_f rfl (q_f rfl (q_f rfl (q_f rfl (q_f rfl ?_)))))))))))))))
   refine q_pick_t rfl rfl (q_mv rfl (q_f rfl (q_f rfl (q_f rfl (q_f rfl (q_f rfl (q_f rfl (q_f rfl (q_u rfl (q_u rfl (q_u rfl (q_u rfl (q_u rfl (q_u rfl (q_f rfl ?_)))))))))))))))
   refine q_pick_t rfl rfl (rg_nil ?_)
   refine VS_cond rfl (fun _ => ?_) (fun e => by cases e)
   refine VS_seq (VS_r0 rfl (q_mv rfl (rg_nil (VS_ret ?_))))
   refine Bd.now ⟨_, rfl, congrArg PV.bool (ops_no (i := i) (by omega) ?_).symm⟩
   omega
 ·try simp at c0
  refine VS_exit (VS_seq (VS_r0 rfl (q_mv rfl (q_len_m rfl (q_leq rfl rfl (q_mv rfl (rg_nil (VS_ret ?_))))))))
  refine Bd.now ⟨_, rfl, congrArg PV.bool ?_⟩
  rw [ops_all (fun j hj => g1 j (by omega))]
theorem sl_spec_ValidOps : slimF prog 18 = some (5, (.seq (.reg 0 (.o 2 (.mv (.c (.pv (.bool false)))) .nil)) (.seq (.reg 0 (.o 3 (.mv (.t 0)) (.o 4 (.call 45 [.t 3]) (.o 2 (.mv (.t 4)) .nil)))) .ret), [.t 2])) := by kernel_rfl
theorem c_spec_ValidOps (xs : List Op3) (hl : xs.length ≤ 1000000) : PCon prog 18 [ops xs] (fun p => p = .bool (okOps xs)) := by
 refine con_of_VS sl_spec_ValidOps (by simp) (VS_seq (VS_r0 rfl (q_mv rfl (rg_nil (VS_seq (VS_r0 rfl (q_mv rfl (q_callp (c_spec_validOps xs hl) rfl trivial (q_mv rfl (rg_nil (VS_ret ?_)))))))))))
 exact Bd.now ⟨_, rfl, rfl⟩
end Go.V
