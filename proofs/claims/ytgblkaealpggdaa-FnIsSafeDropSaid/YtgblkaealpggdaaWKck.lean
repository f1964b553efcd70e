/- A part of the proofs about laws of the page tree (see the text that bears the law): a small language of steps, its rules, and what the functions of the program return. -/
import Derived.Test.YtgblkaealpggdaaWKbn
import Derived.Test.YtgblkaealpggdaaQT
set_option linter.all false
set_option linter.unusedVariables false
set_option linter.unusedSimpArgs false
set_option maxHeartbeats 4000000
namespace Go.V
open Go.Proofs.Try (prog)
set_option maxRecDepth 100000
theorem sl_impl_IsSafe : slimF prog 20 = some (56, (.seq (.reg 0 (.o 3 (.box 39 2 (.t 0)) (.o 6 (.mv (.c (.pv (.bool false)))) .nil))) (.seq (.seq (.reg 0 (.o 8 (.load 2 true (.t 3)) (.o 9 (.call 22 [.t 8]) (.o 10 (.not (.t 9)) (.o 11 (.mv (.t 10)) (.g 12 11 false (.mv (.t 1)) (.g 13 11 false (.bin .lss (.t 12) (.c (.pv (.int .i64 0)))) (.o 14 (.pick (.t 11) (.c (.pv (.bool true))) (.t 13)) (.o 15 (.mv (.t 14)) (.g 16 15 false (.mv (.t 1)) (.g 17 15 false (.fld 1 1 false (.t 3)) (.g 18 15 false (.load 1 false (.t 17)) (.g 19 15 false (.len (.t 18)) (.g 20 15 false (.bin .geq (.t 16) (.t 19)) (.o 21 (.pick (.t 15) (.c (.pv (.bool true))) (.t 20)) .nil))))))))))))))) (.cond (.t 21) (.seq (.reg 0 (.o 6 (.mv (.c (.pv (.bool false)))) .nil)) .ret) .skip)) (.seq (.reg 0 (.o 22 (.fld 1 1 false (.t 3)) (.o 23 (.load 1 false (.t 22)) (.o 24 (.mv (.t 1)) (.o 25 (.idx 3 (.t 23) (.t 24)) (.o 26 (.load 3 true (.t 25)) (.o 7 (.alloc 25 3 (.agg [.nils, .nils, .nils])) (.op ⟨none, none, .store 3 (.t 7) (.t 26)⟩ .nil)))))))) (.seq (.seq (.reg 0 (.o 27 (.mv (.t 2)) .nil)) (.block 0 (.seq (.reg 0 (.o 29 (.bin .eql (.t 27) (.c (.pv (.int .i64 0)))) (.o 28 (.mv (.t 29)) .nil))) (.cond (.t 28) (.seq (.reg 0 (.o 6 (.mv (.c (.pv (.bool true)))) .nil)) .ret) (.seq (.reg 0 (.o 31 (.bin .eql (.t 27) (.c (.pv (.int .i64 1)))) (.o 30 (.mv (.t 31)) .nil))) (.cond (.t 30) (.seq (.reg 0 (.o 32 (.fld 0 1 false (.t 7)) (.o 33 (.load 1 false (.t 32)) (.o 34 (.len (.t 33)) (.o 35 (.bin .lss (.t 34) (.c (.pv (.int .i64 4)))) (.o 6 (.mv (.t 35)) .nil)))))) .ret) (.seq (.reg 0 (.o 37 (.bin .eql (.t 27) (.c (.pv (.int .i64 2)))) (.o 36 (.mv (.t 37)) .nil))) (.cond (.t 36) (.seq (.seq (.reg 0 (.o 38 (.mv (.t 1)) (.o 39 (.fld 0 1 false (.t 3)) (.o 40 (.load 1 false (.t 39)) (.o 41 (.bin .eql (.t 38) (.t 40)) .nil))))) (.cond (.t 41) (.seq (.reg 0 (.o 42 (.fld 1 1 false (.t 7)) (.o 43 (.load 1 false (.t 42)) (.o 44 (.len (.t 43)) (.o 45 (.bin .eql (.t 44) (.c (.pv (.int .i64 0)))) (.o 46 (.mv (.t 45)) (.g 47 46 false (.fld 0 1 false (.t 7)) (.g 48 46 false (.load 1 false (.t 47)) (.g 49 46 false (.len (.t 48)) (.g 50 46 false (.bin .gtr (.t 49) (.c (.pv (.int .i64 1)))) (.o 51 (.pick (.t 46) (.c (.pv (.bool true))) (.t 50)) (.o 6 (.mv (.t 51)) .nil)))))))))))) .ret) .skip)) (.seq (.reg 0 (.o 52 (.fld 0 1 false (.t 7)) (.o 53 (.load 1 false (.t 52)) (.o 54 (.len (.t 53)) (.o 55 (.bin .gtr (.t 54) (.c (.pv (.int .i64 2)))) (.o 6 (.mv (.t 55)) .nil)))))) .ret)) .skip)))))))) (.seq (.reg 0 (.o 6 (.mv (.c (.pv (.bool false)))) .nil)) .ret)))), [.t 6])) := by kernel_rfl
theorem c_impl_IsSafe (t : Pt) (hs : smallT t) (i k : Int) : PCon prog 20 [ptP t, i64 i, i64 k] (fun p => p = .bool (safeB t i k)) := by
 refine con_of_VS sl_impl_IsSafe (by simp) (VS_seq (VS_r0 rfl (q_box rfl rfl rfl trivial (q_mv rfl (rg_nil (VS_seq (VS_seq (VS_r0 rfl (q_load_ra rfl rfl rfl rfl rfl (by (simp; done)) rfl (q_callp (c_impl_ValidTree t hs) rfl trivial (q_not rfl (q_mv rfl ?_))))))))))))
 refine q_b rfl (fun g11 => ?_) (fun g11 => ?_)
 ·try simp at g11
  refine q_t rfl (q_mv rfl (q_t rfl (q_lss rfl rfl (q_pick_f rfl rfl (q_mv rfl ?_)))))
  refine q_b rfl (fun g15 => ?_) (fun g15 => ?_)
  ·try simp at g15
   refine q_t rfl (q_mv rfl (q_t rfl (q_fld_r rfl (q_t rfl (q_load_r rfl rfl rfl rfl rfl rfl rfl (q_t rfl (q_len_m rfl (q_t rfl (q_geq rfl rfl (q_pick_f rfl rfl (rg_nil ?_)))))))))))
   refine VS_cond rfl (fun c0 => ?_) (fun c0 => ?_)
   ·try simp at c0
    refine VS_seq (VS_r0 rfl (q_mv rfl (rg_nil (VS_ret ?_))))
    refine Bd.now ⟨_, rfl, congrArg PV.bool ?_⟩
    refine (safe_bad ?_).symm
    (refine .inr ?_; omega)
   ·try simp at c0
    have hv : validT t = true := by simpa using g11
    have hr : 0 ≤ i ∧ i < t.ps.length := by omega
    refine VS_skip (VS_seq (VS_r0 rfl (q_fld_r rfl (q_load_r rfl rfl rfl rfl rfl rfl rfl (q_mv rfl (q_idx_m (f := pgP) (xs := t.ps) (n := i) rfl rfl (by omega) (by omega) (fun _ => rfl) (q_load_c rfl rfl rfl (q_alloc trivial (q_store rfl rfl rfl rfl rfl rfl ⟨rfl, rfl, by simp, rfl, by simp [isOne]⟩ rfl trivial (rg_nil (VS_seq (VS_seq (VS_r0 rfl (q_mv rfl (rg_nil ?_)))))))))))))))
    refine VS_block (VS_seq (VS_r0 rfl (q_eql rfl rfl (q_mv rfl (rg_nil ?_)))))
    refine VS_cond rfl (fun c1 => ?_) (fun c1 => ?_)
    ·try simp at c1
     refine VS_seq (VS_r0 rfl (q_mv rfl (rg_nil (VS_ret ?_))))
     refine Bd.now ⟨_, rfl, congrArg PV.bool ?_⟩
     have e : k = 0 := by first | exact c1 | omega
     rw [e, safe_get hv hr]
    ·try simp at c1
     refine VS_seq (VS_r0 rfl (q_eql rfl rfl (q_mv rfl (rg_nil ?_))))
     refine VS_cond rfl (fun c2 => ?_) (fun c2 => ?_)
     ·try simp at c2
      refine VS_seq (VS_r0 rfl (q_fld_r rfl (q_load_r rfl rfl rfl rfl rfl rfl rfl (q_len_m rfl (q_lss rfl rfl (q_mv rfl (rg_nil (VS_ret ?_))))))))
      refine Bd.now ⟨_, rfl, congrArg PV.bool ?_⟩
      have e : k = 1 := by first | exact c2 | omega
      rw [e, safe_put hv hr]
     ·try simp at c2
      refine VS_seq (VS_r0 rfl (q_eql rfl rfl (q_mv rfl (rg_nil ?_))))
      refine VS_cond rfl (fun c3 => ?_) (fun c3 => ?_)
      ·try simp at c3
       refine VS_seq (VS_seq (VS_r0 rfl (q_mv rfl (q_fld_r rfl (q_load_r rfl rfl rfl rfl rfl rfl rfl (q_eql rfl rfl (rg_nil ?_)))))))
       refine VS_cond rfl (fun c4 => ?_) (fun c4 => ?_)
       ·try simp at c4
        refine VS_seq (VS_r0 rfl (q_fld_r rfl (q_load_r rfl rfl rfl rfl rfl rfl rfl (q_len_m rfl (q_eql rfl rfl (q_mv rfl ?_))))))
        refine q_b rfl (fun g46 => ?_) (fun g46 => ?_)
        ·try simp at g46
         refine q_t rfl (q_fld_r rfl (q_t rfl (q_load_r rfl rfl rfl rfl rfl rfl rfl (q_t rfl (q_len_m rfl (q_t rfl (q_gtr rfl rfl (q_pick_f rfl rfl (q_mv rfl (rg_nil (VS_ret ?_)))))))))))
         refine Bd.now ⟨_, rfl, congrArg PV.bool ?_⟩
         have e : k = 2 := by first | exact c3 | omega
         have e2 : i = t.r := by first | exact c4 | omega
         rw [e, safe_root hv hr e2]
         (simp_all; done)
        ·try simp at g46
         refine q_f rfl (q_f rfl (q_f rfl (q_f rfl (q_pick_t rfl rfl (q_mv rfl (rg_nil (VS_ret ?_)))))))
         refine Bd.now ⟨_, rfl, congrArg PV.bool ?_⟩
         have e : k = 2 := by first | exact c3 | omega
         have e2 : i = t.r := by first | exact c4 | omega
         rw [e, safe_root hv hr e2]
         (simp_all; done)
       ·try simp at c4
        refine VS_skip (VS_seq (VS_r0 rfl (q_fld_r rfl (q_load_r rfl rfl rfl rfl rfl rfl rfl (q_len_m rfl (q_gtr rfl rfl (q_mv rfl (rg_nil (VS_ret ?_)))))))))
        refine Bd.now ⟨_, rfl, congrArg PV.bool ?_⟩
        have e : k = 2 := by first | exact c3 | omega
        rw [e, safe_drop hv hr (by exact c4)]
      ·try simp at c3
       refine VS_skip (VS_seq (VS_r0 rfl (q_mv rfl (rg_nil (VS_ret ?_)))))
       refine Bd.now ⟨_, rfl, congrArg PV.bool ?_⟩
       exact (safe_no (by omega)).symm
  ·try simp at g15
   refine q_f rfl (q_f rfl (q_f rfl (q_f rfl (q_f rfl (q_pick_t rfl rfl (rg_nil ?_))))))
   refine VS_cond rfl (fun _ => ?_) (fun e => by cases e)
   refine VS_seq (VS_r0 rfl (q_mv rfl (rg_nil (VS_ret ?_))))
   refine Bd.now ⟨_, rfl, congrArg PV.bool ?_⟩
   refine (safe_bad ?_).symm
   (refine .inr ?_; omega)
 ·try simp at g11
  refine q_f rfl (q_f rfl (q_pick_t rfl rfl (q_mv rfl (q_f rfl (q_f rfl (q_f rfl (q_f rfl (q_f rfl (q_pick_t rfl rfl (rg_nil ?_))))))))))
  refine VS_cond rfl (fun _ => ?_) (fun e => by cases e)
  refine VS_seq (VS_r0 rfl (q_mv rfl (rg_nil (VS_ret ?_))))
  refine Bd.now ⟨_, rfl, congrArg PV.bool ?_⟩
  refine (safe_bad ?_).symm
  (refine .inl ?_; simpa using g11)
theorem sl_spec_safe : slimF prog 52 = some (40, (.seq (.reg 0 (.o 3 (.box 39 2 (.t 0)) (.o 6 (.mv (.c (.pv (.bool false)))) .nil))) (.seq (.reg 0 (.o 8 (.fld 1 1 false (.t 3)) (.o 9 (.load 1 false (.t 8)) (.o 10 (.mv (.t 1)) (.o 11 (.idx 3 (.t 9) (.t 10)) (.o 12 (.load 3 true (.t 11)) (.o 7 (.alloc 25 3 (.agg [.nils, .nils, .nils])) (.op ⟨none, none, .store 3 (.t 7) (.t 12)⟩ .nil)))))))) (.seq (.seq (.reg 0 (.o 13 (.mv (.t 2)) .nil)) (.block 0 (.seq (.reg 0 (.o 15 (.bin .eql (.t 13) (.c (.pv (.int .i64 1)))) (.o 14 (.mv (.t 15)) .nil))) (.cond (.t 14) (.seq (.reg 0 (.o 16 (.fld 0 1 false (.t 7)) (.o 17 (.load 1 false (.t 16)) (.o 18 (.len (.t 17)) (.o 19 (.bin .lss (.t 18) (.c (.pv (.int .i64 4)))) (.o 6 (.mv (.t 19)) .nil)))))) .ret) (.seq (.reg 0 (.o 21 (.bin .eql (.t 13) (.c (.pv (.int .i64 2)))) (.o 20 (.mv (.t 21)) .nil))) (.cond (.t 20) (.seq (.seq (.reg 0 (.o 22 (.mv (.t 1)) (.o 23 (.fld 0 1 false (.t 3)) (.o 24 (.load 1 false (.t 23)) (.o 25 (.bin .eql (.t 22) (.t 24)) .nil))))) (.cond (.t 25) (.seq (.reg 0 (.o 26 (.fld 1 1 false (.t 7)) (.o 27 (.load 1 false (.t 26)) (.o 28 (.len (.t 27)) (.o 29 (.bin .eql (.t 28) (.c (.pv (.int .i64 0)))) (.o 30 (.mv (.t 29)) (.g 31 30 false (.fld 0 1 false (.t 7)) (.g 32 30 false (.load 1 false (.t 31)) (.g 33 30 false (.len (.t 32)) (.g 34 30 false (.bin .gtr (.t 33) (.c (.pv (.int .i64 1)))) (.o 35 (.pick (.t 30) (.c (.pv (.bool true))) (.t 34)) (.o 6 (.mv (.t 35)) .nil)))))))))))) .ret) .skip)) (.seq (.reg 0 (.o 36 (.fld 0 1 false (.t 7)) (.o 37 (.load 1 false (.t 36)) (.o 38 (.len (.t 37)) (.o 39 (.bin .gtr (.t 38) (.c (.pv (.int .i64 2)))) (.o 6 (.mv (.t 39)) .nil)))))) .ret)) .skip)))))) (.seq (.reg 0 (.o 6 (.mv (.c (.pv (.bool true)))) .nil)) .ret))), [.t 6])) := by kernel_rfl
theorem c_spec_safe (t : Pt) (hs : smallT t) (i k : Int) (hr : 0 ≤ i ∧ i < t.ps.length) : PCon prog 52 [ptP t, i64 i, i64 k] (fun p => p = .bool (safeP (nth t.ps i.toNat) (decide (i = t.r)) k)) := by
 refine con_of_VS sl_spec_safe (by simp) (VS_seq (VS_r0 rfl (q_box rfl rfl rfl trivial (q_mv rfl (rg_nil (VS_seq (VS_r0 rfl (q_fld_r rfl (q_load_r rfl rfl rfl rfl rfl rfl rfl (q_mv rfl (q_idx_m (f := pgP) (xs := t.ps) (n := i) rfl rfl (by omega) (by omega) (fun _ => rfl) (q_load_c rfl rfl rfl (q_alloc trivial (q_store rfl rfl rfl rfl rfl rfl ⟨rfl, rfl, by simp, rfl, by simp [isOne]⟩ rfl trivial (rg_nil ?_)))))))))))))))
 refine VS_seq (VS_seq (VS_r0 rfl (q_mv rfl (rg_nil (VS_block (VS_seq (VS_r0 rfl (q_eql rfl rfl (q_mv rfl (rg_nil ?_))))))))))
 refine VS_cond rfl (fun c0 => ?_) (fun c0 => ?_)
 ·try simp at c0
  refine VS_seq (VS_r0 rfl (q_fld_r rfl (q_load_r rfl rfl rfl rfl rfl rfl rfl (q_len_m rfl (q_lss rfl rfl (q_mv rfl (rg_nil (VS_ret ?_))))))))
  refine Bd.now ⟨_, rfl, congrArg PV.bool ?_⟩
  have e : k = 1 := by first | exact c0 | omega
  rw [e]; rfl
 ·try simp at c0
  refine VS_seq (VS_r0 rfl (q_eql rfl rfl (q_mv rfl (rg_nil ?_))))
  refine VS_cond rfl (fun c1 => ?_) (fun c1 => ?_)
  ·try simp at c1
   refine VS_seq (VS_seq (VS_r0 rfl (q_mv rfl (q_fld_r rfl (q_load_r rfl rfl rfl rfl rfl rfl rfl (q_eql rfl rfl (rg_nil ?_)))))))
   refine VS_cond rfl (fun c2 => ?_) (fun c2 => ?_)
   ·try simp at c2
    refine VS_seq (VS_r0 rfl (q_fld_r rfl (q_load_r rfl rfl rfl rfl rfl rfl rfl (q_len_m rfl (q_eql rfl rfl (q_mv rfl ?_))))))
    refine q_b rfl (fun g30 => ?_) (fun g30 => ?_)
    ·try simp at g30
     refine q_t rfl (q_fld_r rfl (q_t rfl (q_load_r rfl rfl rfl rfl rfl rfl rfl (q_t rfl (q_len_m rfl (q_t rfl (q_gtr rfl rfl (q_pick_f rfl rfl (q_mv rfl (rg_nil (VS_ret ?_)))))))))))
     refine Bd.now ⟨_, rfl, congrArg PV.bool ?_⟩
     have e : k = 2 := by first | exact c1 | omega
     have e2 : i = t.r := by first | exact c2 | omega
     rw [e, decide_eq_true e2]
     show _ = (decide (((nth t.ps i.toNat).cs.length : Int) = 0) || decide (1 < ((nth t.ps i.toNat).ks.length : Int)))
     (simp_all; done)
    ·try simp at g30
     refine q_f rfl (q_f rfl (q_f rfl (q_f rfl (q_pick_t rfl rfl (q_mv rfl (rg_nil (VS_ret ?_)))))))
     refine Bd.now ⟨_, rfl, congrArg PV.bool ?_⟩
     have e : k = 2 := by first | exact c1 | omega
     have e2 : i = t.r := by first | exact c2 | omega
     rw [e, decide_eq_true e2]
     show _ = (decide (((nth t.ps i.toNat).cs.length : Int) = 0) || decide (1 < ((nth t.ps i.toNat).ks.length : Int)))
     (simp_all; done)
   ·try simp at c2
    refine VS_skip (VS_seq (VS_r0 rfl (q_fld_r rfl (q_load_r rfl rfl rfl rfl rfl rfl rfl (q_len_m rfl (q_gtr rfl rfl (q_mv rfl (rg_nil (VS_ret ?_)))))))))
    refine Bd.now ⟨_, rfl, congrArg PV.bool ?_⟩
    have e : k = 2 := by first | exact c1 | omega
    rw [e, decide_eq_false (show ¬ i = t.r by first | exact c2 | omega)]; rfl
  ·try simp at c1
   refine VS_skip (VS_seq (VS_r0 rfl (q_mv rfl (rg_nil (VS_ret ?_)))))
   refine Bd.now ⟨_, rfl, congrArg PV.bool ?_⟩
   rw [safeP, if_neg (by exact c0), if_neg (by exact c1)]
theorem sl_spec_validKind : slimF prog 51 = some (5, (.seq (.reg 0 (.o 2 (.mv (.c (.pv (.bool false)))) .nil)) (.seq (.reg 0 (.o 3 (.mv (.t 0)) (.o 4 (.call 50 [.t 3, .c (.pv (.int .i64 0)), .c (.pv (.int .i64 2))]) (.o 2 (.mv (.t 4)) .nil)))) .ret), [.t 2])) := by kernel_rfl
theorem c_spec_validKind (k : Int) : PCon prog 51 [i64 k] (fun p => p = .bool (decide (0 ≤ k) && decide (k ≤ 2))) := by
 refine con_of_VS sl_spec_validKind (by simp) (VS_seq (VS_r0 rfl (q_mv rfl (rg_nil (VS_seq (VS_r0 rfl (q_mv rfl (q_callp (c_spec_inRange _ _ _) rfl trivial (q_mv rfl (rg_nil (VS_ret ?_)))))))))))
 exact Bd.now ⟨_, rfl, rfl⟩
theorem sl_spec_IsSafe : slimF prog 21 = some (27, (.seq (.reg 0 (.o 3 (.box 39 2 (.t 0)) (.o 6 (.mv (.c (.pv (.bool false)))) .nil))) (.seq (.reg 0 (.o 7 (.load 2 true (.t 3)) (.o 8 (.call 49 [.t 7]) (.o 9 (.mv (.t 8)) (.g 10 9 true (.mv (.t 1)) (.g 11 9 true (.fld 1 1 false (.t 3)) (.g 12 9 true (.load 1 false (.t 11)) (.g 13 9 true (.len (.t 12)) (.g 14 9 true (.bin .sub (.t 13) (.c (.pv (.int .i64 1)))) (.g 15 9 true (.call 50 [.t 10, .c (.pv (.int .i64 0)), .t 14]) (.o 16 (.pick (.t 9) (.t 15) (.c (.pv (.bool false)))) (.o 17 (.mv (.t 16)) (.g 18 17 true (.mv (.t 2)) (.g 19 17 true (.call 51 [.t 18]) (.o 20 (.pick (.t 17) (.t 19) (.c (.pv (.bool false)))) (.o 21 (.mv (.t 20)) (.g 22 21 true (.load 2 true (.t 3)) (.g 23 21 true (.mv (.t 1)) (.g 24 21 true (.mv (.t 2)) (.g 25 21 true (.call 52 [.t 22, .t 23, .t 24]) (.o 26 (.pick (.t 21) (.t 25) (.c (.pv (.bool false)))) (.o 6 (.mv (.t 26)) .nil)))))))))))))))))))))) .ret), [.t 6])) := by kernel_rfl
theorem c_spec_IsSafe (t : Pt) (hs : smallT t) (i k : Int) : PCon prog 21 [ptP t, i64 i, i64 k] (fun p => p = .bool (safeB t i k)) := by
 have hsl := hs.1
 refine con_of_VS sl_spec_IsSafe (by simp) (VS_seq (VS_r0 rfl (q_box rfl rfl rfl trivial (q_mv rfl (rg_nil (VS_seq (VS_r0 rfl (q_load_ra rfl rfl rfl rfl rfl (by (simp; done)) rfl (q_callp (c_spec_validTree t hs) rfl trivial (q_mv rfl ?_))))))))))
 refine q_b rfl (fun g9 => ?_) (fun g9 => ?_)
 ·try simp at g9
  have hv : validT t = true := by simpa using g9
  refine q_t rfl (q_mv rfl (q_t rfl (q_fld_r rfl (q_t rfl (q_load_r rfl rfl rfl rfl rfl rfl rfl (q_t rfl (q_len_m rfl (q_t rfl (q_sub rfl rfl (inR64 (by omega)) (q_t rfl (q_callp (c_spec_inRange _ _ _) rfl trivial (q_pick_t rfl rfl (q_mv rfl ?_)))))))))))))
  refine q_b rfl (fun g17 => ?_) (fun g17 => ?_)
  ·try simp at g17
   have hr : 0 ≤ i ∧ i < t.ps.length := by first | omega | (simp at g17; omega)
   refine q_t rfl (q_mv rfl (q_t rfl (q_callp (c_spec_validKind k) rfl trivial (q_pick_t rfl rfl (q_mv rfl ?_)))))
   refine q_b rfl (fun g21 => ?_) (fun g21 => ?_)
   ·try simp at g21
    refine q_t rfl (q_load_ra rfl rfl rfl rfl rfl (by (simp; done)) rfl (q_t rfl (q_mv rfl (q_t rfl (q_mv rfl (q_t rfl (q_callp (c_spec_safe t hs i k hr) rfl trivial (q_pick_t rfl rfl (q_mv rfl (rg_nil (VS_ret ?_)))))))))))
    refine Bd.now ⟨_, rfl, congrArg PV.bool ?_⟩
    (rw [safe_in hv hr]; simp_all; done)
   ·try simp at g21
    refine q_f rfl (q_f rfl (q_f rfl (q_f rfl (q_pick_f rfl rfl (q_mv rfl (rg_nil (VS_ret ?_)))))))
    refine Bd.now ⟨_, rfl, congrArg PV.bool ?_⟩
    (simp_all [safeB]; omega)
  ·try simp at g17
   refine q_f rfl (q_f rfl (q_pick_f rfl rfl (q_mv rfl (q_f rfl (q_f rfl (q_f rfl (q_f rfl (q_pick_f rfl rfl (q_mv rfl (rg_nil (VS_ret ?_)))))))))))
   refine Bd.now ⟨_, rfl, congrArg PV.bool ?_⟩
   (refine (safe_bad (.inr ?_)).symm; first | omega | (simp at g17; omega) | (simp_all; omega))
 ·try simp at g9
  refine q_f rfl (q_f rfl (q_f rfl (q_f rfl (q_f rfl (q_f rfl (q_pick_f rfl rfl (q_mv rfl (q_f rfl (q_f rfl (q_pick_f rfl rfl (q_mv rfl (q_f rfl (q_f rfl (q_f rfl (q_f rfl ?_)))))))))))))))
  refine q_pick_f rfl rfl (q_mv rfl (rg_nil (VS_ret ?_)))
  refine Bd.now ⟨_, rfl, congrArg PV.bool ?_⟩
  (refine (safe_bad (.inl ?_)).symm; simp_all; done)
theorem sl_spec_DrawIsSafe : slimF prog 19 = some (37, (.seq (.reg 0 (.o 2 (.alloc 39 2 (.agg [.pv (.int .i64 0), .nils])) (.o 3 (.mv (.c (.pv (.int .i64 0)))) (.o 4 (.mv (.c (.pv (.int .i64 0)))) .nil)))) (.seq (.reg 0 (.o 8 (.mv (.t 0)) (.o 9 (.call 33 [.t 8]) (.o 5 (.mv (.t 9)) .nil)))) (.seq (.reg 0 (.o 10 (.mv (.t 5)) (.o 11 (.call 46 [.t 10]) (.o 6 (.alloc 39 2 (.agg [.pv (.int .i64 0), .nils])) (.op ⟨none, none, .store 2 (.t 6) (.t 11)⟩ .nil))))) (.seq (.reg 2 (.o 12 (.mv (.t 5)) (.o 13 (.mv (.t 5)) (.o 14 (.fld 1 1 false (.t 6)) (.o 15 (.load 1 false (.t 14)) (.o 16 (.len (.t 15)) (.o 17 (.mx (.c (.pv (.int .i64 1))) (.t 16)) (.o 19 (.fld 0 1 false (.t 6)) (.o 20 (.load 1 false (.t 19)) (.o 21 (.mv (.t 5)) (.o 22 (.fld 1 1 false (.t 6)) (.o 23 (.load 1 false (.t 22)) (.o 24 (.len (.t 23)) (.o 25 (.mx (.c (.pv (.int .i64 1))) (.t 24)) (.o 27 (.fld 1 1 false (.t 6)) (.o 28 (.load 1 false (.t 27)) (.o 29 (.len (.t 28)) (.o 18 (.call 48 [.t 13, .t 17]) (.o 26 (.call 48 [.t 21, .t 25]) (.o 30 (.lit 3 1 5 [.pv (.int .i64 0)] [(0, .t 18), (1, .t 20), (2, .t 26), (3, .t 29), (4, .c (.pv (.int .i64 (-1))))]) (.o 31 (.call 47 [.t 12, .t 30]) (.o 7 (.mv (.t 31)) .nil)))))))))))))))))))))) (.seq (.reg 2 (.o 32 (.load 2 true (.t 6)) (.o 33 (.mv (.t 7)) (.o 34 (.mv (.t 5)) (.o 35 (.lit 3 1 7 [.pv (.int .i64 0)] [(0, .c (.pv (.int .i64 0))), (1, .c (.pv (.int .i64 1))), (2, .c (.pv (.int .i64 2))), (3, .c (.pv (.int .i64 1))), (4, .c (.pv (.int .i64 2))), (5, .c (.pv (.int .i64 3))), (6, .c (.pv (.int .i64 (-1))))]) (.o 36 (.call 47 [.t 34, .t 35]) (.op ⟨none, none, .store 2 (.t 2) (.t 32)⟩ (.o 3 (.mv (.t 33)) (.o 4 (.mv (.t 36)) .nil))))))))) .ret)))), [.c 2 2, .t 3, .t 4])) := by kernel_rfl
theorem c_spec_DrawIsSafe (bs : List Int) (hb : isU8 bs) (hl : bs.length ≤ 1048576) : PCon prog 19 [u8s bs] (fun p => ∃ (t : Pt) (i k : Int), p = .tup [ptP t, i64 i, i64 k] ∧ AnyT t) := by
 refine con_of_VS sl_spec_DrawIsSafe (by simp) (VS_seq (VS_r0 rfl (q_alloc trivial (q_mv rfl (q_mv rfl (rg_nil (VS_seq (VS_r0 rfl (q_mv rfl ?_)))))))))
 refine q_newRd rfl (c_spec_newReader _ hb hl) rfl (fun _ => trivial) ?_
 rintro bs ⟨hb, hbl⟩
 refine q_mv rfl (rg_nil (VS_seq (VS_r0 rfl (q_mv rfl ?_))))
 refine q_rd rfl (c_spec_anyTree bs hb hbl _ (by omega) (by omega)) rfl rfl (fun _ => trivial) ?_
 rintro _ q11 ⟨t, rfl, ha, hq1, hq2⟩
 refine q_alloc trivial (q_store rfl rfl rfl rfl rfl rfl ⟨rfl, rfl, by simp, rfl, by simp [isOne]⟩ rfl trivial (rg_nil ?_))
 have hm := ha.many
 refine VS_seq (VS_r2 [none, none, some ⟨39, 2, [.agg [.pv (i64 t.r), .pv (pgsP t.ps)]]⟩] hmix (SubL.sub (by repeat constructor)) (q_mv rfl (q_mv rfl (q_fld_r rfl (q_load_r rfl rfl rfl rfl rfl rfl rfl (q_len_m rfl (q_mx rfl rfl (q_fld_r rfl (q_load_r rfl rfl rfl rfl rfl rfl rfl (q_mv rfl (q_fld_r rfl (q_load_r rfl rfl rfl rfl rfl rfl rfl (q_len_m rfl (q_mx rfl rfl (q_fld_r rfl ?_)))))))))))))))
 refine q_load_r rfl rfl rfl rfl rfl rfl rfl (q_len_m rfl ?_)
 refine q_rd rfl (c_spec_reader_pick bs hb hbl _ (by omega) (max 1 (t.ps.length : Int)) (by omega) (by omega)) rfl rfl (fun _ => (SubL.sub (by repeat constructor))) ?_
 rintro _ q18 ⟨u, rfl, q_u, rfl⟩
 refine q_rd rfl (c_spec_reader_pick bs hb hbl _ (by omega) (max 1 (t.ps.length : Int)) (by omega) (by omega)) rfl rfl (fun _ => (SubL.sub (by repeat constructor))) ?_
 rintro _ q26 ⟨w, rfl, q_w, rfl⟩
 refine q_lit (xs := [u, t.r, w, (t.ps.length : Int), -1].map (.int .i64)) rfl rfl rfl rfl ?_
 refine q_rd rfl (c_spec_reader_one bs hb hbl _ (by omega) [u, t.r, w, (t.ps.length : Int), -1] (by simp) (by simp) (by omega)) rfl rfl (fun _ => (SubL.sub (by repeat constructor))) ?_
 rintro _ q31 ⟨c, rfl, q_c, rfl⟩
 refine q_mv rfl (rg_nil (VS_seq (VS_r2 [none, none, some ⟨39, 2, [.agg [.pv (i64 t.r), .pv (pgsP t.ps)]]⟩] hmix (SubL.sub (by repeat constructor)) (q_load_ra rfl rfl rfl rfl rfl (by (simp; done)) rfl (q_mv rfl (q_mv rfl (q_lit (xs := [0, 1, 2, 1, 2, 3, -1].map (.int .i64)) rfl rfl rfl rfl ?_)))))))
 refine q_rd rfl (c_spec_reader_one bs hb hbl _ (by omega) [0, 1, 2, 1, 2, 3, -1] (by simp) (by simp) (by omega)) rfl rfl (fun _ => (SubL.sub (by repeat constructor))) ?_
 rintro _ q36 ⟨d, rfl, q_d, rfl⟩
 refine q_store rfl rfl rfl rfl rfl rfl ⟨rfl, rfl, by simp, rfl, by simp [isOne]⟩ rfl (SubL.sub (by repeat constructor)) (q_mv rfl (q_mv rfl (rg_nil (VS_ret ?_))))
 exact Bd.now ⟨_, rfl, t, c, d, rfl, ha⟩
end Go.V
