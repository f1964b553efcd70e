/- A part of the proofs about laws of the page tree (see the text that bears the law): a small language of steps, its rules, and what the functions of the program return. -/
import Derived.Test.YtgblkaealpggdaaWG
import Derived.Test.YtgblkaealpggdaaLH
set_option linter.all false
set_option linter.unusedVariables false
set_option linter.unusedSimpArgs false
set_option maxHeartbeats 4000000
namespace Go.V
open Go.Proofs.Try (prog)
set_option maxRecDepth 100000
end Go.V

set_option maxHeartbeats 4000000
namespace Go.V
open Go.Proofs.Try (prog)
set_option maxRecDepth 100000
theorem sl_laws_equalPages : slimF prog 57 = some (57, (.seq (.reg 0 (.o 4 (.mv (.c (.pv (.bool false)))) .nil)) (.seq (.seq (.reg 0 (.o 6 (.mv (.t 0)) (.o 7 (.len (.t 6)) (.o 8 (.mv (.t 1)) (.o 9 (.len (.t 8)) (.o 10 (.bin .neq (.t 7) (.t 9)) .nil)))))) (.cond (.t 10) (.seq (.reg 0 (.o 4 (.mv (.c (.pv (.bool false)))) .nil)) .ret) .skip)) (.seq (.seq (.reg 0 (.o 5 (.mv (.c (.pv (.int .i64 0)))) .nil)) (.block 0 (.loop (.seq (.seq (.reg 0 (.o 11 (.mv (.t 5)) (.o 12 (.mv (.t 0)) (.o 13 (.len (.t 12)) (.o 14 (.bin .lss (.t 11) (.t 13)) .nil))))) (.cond (.t 14) .skip (.exit 0))) (.seq (.block 1 (.seq (.reg 2 (.o 17 (.mv (.t 0)) (.o 18 (.mv (.t 5)) (.o 19 (.idx 3 (.t 17) (.t 18)) (.o 20 (.fld 0 1 false (.t 19)) (.o 21 (.load 1 false (.t 20)) (.o 22 (.mv (.t 1)) (.o 23 (.mv (.t 5)) (.o 24 (.idx 3 (.t 22) (.t 23)) (.o 25 (.fld 0 1 false (.t 24)) (.o 26 (.load 1 false (.t 25)) (.o 27 (.call 13 [.t 21, .t 26]) (.o 28 (.not (.t 27)) (.o 29 (.mv (.t 28)) (.g 30 29 false (.mv (.t 0)) (.g 31 29 false (.mv (.t 5)) (.g 32 29 false (.idx 3 (.t 30) (.t 31)) (.g 33 29 false (.fld 1 1 false (.t 32)) (.g 34 29 false (.load 1 false (.t 33)) (.g 35 29 false (.mv (.t 1)) (.g 36 29 false (.mv (.t 5)) (.g 37 29 false (.idx 3 (.t 35) (.t 36)) (.g 38 29 false (.fld 1 1 false (.t 37)) (.g 39 29 false (.load 1 false (.t 38)) (.g 40 29 false (.call 13 [.t 34, .t 39]) (.g 41 29 false (.not (.t 40)) (.o 42 (.pick (.t 29) (.c (.pv (.bool true))) (.t 41)) (.o 43 (.mv (.t 42)) (.g 44 43 false (.mv (.t 0)) (.g 45 43 false (.mv (.t 5)) (.g 46 43 false (.idx 3 (.t 44) (.t 45)) (.g 47 43 false (.fld 2 1 false (.t 46)) (.g 48 43 false (.load 1 false (.t 47)) (.g 49 43 false (.mv (.t 1)) (.g 50 43 false (.mv (.t 5)) (.g 51 43 false (.idx 3 (.t 49) (.t 50)) (.g 52 43 false (.fld 2 1 false (.t 51)) (.g 53 43 false (.load 1 false (.t 52)) (.g 54 43 false (.call 13 [.t 48, .t 53]) (.g 55 43 false (.not (.t 54)) (.o 56 (.pick (.t 43) (.c (.pv (.bool true))) (.t 55)) .nil))))))))))))))))))))))))))))))))))))))))) (.cond (.t 56) (.seq (.reg 0 (.o 4 (.mv (.c (.pv (.bool false)))) .nil)) .ret) .skip))) (.reg 0 (.o 15 (.mv (.t 5)) (.o 16 (.bin .add (.t 15) (.c (.pv (.int .i64 1)))) (.o 5 (.mv (.t 16)) .nil))))))))) (.seq (.reg 0 (.o 4 (.mv (.c (.pv (.bool true)))) .nil)) .ret))), [.t 4])) := by kernel_rfl
theorem c_laws_equalPages (a b : List Pg) (ha : smG a) (hb : smG b) : PCon prog 57 [pgsP a, pgsP b] (fun p => p = .bool (decide (a = b))) := by
 have hal := ha.1
 have hbl := hb.1
 refine con_of_VS sl_laws_equalPages (by simp) (VS_seq (VS_r0 rfl (q_mv rfl (rg_nil (VS_seq (VS_seq (VS_r0 rfl (q_mv rfl (q_len_m rfl (q_mv rfl (q_len_m rfl (q_neq rfl rfl (rg_nil ?_)))))))))))))
 refine VS_cond rfl (fun c0 => ?_) (fun c0 => ?_)
 ·try simp at c0
  refine VS_seq (VS_r0 rfl (q_mv rfl (rg_nil (VS_ret ?_))))
  refine Bd.now ⟨_, rfl, congrArg PV.bool (decide_eq_false fun e => ?_).symm⟩
  subst e; omega
 ·try simp at c0
  have hab : a.length = b.length := by first | omega | (simp at c0; omega)
  refine VS_skip (VS_seq (VS_seq (VS_r0 rfl (q_mv rfl (rg_nil (VS_block ?_))))))
  refine VS_bd (Bd.keepL [(0, .pv (pgsP a)), (1, .pv (pgsP b)), (5, .pv (i64 0))] ⟨rfl, rfl, rfl, trivial⟩ ?_)
  refine VS_loop (fun mz E S => ∃ i : Nat, mz = a.length - i ∧ (i ≤ a.length) ∧ (∀ j, j < i → nth a j = nth b j) ∧ E = env [(0, .pv (pgsP a)), (1, .pv (pgsP b)), (5, .pv (i64 i))] ∧ S = []) ⟨_, 0, rfl, (by omega), (by omega), rfl, rfl⟩ ?_
  rintro mz _ _ ⟨i, hmeas, g0, g1, rfl, rfl⟩
  refine VS_seq (VS_seq (VS_r0 rfl (q_mv rfl (q_mv rfl (q_len_m rfl (q_lss rfl rfl (rg_nil ?_)))))))
  refine VS_cond rfl (fun c1 => ?_) (fun c1 => ?_)
  ·try simp at c1
   have hsa := ha.2 i (by omega)
   have hsb := hb.2 i (by omega)
   refine VS_skip (VS_seq (VS_block (VS_seq (VS_r2 _ hmix (Sub.refl _) (q_mv rfl (q_mv rfl (q_idx_m (f := pgP) (xs := a) (n := (i : Int)) rfl rfl (by omega) (by omega) (fun _ => rfl) (q_fld_c rfl rfl (q_load_c rfl rfl rfl (q_mv rfl (q_mv rfl (q_idx_m (f := pgP) (xs := b) (n := (i : Int)) rfl rfl (by omega) (by omega) (fun _ => rfl) (q_fld_c rfl rfl (q_load_c rfl rfl rfl (q_callp (c_laws_equalInts (nth a i).ks (nth b i).ks (by omega) (by omega)) rfl Sub.nil ?_)))))))))))))))
   refine q_not rfl (q_mv rfl ?_)
   refine q_b rfl (fun g29 => ?_) (fun g29 => ?_)
   ·try simp at g29
    refine q_t rfl (q_mv rfl (q_t rfl (q_mv rfl (q_t rfl (q_idx_m (f := pgP) (xs := a) (n := (i : Int)) rfl rfl (by omega) (by omega) (fun _ => rfl) (q_t rfl (q_fld_c rfl rfl (q_t rfl (q_load_c rfl rfl rfl (q_t rfl (q_mv rfl (q_t rfl (q_mv rfl (q_t rfl (q_idx_m (f := pgP) (xs := b) (n := (i : Int)) rfl rfl (by omega) (by omega) (fun _ => rfl) ?_)))))))))))))))
    refine q_t rfl (q_fld_c rfl rfl (q_t rfl (q_load_c rfl rfl rfl (q_t rfl (q_callp (c_laws_equalInts (nth a i).cs (nth b i).cs (by omega) (by omega)) rfl Sub.nil (q_t rfl (q_not rfl (q_pick_f rfl rfl (q_mv rfl ?_)))))))))
    refine q_b rfl (fun g43 => ?_) (fun g43 => ?_)
    ·try simp at g43
     refine q_t rfl (q_mv rfl (q_t rfl (q_mv rfl (q_t rfl (q_idx_m (f := pgP) (xs := a) (n := (i : Int)) rfl rfl (by omega) (by omega) (fun _ => rfl) (q_t rfl (q_fld_c rfl rfl (q_t rfl (q_load_c rfl rfl rfl (q_t rfl (q_mv rfl (q_t rfl (q_mv rfl (q_t rfl (q_idx_m (f := pgP) (xs := b) (n := (i : Int)) rfl rfl (by omega) (by omega) (fun _ => rfl) ?_)))))))))))))))
     refine q_t rfl (q_fld_c rfl rfl (q_t rfl (q_load_c rfl rfl rfl (q_t rfl (q_callp (c_laws_equalInts (nth a i).vs (nth b i).vs (by omega) (by omega)) rfl Sub.nil (q_t rfl (q_not rfl (q_pick_f rfl rfl (rg_nil ?_)))))))))
     refine VS_cond rfl (fun c2 => ?_) (fun c2 => ?_)
     ·try simp at c2
      refine VS_seq (VS_r0 rfl (q_mv rfl (rg_nil (VS_ret ?_))))
      refine Bd.now ⟨_, rfl, congrArg PV.bool (decide_eq_false fun e => ?_).symm⟩
      subst e; simp_all
     ·try simp at c2
      refine VS_skip (VS_r0 rfl (q_mv rfl (q_add rfl rfl (inR64 (by omega)) (q_mv rfl (rg_nil ?_)))))
      refine Bd.keepL [(0, .pv (pgsP a)), (1, .pv (pgsP b)), (5, .pv (i64 (i + 1)))] ⟨rfl, rfl, rfl, trivial⟩ ⟨_, ?_, i + 1, rfl, ?_, ?_, rfl, rfl⟩
      ·omega
      ·omega
      ·intro j hj
       by_cases e : j = i
       ·subst e; exact Pg.ext' (by simp_all) (by simp_all) (by simp_all)
       ·exact g1 j (by omega)
    ·try simp at g43
     refine q_f rfl (q_f rfl (q_f rfl (q_f rfl (q_f rfl (q_f rfl (q_f rfl (q_f rfl (q_f rfl (q_f rfl (q_f rfl (q_f rfl (q_pick_t rfl rfl (rg_nil ?_)))))))))))))
     refine VS_cond rfl (fun _ => ?_) (fun e => by cases e)
     refine VS_seq (VS_r0 rfl (q_mv rfl (rg_nil (VS_ret ?_))))
     refine Bd.now ⟨_, rfl, congrArg PV.bool (decide_eq_false fun e => ?_).symm⟩
     subst e; simp_all
   ·try simp at g29
    refine q_f rfl (q_f rfl (q_f rfl (q_f rfl (q_f rfl (q_f rfl (q_f rfl (q_f rfl (q_f rfl (q_f rfl (q_f rfl (q_f rfl (q_pick_t rfl rfl (q_mv rfl (q_f rfl (q_f rfl ?_)))))))))))))))
    refine q_f rfl (q_f rfl (q_f rfl (q_f rfl (q_f rfl (q_f rfl (q_f rfl (q_f rfl (q_f rfl (q_f rfl (q_pick_t rfl rfl (rg_nil ?_)))))))))))
    refine VS_cond rfl (fun _ => ?_) (fun e => by cases e)
    refine VS_seq (VS_r0 rfl (q_mv rfl (rg_nil (VS_ret ?_))))
    refine Bd.now ⟨_, rfl, congrArg PV.bool (decide_eq_false fun e => ?_).symm⟩
    subst e; simp_all
  ·try simp at c1
   refine VS_exit (VS_seq (VS_r0 rfl (q_mv rfl (rg_nil (VS_ret ?_)))))
   exact Bd.now ⟨_, rfl, congrArg PV.bool (decide_eq_true (list_ext_nth (by omega) fun j hj => g1 j (by omega))).symm⟩
theorem sl_laws_equalTree : slimF prog 26 = some (17, (.seq (.reg 0 (.o 2 (.box 39 2 (.t 0)) (.o 3 (.box 39 2 (.t 1)) (.o 4 (.mv (.c (.pv (.bool false)))) .nil)))) (.seq (.reg 0 (.o 5 (.fld 0 1 false (.t 2)) (.o 6 (.load 1 false (.t 5)) (.o 7 (.fld 0 1 false (.t 3)) (.o 8 (.load 1 false (.t 7)) (.o 9 (.bin .eql (.t 6) (.t 8)) (.o 10 (.mv (.t 9)) (.g 11 10 true (.fld 1 1 false (.t 2)) (.g 12 10 true (.load 1 false (.t 11)) (.g 13 10 true (.fld 1 1 false (.t 3)) (.g 14 10 true (.load 1 false (.t 13)) (.g 15 10 true (.call 57 [.t 12, .t 14]) (.o 16 (.pick (.t 10) (.t 15) (.c (.pv (.bool false)))) (.o 4 (.mv (.t 16)) .nil)))))))))))))) .ret), [.t 4])) := by kernel_rfl
theorem c_laws_equalTree (a b : Pt) (ha : smallT a) (hb : smallT b) : PCon prog 26 [ptP a, ptP b] (fun p => p = .bool (decide (a = b))) := by
 refine con_of_VS sl_laws_equalTree (by simp) (VS_seq (VS_r0 rfl (q_box rfl rfl rfl trivial (q_box rfl rfl rfl trivial (q_mv rfl (rg_nil (VS_seq (VS_r0 rfl (q_fld_r rfl (q_load_r rfl rfl rfl rfl rfl rfl rfl (q_fld_r rfl (q_load_r rfl rfl rfl rfl rfl rfl rfl (q_eql rfl rfl (q_mv rfl ?_))))))))))))))
 refine q_b rfl (fun g10 => ?_) (fun g10 => ?_)
 ·try simp at g10
  refine q_t rfl (q_fld_r rfl (q_t rfl (q_load_r rfl rfl rfl rfl rfl rfl rfl (q_t rfl (q_fld_r rfl (q_t rfl (q_load_r rfl rfl rfl rfl rfl rfl rfl (q_t rfl (q_callp (c_laws_equalPages a.ps b.ps ha.smG hb.smG) rfl trivial (q_pick_t rfl rfl (q_mv rfl (rg_nil (VS_ret ?_)))))))))))))
  refine Bd.now ⟨_, rfl, ?_⟩
  rw [pt_eq]
  simp_all
 ·try simp at g10
  refine q_f rfl (q_f rfl (q_f rfl (q_f rfl (q_f rfl (q_pick_f rfl rfl (q_mv rfl (rg_nil (VS_ret ?_))))))))
  refine Bd.now ⟨_, rfl, ?_⟩
  rw [pt_eq]
  simp_all
end Go.V
