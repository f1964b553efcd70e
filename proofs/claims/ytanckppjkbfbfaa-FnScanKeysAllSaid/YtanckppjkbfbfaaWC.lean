/- A part of the proofs about laws of the page tree (see the text that bears the law): a small language of steps, its rules, and what the functions of the program return. -/
import Derived.Test.YtanckppjkbfbfaaWB
import Derived.Test.YtanckppjkbfbfaaLD
set_option linter.all false
set_option linter.unusedVariables false
set_option linter.unusedSimpArgs false
set_option maxHeartbeats 4000000
namespace Go.V
open Go.Proofs.Try (prog)
set_option maxRecDepth 100000
end Go.V

set_option maxHeartbeats 4000000
namespace Go.V
open Go.Proofs.Try (prog)
set_option maxRecDepth 100000
theorem sl_laws_equalPairs : slimF prog 29 = some (26, (.seq (.reg 0 (.o 4 (.mv (.c (.pv (.bool false)))) .nil)) (.seq (.seq (.reg 0 (.o 6 (.mv (.t 0)) (.o 7 (.len (.t 6)) (.o 8 (.mv (.t 1)) (.o 9 (.len (.t 8)) (.o 10 (.bin .neq (.t 7) (.t 9)) .nil)))))) (.cond (.t 10) (.seq (.reg 0 (.o 4 (.mv (.c (.pv (.bool false)))) .nil)) .ret) .skip)) (.seq (.seq (.reg 0 (.o 5 (.mv (.c (.pv (.int .i64 0)))) .nil)) (.block 0 (.loop (.seq (.seq (.reg 0 (.o 11 (.mv (.t 5)) (.o 12 (.mv (.t 0)) (.o 13 (.len (.t 12)) (.o 14 (.bin .lss (.t 11) (.t 13)) .nil))))) (.cond (.t 14) .skip (.exit 0))) (.seq (.block 1 (.seq (.reg 1 (.o 17 (.mv (.t 0)) (.o 18 (.mv (.t 5)) (.o 19 (.idx 2 (.t 17) (.t 18)) (.o 20 (.load 2 true (.t 19)) (.o 21 (.mv (.t 1)) (.o 22 (.mv (.t 5)) (.o 23 (.idx 2 (.t 21) (.t 22)) (.o 24 (.load 2 true (.t 23)) (.o 25 (.peq true (.t 20) (.t 24)) .nil)))))))))) (.cond (.t 25) (.seq (.reg 0 (.o 4 (.mv (.c (.pv (.bool false)))) .nil)) .ret) .skip))) (.reg 0 (.o 15 (.mv (.t 5)) (.o 16 (.bin .add (.t 15) (.c (.pv (.int .i64 1)))) (.o 5 (.mv (.t 16)) .nil))))))))) (.seq (.reg 0 (.o 4 (.mv (.c (.pv (.bool true)))) .nil)) .ret))), [.t 4])) := by kernel_rfl
theorem c_laws_equalPairs (xs ys : List (Int × Int)) (hx : xs.length ≤ 1000000000) (hy : ys.length ≤ 1000000000) : PCon prog 29 [prs xs, prs ys] (fun p => p = .bool (decide (xs = ys))) := by
 refine con_of_VS sl_laws_equalPairs (by simp) (VS_seq (VS_r0 rfl (q_mv rfl (rg_nil (VS_seq (VS_seq (VS_r0 rfl (q_mv rfl (q_len_m rfl (q_mv rfl (q_len_m rfl (q_neq rfl rfl (rg_nil ?_)))))))))))))
 refine VS_cond rfl (fun c0 => ?_) (fun c0 => ?_)
 ·try simp at c0
  refine VS_seq (VS_r0 rfl (q_mv rfl (rg_nil (VS_ret ?_))))
  refine Bd.now ⟨_, rfl, congrArg PV.bool (decide_eq_false fun e => ?_).symm⟩
  subst e; omega
 ·try simp at c0
  refine VS_skip (VS_seq (VS_seq (VS_r0 rfl (q_mv rfl (rg_nil (VS_block ?_))))))
  refine VS_bd (Bd.keepL [(0, .pv (prs xs)), (1, .pv (prs ys)), (4, .pv (.bool false)), (5, .pv (i64 0))] ⟨rfl, rfl, rfl, rfl, trivial⟩ ?_)
  refine VS_loop (fun mz E S => ∃ i : Nat, mz = xs.length - i ∧ (i ≤ xs.length) ∧ (∀ j, j < i → nth xs j = nth ys j) ∧ E = env [(0, .pv (prs xs)), (1, .pv (prs ys)), (4, .pv (.bool false)), (5, .pv (i64 i))] ∧ S = []) ⟨_, 0, rfl, (by omega), (by omega), rfl, rfl⟩ ?_
  rintro mz _ _ ⟨i, hmeas, g0, g1, rfl, rfl⟩
  refine VS_seq (VS_seq (VS_r0 rfl (q_mv rfl (q_mv rfl (q_len_m rfl (q_lss rfl rfl (rg_nil ?_)))))))
  refine VS_cond rfl (fun c1 => ?_) (fun c1 => ?_)
  ·try simp at c1
   refine VS_skip (VS_seq (VS_block (VS_seq (VS_r1 hmix rfl (q_mv rfl (q_mv rfl (q_idx_c _ rfl rfl (by omega) (fun _ => rfl) (q_load_c rfl rfl rfl (q_mv rfl (q_mv rfl (q_idx_c _ rfl rfl (by omega) (fun _ => rfl) (q_load_c rfl rfl rfl (q_peq (k := .i64) (l := .i64) (k' := .i64) (l' := .i64) (a := (nth xs i).1) (b := (nth xs i).2) (a' := (nth ys i).1) (b' := (nth ys i).2) rfl rfl ⟨rfl, rfl⟩ (rg_nil ?_))))))))))))))
   refine VS_cond rfl (fun c2 => ?_) (fun c2 => ?_)
   ·try simp at c2
    refine VS_seq (VS_r0 rfl (q_mv rfl (rg_nil (VS_ret ?_))))
    refine Bd.now ⟨_, rfl, congrArg PV.bool (decide_eq_false fun e => ?_).symm⟩
    subst e; simp_all
   ·try simp at c2
    refine VS_skip (VS_r0 rfl (q_mv rfl (q_add rfl rfl (inR64 (by omega)) (q_mv rfl (rg_nil ?_)))))
    refine Bd.keepL [(0, .pv (prs xs)), (1, .pv (prs ys)), (4, .pv (.bool false)), (5, .pv (i64 (i + 1)))] ⟨rfl, rfl, rfl, rfl, trivial⟩ ⟨_, ?_, i + 1, rfl, ?_, ?_, rfl, rfl⟩
    ·omega
    ·omega
    ·intro j hj
     by_cases e : j = i
     ·subst e; exact Prod.ext (by simp_all) (by simp_all)
     ·exact g1 j (by omega)
  ·try simp at c1
   refine VS_exit (VS_seq (VS_r0 rfl (q_mv rfl (rg_nil (VS_ret ?_)))))
   exact Bd.now ⟨_, rfl, congrArg PV.bool (decide_eq_true (list_ext_nth (by omega) fun j hj => g1 j (by omega))).symm⟩
theorem sl_spec_SplitRow : slimF prog 90 = some (20, (.seq (.reg 0 (.o 2 (.mv (.c .nils)) (.o 3 (.mv (.c .nils)) .nil))) (.seq (.seq (.reg 0 (.o 5 (.mv (.t 0)) (.o 6 (.call 84 [.t 5]) (.o 7 (.not (.t 6)) .nil)))) (.cond (.t 7) (.seq (.reg 0 (.o 2 (.mv (.c .nils)) (.o 3 (.mv (.c .nils)) .nil))) .ret) .skip)) (.seq (.reg 0 (.o 8 (.mv (.t 0)) (.o 9 (.len (.t 8)) (.o 10 (.bin .add (.t 9) (.c (.pv (.int .i64 1)))) (.o 11 (.bin .quo (.t 10) (.c (.pv (.int .i64 2)))) (.o 4 (.mv (.t 11)) .nil)))))) (.seq (.reg 2 (.o 12 (.mv (.t 0)) (.o 13 (.mv (.t 4)) (.o 14 (.slc 2 (.t 12) none (some (.t 13))) (.o 16 (.mv (.t 0)) (.o 17 (.mv (.t 4)) (.o 18 (.slc 2 (.t 16) (some (.t 17)) none) (.o 15 (.call 88 [.t 14]) (.o 19 (.call 88 [.t 18]) (.o 2 (.mv (.t 15)) (.o 3 (.mv (.t 19)) .nil))))))))))) .ret))), [.t 2, .t 3])) := by kernel_rfl
theorem c_spec_SplitRow (xs : List (Int × Int)) (hl : xs.length ≤ 100000000) : PCon prog 90 [prs xs] (fun p => p = .tup [prs (splA xs), prs (splB xs)]) := by
 refine con_of_VS sl_spec_SplitRow (by simp) (VS_seq (VS_r0 rfl (q_mv rfl (q_mv rfl (rg_nil (VS_seq (VS_seq (VS_r0 rfl (q_mv rfl (q_callp (c_spec_validRow xs hl) rfl trivial (q_not rfl (rg_nil ?_))))))))))))
 refine VS_cond rfl (fun c0 => ?_) (fun c0 => ?_)
 ·try simp at c0
  refine VS_seq (VS_r0 rfl (q_mv rfl (q_mv rfl (rg_nil (VS_ret ?_)))))
  exact Bd.now ⟨_, rfl, by simp [splA, splB, c0]⟩
 ·try simp at c0
  refine VS_skip (VS_seq ?_)
  have hh : halfR xs = (xs.length + 1) / 2 := rfl
  refine VS_r0 rfl (q_mv rfl (q_len_m rfl (q_add rfl rfl (inR64 (by omega)) (q_quo_to ((halfR xs : Nat) : Int) rfl rfl ⟨by omega, by omega⟩ (by omega) (inR64 (by omega)) (q_mv rfl (rg_nil (VS_seq (VS_r2 [] hmix Sub.nil (q_mv rfl (q_mv rfl (q_slc_m (xs := xs) (f := pairP) 0 (halfR xs) rfl rfl rfl ⟨rfl, rfl, by omega, by omega⟩ (fun _ => rfl) (q_mv rfl (q_mv rfl (q_slc_m (xs := xs) (f := pairP) (halfR xs) xs.length rfl rfl rfl ⟨rfl, by simp, by omega, by omega⟩ (fun _ => rfl) (q_new rfl (c_spec_copyRow ((xs.take (halfR xs)).drop 0) (by simp; omega)) (flat_P _) (by rfl) Sub.nil ?_)))))))))))))))
  refine q_new rfl (c_spec_copyRow ((xs.take xs.length).drop (halfR xs)) (by simp; omega)) (flat_P _) (by rfl) Sub.nil (q_mv rfl (q_mv rfl (rg_nil ?_)))
  refine VS_bd (Bd.pure 2 0 47 2 (xs := dP ((xs.take (halfR xs)).drop 0)) rfl rfl (toPVs_dP _) ?_)
  refine VS_bd (Bd.pure 3 1 47 2 (xs := dP ((xs.take xs.length).drop (halfR xs))) rfl rfl (toPVs_dP _) ?_)
  refine VS_ret ?_
  exact Bd.now ⟨_, rfl, by simp [splA, splB, c0]⟩
end Go.V

set_option maxHeartbeats 4000000
namespace Go.V
open Go.Proofs.Try (prog)
set_option maxRecDepth 100000
end Go.V

set_option maxHeartbeats 4000000
namespace Go.V
open Go.Proofs.Try (prog)
set_option maxRecDepth 100000
end Go.V

set_option maxHeartbeats 4000000
namespace Go.V
open Go.Proofs.Try (prog)
set_option maxRecDepth 100000
theorem sl_laws_join : slimF prog 32 = some (10, (.seq (.reg 0 (.o 4 (.mv (.c .nils)) .nil)) (.seq (.reg 0 (.o 5 (.lit 47 2 0 [.pv (.int .i64 0), .pv (.int .i64 0)] []) (.o 6 (.mv (.t 0)) (.o 7 (.app 47 2 16 (.t 5) (.t 6)) (.o 8 (.mv (.t 1)) (.o 9 (.app 47 2 16 (.t 7) (.t 8)) (.o 4 (.mv (.t 9)) .nil))))))) .ret), [.t 4])) := by kernel_rfl
theorem c_laws_join (xs ys : List (Int × Int)) (hx : xs.length ≤ 1000000) (hy : ys.length ≤ 1000000) : PCon prog 32 [prs xs, prs ys] (fun p => p = prs (xs ++ ys)) := by
 refine con_of_VS sl_laws_join (by simp) (VS_seq (VS_r0 rfl (q_mv rfl (rg_nil (VS_seq (VS_r0 rfl (q_lit0 (q_mv rfl (q_app_zm (ys := xs) (f := fun k => .pv (pairP k)) rfl (elems_P xs) (cell_P xs) ⟨by omega, by omega⟩ trivial (q_mv rfl (q_app_dm (xs := xs) (ys := ys) (f := fun k => .pv (pairP k)) rfl (elems_P _) (cell_P _) rfl ⟨by omega, by omega⟩ trivial (q_mv rfl (rg_nil (VS_ret (Bd.pureB 4 1 47 2 (xs := dP (xs ++ ys)) rfl rfl (toPVs_dP _) ?_)))))))))))))))
 exact Bd.now ⟨_, rfl, rfl⟩
end Go.V
