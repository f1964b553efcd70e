/- A part of the proofs about laws of the page tree (see the text that bears the law): a small language of steps, its rules, and what the functions of the program return. -/
import Derived.Test.YtgblkaealpggdaaWB
import Derived.Test.YtgblkaealpggdaaLD
set_option linter.all false
set_option linter.unusedVariables false
set_option linter.unusedSimpArgs false
set_option maxHeartbeats 4000000
namespace Go.V
open Go.Proofs.Try (prog)
set_option maxRecDepth 100000
end Go.V

set_option maxHeartbeats 4000000
namespace Go.V
open Go.Proofs.Try (prog)
set_option maxRecDepth 100000
theorem sl_spec_SplitRow : slimF prog 107 = some (20, (.seq (.reg 0 (.o 2 (.mv (.c .nils)) (.o 3 (.mv (.c .nils)) .nil))) (.seq (.seq (.reg 0 (.o 5 (.mv (.t 0)) (.o 6 (.call 63 [.t 5]) (.o 7 (.not (.t 6)) .nil)))) (.cond (.t 7) (.seq (.reg 0 (.o 2 (.mv (.c .nils)) (.o 3 (.mv (.c .nils)) .nil))) .ret) .skip)) (.seq (.reg 0 (.o 8 (.mv (.t 0)) (.o 9 (.len (.t 8)) (.o 10 (.bin .add (.t 9) (.c (.pv (.int .i64 1)))) (.o 11 (.bin .quo (.t 10) (.c (.pv (.int .i64 2)))) (.o 4 (.mv (.t 11)) .nil)))))) (.seq (.reg 2 (.o 12 (.mv (.t 0)) (.o 13 (.mv (.t 4)) (.o 14 (.slc 2 (.t 12) none (some (.t 13))) (.o 16 (.mv (.t 0)) (.o 17 (.mv (.t 4)) (.o 18 (.slc 2 (.t 16) (some (.t 17)) none) (.o 15 (.call 104 [.t 14]) (.o 19 (.call 104 [.t 18]) (.o 2 (.mv (.t 15)) (.o 3 (.mv (.t 19)) .nil))))))))))) .ret))), [.t 2, .t 3])) := by kernel_rfl
theorem c_spec_SplitRow (xs : List (Int × Int)) (hl : xs.length ≤ 100000000) : PCon prog 107 [prs xs] (fun p => p = .tup [prs (splA xs), prs (splB xs)]) := by
 refine con_of_VS sl_spec_SplitRow (by simp) (VS_seq (VS_r0 rfl (q_mv rfl (q_mv rfl (rg_nil (VS_seq (VS_seq (VS_r0 rfl (q_mv rfl (q_callp (c_spec_validRow xs hl) rfl trivial (q_not rfl (rg_nil ?_))))))))))))
 refine VS_cond rfl (fun c0 => ?_) (fun c0 => ?_)
 ·try simp at c0
  refine VS_seq (VS_r0 rfl (q_mv rfl (q_mv rfl (rg_nil (VS_ret ?_)))))
  exact Bd.now ⟨_, rfl, by simp [splA, splB, c0]⟩
 ·try simp at c0
  refine VS_skip (VS_seq ?_)
  have hh : halfR xs = (xs.length + 1) / 2 := rfl
  refine VS_r0 rfl (q_mv rfl (q_len_m rfl (q_add rfl rfl (inR64 (by omega)) (q_quo_to ((halfR xs : Nat) : Int) rfl rfl ⟨by omega, by omega⟩ (by omega) (inR64 (by omega)) (q_mv rfl (rg_nil (VS_seq (VS_r2 [] hmix Sub.nil (q_mv rfl (q_mv rfl (q_slc_m (xs := xs) (f := pairP) 0 (halfR xs) rfl rfl rfl ⟨rfl, rfl, by omega, by omega⟩ (fun _ => rfl) (q_mv rfl (q_mv rfl (q_slc_m (xs := xs) (f := pairP) (halfR xs) xs.length rfl rfl rfl ⟨rfl, by simp, by omega, by omega⟩ (fun _ => rfl) (q_new rfl (c_spec_copyRow ((xs.take (halfR xs)).drop 0) (by simp; omega)) (flat_P _) (by rfl) Sub.nil ?_)))))))))))))))
  refine q_new rfl (c_spec_copyRow ((xs.take xs.length).drop (halfR xs)) (by simp; omega)) (flat_P _) (by rfl) Sub.nil (q_mv rfl (q_mv rfl (rg_nil ?_)))
  refine VS_bd (Bd.pure 2 0 81 2 (xs := dP ((xs.take (halfR xs)).drop 0)) rfl rfl (toPVs_dP _) ?_)
  refine VS_bd (Bd.pure 3 1 81 2 (xs := dP ((xs.take xs.length).drop (halfR xs))) rfl rfl (toPVs_dP _) ?_)
  refine VS_ret ?_
  exact Bd.now ⟨_, rfl, by simp [splA, splB, c0]⟩
end Go.V

set_option maxHeartbeats 4000000
namespace Go.V
open Go.Proofs.Try (prog)
set_option maxRecDepth 100000
theorem sl_slices_Grow_int : slimF prog 68 = some (27, (.seq (.reg 0 (.o 4 (.mv (.c .nils)) .nil)) (.seq (.seq (.reg 0 (.o 5 (.mv (.t 1)) (.o 6 (.bin .lss (.t 5) (.c (.pv (.int .i64 0)))) .nil))) (.cond (.t 6) (.reg 0 (.o 7 (.dead) (.op ⟨none, none, .dead⟩ .nil))) .skip)) (.seq (.seq (.reg 0 (.o 8 (.mv (.t 1)) (.o 9 (.mv (.t 0)) (.o 10 (.cap (.t 9)) (.o 11 (.mv (.t 0)) (.o 12 (.len (.t 11)) (.o 13 (.bin .sub (.t 10) (.t 12)) (.o 14 (.bin .sub (.t 8) (.t 13)) (.o 1 (.mv (.t 14)) .nil))))))))) (.seq (.reg 0 (.o 15 (.mv (.t 1)) (.o 16 (.bin .gtr (.t 15) (.c (.pv (.int .i64 0)))) .nil))) (.cond (.t 16) (.reg 0 (.o 17 (.mv (.t 0)) (.o 18 (.mv (.t 0)) (.o 19 (.cap (.t 18)) (.o 20 (.slc 1 (.t 17) none (some (.t 19))) (.o 21 (.mv (.t 1)) (.o 22 (.appz 3 1 8 (.pv (.int .i64 0)) (.t 20) (.t 21)) (.o 23 (.mv (.t 0)) (.o 24 (.len (.t 23)) (.o 25 (.slc 1 (.t 22) none (some (.t 24))) (.o 0 (.mv (.t 25)) .nil))))))))))) .skip))) (.seq (.reg 0 (.o 26 (.mv (.t 0)) (.o 4 (.mv (.t 26)) .nil))) .ret))), [.t 4])) := by kernel_rfl
theorem c_slices_Grow_int (n : Nat) (hn : n ≤ 1000000000) : GrowS prog 68 3 1 n := by
 refine callS_of_VS sl_slices_Grow_int (by simp) (VS_seq (VS_r0 rfl (q_mv rfl (rg_nil (VS_seq (VS_seq (VS_r0 rfl (q_mv rfl (q_lss_v false rfl rfl (decide_eq_false (by omega)) (rg_nil ?_))))))))))
 refine VS_cond rfl (fun e => by cases e) (fun _ => ?_)
 refine VS_skip (VS_seq (VS_seq (VS_r0 rfl (q_mv rfl (q_mv rfl (q_cap_n rfl (q_mv rfl (q_len_n rfl (q_sub rfl rfl (inR64 (by omega)) (q_sub_to (n : Int) rfl rfl (by omega) (inR64 (by omega)) (q_mv rfl (rg_nil (VS_seq (VS_r0 rfl (q_mv rfl ?_)))))))))))))))
 refine q_gtr rfl rfl (rg_nil ?_)
 refine VS_cond rfl (fun c1 => ?_) (fun c1 => ?_)
 ·try simp at c1
  refine VS_r0 rfl (q_mv rfl (q_mv rfl (q_cap_n rfl (q_slc_nil rfl rfl rfl (q_mv rfl ?_)))))
  refine q_appz_n (m := n) rfl rfl ⟨by omega, by omega, by unfold maxLen; omega⟩ ⟨trivial, ?_⟩
  refine q_mv rfl (q_len_n rfl (q_slc_o (m := 0) rfl rfl rfl ⟨rfl, by omega⟩ (q_mv rfl (rg_nil (VS_seq (VS_r0 rfl (q_mv rfl (q_mv rfl (rg_nil (VS_ret ?_))))))))))
  exact Bd.cut 0 0 rfl ⟨_, rfl, .inr ⟨by omega, rfl, rfl⟩⟩
 ·try simp at c1
  refine VS_skip (VS_seq (VS_r0 rfl (q_mv rfl (q_mv rfl (rg_nil (VS_ret ?_))))))
  exact Bd.now ⟨_, rfl, .inl ⟨by omega, rfl, rfl⟩⟩
theorem sl_slices_Concat_int : slimF prog 35 = some (36, (.seq (.reg 0 (.o 2 (.mv (.c .nils)) .nil)) (.seq (.reg 0 (.o 3 (.mv (.c (.pv (.int .i64 0)))) .nil)) (.seq (.seq (.reg 0 (.o 9 (.mv (.t 0)) (.o 10 (.len (.t 9)) (.o 11 (.mv (.c (.pv (.int .i64 0)))) .nil)))) (.block 0 (.loop (.seq (.reg 0 (.o 12 (.bin .lss (.t 11) (.t 10)) .nil)) (.seq (.cond (.t 12) .skip (.exit 0)) (.seq (.block 1 (.seq (.reg 0 (.o 13 (.idx 1 (.t 9) (.t 11)) (.o 14 (.load 1 false (.t 13)) (.o 5 (.mv (.t 14)) .nil)))) (.seq (.reg 0 (.o 15 (.mv (.t 3)) (.o 16 (.mv (.t 5)) (.o 17 (.len (.t 16)) (.o 18 (.bin .add (.t 15) (.t 17)) (.o 3 (.mv (.t 18)) .nil)))))) (.seq (.reg 0 (.o 19 (.mv (.t 3)) (.o 20 (.bin .lss (.t 19) (.c (.pv (.int .i64 0)))) .nil))) (.cond (.t 20) (.reg 0 (.o 21 (.dead) (.op ⟨none, none, .dead⟩ .nil))) .skip))))) (.reg 0 (.o 22 (.bin .add (.t 11) (.c (.pv (.int .i64 1)))) (.o 11 (.mv (.t 22)) .nil))))))))) (.seq (.reg 0 (.o 23 (.mv (.t 3)) (.o 24 (.call 68 [.c .nils, .t 23]) (.o 6 (.mv (.t 24)) .nil)))) (.seq (.seq (.reg 0 (.o 25 (.mv (.t 0)) (.o 26 (.len (.t 25)) (.o 27 (.mv (.c (.pv (.int .i64 0)))) .nil)))) (.block 2 (.loop (.seq (.reg 0 (.o 28 (.bin .lss (.t 27) (.t 26)) .nil)) (.seq (.cond (.t 28) .skip (.exit 2)) (.seq (.block 3 (.seq (.reg 0 (.o 29 (.idx 1 (.t 25) (.t 27)) (.o 30 (.load 1 false (.t 29)) (.o 8 (.mv (.t 30)) .nil)))) (.reg 0 (.o 31 (.mv (.t 6)) (.o 32 (.mv (.t 8)) (.o 33 (.app 3 1 8 (.t 31) (.t 32)) (.o 6 (.mv (.t 33)) .nil))))))) (.reg 0 (.o 34 (.bin .add (.t 27) (.c (.pv (.int .i64 1)))) (.o 27 (.mv (.t 34)) .nil))))))))) (.seq (.reg 0 (.o 35 (.mv (.t 6)) (.o 2 (.mv (.t 35)) .nil))) .ret))))), [.t 2])) := by kernel_rfl
end Go.V

set_option maxHeartbeats 4000000
namespace Go.V
open Go.Proofs.Try (prog)
set_option maxRecDepth 100000
end Go.V

set_option maxHeartbeats 4000000
namespace Go.V
open Go.Proofs.Try (prog)
set_option maxRecDepth 100000
end Go.V
