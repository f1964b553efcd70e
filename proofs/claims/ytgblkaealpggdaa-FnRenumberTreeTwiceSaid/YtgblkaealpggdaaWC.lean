/- A part of the proofs about laws of the page tree (see the text that bears the law): a small language of steps, its rules, and what the functions of the program return. -/
import Derived.Test.YtgblkaealpggdaaWB
import Derived.Test.YtgblkaealpggdaaLD
set_option linter.all false
set_option linter.unusedVariables false
set_option linter.unusedSimpArgs false
set_option maxHeartbeats 4000000
namespace Go.V
open Go.Proofs.Try (prog)
set_option maxRecDepth 100000
end Go.V

set_option maxHeartbeats 4000000
namespace Go.V
open Go.Proofs.Try (prog)
set_option maxRecDepth 100000
theorem sl_spec_SplitRow : slimF prog 107 = some (20, (.seq (.reg 0 (.o 2 (.mv (.c .nils)) (.o 3 (.mv (.c .nils)) .nil))) (.seq (.seq (.reg 0 (.o 5 (.mv (.t 0)) (.o 6 (.call 63 [.t 5]) (.o 7 (.not (.t 6)) .nil)))) (.cond (.t 7) (.seq (.reg 0 (.o 2 (.mv (.c .nils)) (.o 3 (.mv (.c .nils)) .nil))) .ret) .skip)) (.seq (.reg 0 (.o 8 (.mv (.t 0)) (.o 9 (.len (.t 8)) (.o 10 (.bin .add (.t 9) (.c (.pv (.int .i64 1)))) (.o 11 (.bin .quo (.t 10) (.c (.pv (.int .i64 2)))) (.o 4 (.mv (.t 11)) .nil)))))) (.seq (.reg 2 (.o 12 (.mv (.t 0)) (.o 13 (.mv (.t 4)) (.o 14 (.slc 2 (.t 12) none (some (.t 13))) (.o 16 (.mv (.t 0)) (.o 17 (.mv (.t 4)) (.o 18 (.slc 2 (.t 16) (some (.t 17)) none) (.o 15 (.call 104 [.t 14]) (.o 19 (.call 104 [.t 18]) (.o 2 (.mv (.t 15)) (.o 3 (.mv (.t 19)) .nil))))))))))) .ret))), [.t 2, .t 3])) := by kernel_rfl
theorem c_spec_SplitRow (xs : List (Int × Int)) (hl : xs.length ≤ 100000000) : PCon prog 107 [prs xs] (fun p => p = .tup [prs (splA xs), prs (splB xs)]) := by
 refine con_of_VS sl_spec_SplitRow (by simp) (VS_seq (VS_r0 rfl (q_mv rfl (q_mv rfl (rg_nil (VS_seq (VS_seq (VS_r0 rfl (q_mv rfl (q_callp (c_spec_validRow xs hl) rfl trivial (q_not rfl (rg_nil ?_))))))))))))
 refine VS_cond rfl (fun c0 => ?_) (fun c0 => ?_)
 ·try simp at c0
  refine VS_seq (VS_r0 rfl (q_mv rfl (q_mv rfl (rg_nil (VS_ret ?_)))))
  exact Bd.now ⟨_, rfl, by simp [splA, splB, c0]⟩
 ·try simp at c0
  refine VS_skip (VS_seq ?_)
  have hh : halfR xs = (xs.length + 1) / 2 := rfl
  refine VS_r0 rfl (q_mv rfl (q_len_m rfl (q_add rfl rfl (inR64 (by omega)) (q_quo_to ((halfR xs : Nat) : Int) rfl rfl ⟨by omega, by omega⟩ (by omega) (inR64 (by omega)) (q_mv rfl (rg_nil (VS_seq (VS_r2 [] hmix Sub.nil (q_mv rfl (q_mv rfl (q_slc_m (xs := xs) (f := pairP) 0 (halfR xs) rfl rfl rfl ⟨rfl, rfl, by omega, by omega⟩ (fun _ => rfl) (q_mv rfl (q_mv rfl (q_slc_m (xs := xs) (f := pairP) (halfR xs) xs.length rfl rfl rfl ⟨rfl, by simp, by omega, by omega⟩ (fun _ => rfl) (q_new rfl (c_spec_copyRow ((xs.take (halfR xs)).drop 0) (by simp; omega)) (flat_P _) (by rfl) Sub.nil ?_)))))))))))))))
  refine q_new rfl (c_spec_copyRow ((xs.take xs.length).drop (halfR xs)) (by simp; omega)) (flat_P _) (by rfl) Sub.nil (q_mv rfl (q_mv rfl (rg_nil ?_)))
  refine VS_bd (Bd.pure 2 0 81 2 (xs := dP ((xs.take (halfR xs)).drop 0)) rfl rfl (toPVs_dP _) ?_)
  refine VS_bd (Bd.pure 3 1 81 2 (xs := dP ((xs.take xs.length).drop (halfR xs))) rfl rfl (toPVs_dP _) ?_)
  refine VS_ret ?_
  exact Bd.now ⟨_, rfl, by simp [splA, splB, c0]⟩
end Go.V

set_option maxHeartbeats 4000000
namespace Go.V
open Go.Proofs.Try (prog)
set_option maxRecDepth 100000
end Go.V

set_option maxHeartbeats 4000000
namespace Go.V
open Go.Proofs.Try (prog)
set_option maxRecDepth 100000
end Go.V

set_option maxHeartbeats 4000000
namespace Go.V
open Go.Proofs.Try (prog)
set_option maxRecDepth 100000
end Go.V
