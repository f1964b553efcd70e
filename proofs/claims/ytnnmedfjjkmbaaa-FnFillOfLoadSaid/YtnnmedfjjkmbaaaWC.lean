/- A part of the proofs about laws of the page tree (see the text that bears the law): a small language of steps, its rules, and what the functions of the program return. -/
import Derived.Test.YtnnmedfjjkmbaaaWB
import Derived.Test.YtnnmedfjjkmbaaaLD
set_option linter.all false
set_option linter.unusedVariables false
set_option linter.unusedSimpArgs false
set_option maxHeartbeats 4000000
namespace Go.V
open Go.Proofs.Try (prog)
set_option maxRecDepth 100000
end Go.V

set_option maxHeartbeats 4000000
namespace Go.V
open Go.Proofs.Try (prog)
set_option maxRecDepth 100000
theorem sl_laws_equalPairs : slimF prog 15 = some (26, (.seq (.reg 0 (.op ⟨some 4, none, .mv (.c (.pv (.bool false)))⟩ .nil)) (.seq (.seq (.reg 0 (.op ⟨some 6, none, .mv (.t 0)⟩ (.op ⟨some 7, none, .len (.t 6)⟩ (.op ⟨some 8, none, .mv (.t 1)⟩ (.op ⟨some 9, none, .len (.t 8)⟩ (.op ⟨some 10, none, .bin .neq (.t 7) (.t 9)⟩ .nil)))))) (.cond (.t 10) (.seq (.reg 0 (.op ⟨some 4, none, .mv (.c (.pv (.bool false)))⟩ .nil)) .ret) .skip)) (.seq (.seq (.reg 0 (.op ⟨some 5, none, .mv (.c (.pv (.int .i64 0)))⟩ .nil)) (.block 0 (.loop (.seq (.seq (.reg 0 (.op ⟨some 11, none, .mv (.t 5)⟩ (.op ⟨some 12, none, .mv (.t 0)⟩ (.op ⟨some 13, none, .len (.t 12)⟩ (.op ⟨some 14, none, .bin .lss (.t 11) (.t 13)⟩ .nil))))) (.cond (.t 14) .skip (.exit 0))) (.seq (.block 1 (.seq (.reg 1 (.op ⟨some 17, none, .mv (.t 0)⟩ (.op ⟨some 18, none, .mv (.t 5)⟩ (.op ⟨some 19, none, .idx 2 (.t 17) (.t 18)⟩ (.op ⟨some 20, none, .load 2 true (.t 19)⟩ (.op ⟨some 21, none, .mv (.t 1)⟩ (.op ⟨some 22, none, .mv (.t 5)⟩ (.op ⟨some 23, none, .idx 2 (.t 21) (.t 22)⟩ (.op ⟨some 24, none, .load 2 true (.t 23)⟩ (.op ⟨some 25, none, .peq true (.t 20) (.t 24)⟩ .nil)))))))))) (.cond (.t 25) (.seq (.reg 0 (.op ⟨some 4, none, .mv (.c (.pv (.bool false)))⟩ .nil)) .ret) .skip))) (.reg 0 (.op ⟨some 15, none, .mv (.t 5)⟩ (.op ⟨some 16, none, .bin .add (.t 15) (.c (.pv (.int .i64 1)))⟩ (.op ⟨some 5, none, .mv (.t 16)⟩ .nil))))))))) (.seq (.reg 0 (.op ⟨some 4, none, .mv (.c (.pv (.bool true)))⟩ .nil)) .ret))), [.t 4])) := by kernel_rfl
theorem c_laws_equalPairs (xs ys : List (Int × Int)) (hx : xs.length ≤ 1000000000) (hy : ys.length ≤ 1000000000) : PCon prog 15 [prs xs, prs ys] (fun p => p = .bool (decide (xs = ys))) := by
  refine con_of_VS sl_laws_equalPairs (by simp) ?_
  refine VS_seq ?_
  refine VS_r0 rfl ?_
  refine q_mv rfl ?_
  refine rg_nil ?_
  refine VS_seq ?_
  refine VS_seq ?_
  refine VS_r0 rfl ?_
  refine q_mv rfl ?_
  first | refine q_len_m rfl ?_ | refine q_len_s rfl ?_ | refine q_len_o rfl ?_ | refine q_len_n rfl ?_ | refine q_len_x rfl ?_
  refine q_mv rfl ?_
  first | refine q_len_m rfl ?_ | refine q_len_s rfl ?_ | refine q_len_o rfl ?_ | refine q_len_n rfl ?_ | refine q_len_x rfl ?_
  refine q_neq rfl rfl ?_
  refine rg_nil ?_
  refine VS_cond rfl (fun c0 => ?_) (fun c0 => ?_)
  · try simp at c0
    refine VS_seq ?_
    refine VS_r0 rfl ?_
    refine q_mv rfl ?_
    refine rg_nil ?_
    refine VS_ret ?_
    refine Bd.now ⟨_, rfl, congrArg PV.bool (decide_eq_false fun e => ?_).symm⟩
    subst e; omega
  · try simp at c0
    refine VS_skip ?_
    refine VS_seq ?_
    refine VS_seq ?_
    refine VS_r0 rfl ?_
    refine q_mv rfl ?_
    refine rg_nil ?_
    refine VS_block ?_
    refine VS_bd (Bd.keepL [(0, .pv (prs xs)), (1, .pv (prs ys)), (4, .pv (.bool false)), (5, .pv (i64 0))] ⟨rfl, rfl, rfl, rfl, trivial⟩ ?_)
    refine VS_loop (fun mz E S => ∃ i : Nat, mz = xs.length - i ∧ (i ≤ xs.length) ∧ (∀ j, j < i → nth xs j = nth ys j) ∧ E = env [(0, .pv (prs xs)), (1, .pv (prs ys)), (4, .pv (.bool false)), (5, .pv (i64 i))] ∧ S = []) ⟨_, 0, rfl, (by first | omega | (intros; omega) | simp), (by first | omega | (intros; omega) | simp), rfl, rfl⟩ ?_
    rintro mz _ _ ⟨i, hmeas, g0, g1, rfl, rfl⟩
    refine VS_seq ?_
    refine VS_seq ?_
    refine VS_r0 rfl ?_
    refine q_mv rfl ?_
    refine q_mv rfl ?_
    first | refine q_len_m rfl ?_ | refine q_len_s rfl ?_ | refine q_len_o rfl ?_ | refine q_len_n rfl ?_ | refine q_len_x rfl ?_
    refine q_lss rfl rfl ?_
    refine rg_nil ?_
    refine VS_cond rfl (fun c1 => ?_) (fun c1 => ?_)
    · try simp at c1
      refine VS_skip ?_
      refine VS_seq ?_
      refine VS_block ?_
      refine VS_seq ?_
      refine VS_r1 hmix rfl ?_
      refine q_mv rfl ?_
      refine q_mv rfl ?_
      first | refine q_idx_c _ rfl rfl (by omega) (fun _ => rfl) ?_ | refine q_idx_m rfl rfl (by omega) (by omega) (fun _ => rfl) ?_ | refine q_idx_om rfl rfl (by omega) (by omega) rfl rfl ?_
      first | refine q_load_c rfl rfl rfl ?_ | refine q_load_ra rfl rfl rfl rfl rfl (by first | (simp; done) | (simp [setAt]; done)) rfl ?_
      refine q_mv rfl ?_
      refine q_mv rfl ?_
      first | refine q_idx_c _ rfl rfl (by omega) (fun _ => rfl) ?_ | refine q_idx_m rfl rfl (by omega) (by omega) (fun _ => rfl) ?_ | refine q_idx_om rfl rfl (by omega) (by omega) rfl rfl ?_
      first | refine q_load_c rfl rfl rfl ?_ | refine q_load_ra rfl rfl rfl rfl rfl (by first | (simp; done) | (simp [setAt]; done)) rfl ?_
      refine q_peq (k := .i64) (l := .i64) (k' := .i64) (l' := .i64) (a := (nth xs i).1) (b := (nth xs i).2) (a' := (nth ys i).1) (b' := (nth ys i).2) rfl rfl ⟨rfl, rfl⟩ ?_
      refine rg_nil ?_
      refine VS_cond rfl (fun c2 => ?_) (fun c2 => ?_)
      · try simp at c2
        refine VS_seq ?_
        refine VS_r0 rfl ?_
        refine q_mv rfl ?_
        refine rg_nil ?_
        refine VS_ret ?_
        refine Bd.now ⟨_, rfl, congrArg PV.bool (decide_eq_false fun e => ?_).symm⟩
        subst e; simp_all
      · try simp at c2
        refine VS_skip ?_
        refine VS_r0 rfl ?_
        refine q_mv rfl ?_
        refine q_add rfl rfl (inR64 (by omega)) ?_
        refine q_mv rfl ?_
        refine rg_nil ?_
        refine Bd.keepL [(0, .pv (prs xs)), (1, .pv (prs ys)), (4, .pv (.bool false)), (5, .pv (i64 (i + 1)))] ⟨rfl, rfl, rfl, rfl, trivial⟩ ⟨_, ?_, i + 1, rfl, ?_, ?_, rfl, rfl⟩
        · first | omega | assumption | rfl | (simp; omega)
        · first | omega | assumption | rfl | (simp; omega)
        · intro j hj
          by_cases e : j = i
          · subst e; exact Prod.ext (by simp_all) (by simp_all)
          · exact g1 j (by omega)
    · try simp at c1
      refine VS_exit ?_
      refine VS_seq ?_
      refine VS_r0 rfl ?_
      refine q_mv rfl ?_
      refine rg_nil ?_
      refine VS_ret ?_
      exact Bd.now ⟨_, rfl, congrArg PV.bool (decide_eq_true (list_ext_nth (by omega) fun j hj => g1 j (by omega))).symm⟩
end Go.V

set_option maxHeartbeats 4000000
namespace Go.V
open Go.Proofs.Try (prog)
set_option maxRecDepth 100000
end Go.V

set_option maxHeartbeats 4000000
namespace Go.V
open Go.Proofs.Try (prog)
set_option maxRecDepth 100000
end Go.V

set_option maxHeartbeats 4000000
namespace Go.V
open Go.Proofs.Try (prog)
set_option maxRecDepth 100000
end Go.V
