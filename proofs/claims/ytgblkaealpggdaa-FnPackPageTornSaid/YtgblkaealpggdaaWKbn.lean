/- A part of the proofs about laws of the page tree (see the text that bears the law): a small language of steps, its rules, and what the functions of the program return. -/
import Derived.Test.YtgblkaealpggdaaWKbm
import Derived.Test.YtgblkaealpggdaaQL
import Derived.Test.YtgblkaealpggdaaWB
set_option linter.all false
set_option linter.unusedVariables false
set_option linter.unusedSimpArgs false
set_option maxHeartbeats 4000000
namespace Go.V
open Go.Proofs.Try (prog)
set_option maxRecDepth 100000
theorem sl_impl_insideOf : slimF prog 67 = some (8, (.seq (.reg 0 (.o 1 (.box 25 3 (.t 0)) (.o 2 (.alloc 88 2 (.agg [.nils, .nils])) .nil))) (.seq (.reg 0 (.o 3 (.fld 0 1 false (.t 1)) (.o 4 (.load 1 false (.t 3)) (.o 5 (.fld 1 1 false (.t 1)) (.o 6 (.load 1 false (.t 5)) (.o 7 (.build [.nils, .nils] [(0, (1, .t 4)), (1, (1, .t 6))]) (.op ⟨none, none, .store 2 (.t 2) (.t 7)⟩ .nil))))))) .ret), [.c 2 2])) := by kernel_rfl
theorem c_impl_insideOf (g : Pg) : PCon prog 67 [pgP g] (fun p => p = innP g.ks g.cs) := by
 refine con_of_VS sl_impl_insideOf (by simp) (VS_seq (VS_r0 rfl (q_box rfl rfl rfl trivial (q_alloc trivial (rg_nil (VS_seq (VS_r0 rfl (q_fld_r rfl (q_load_r rfl rfl rfl rfl rfl rfl rfl (q_fld_r rfl (q_load_r rfl rfl rfl rfl rfl rfl rfl (q_build rfl (q_store rfl rfl rfl rfl rfl rfl ⟨rfl, rfl, by simp, rfl, by simp [isOne]⟩ rfl trivial (rg_nil (VS_ret ?_)))))))))))))))
 exact Bd.now ⟨_, rfl, rfl⟩
end Go.V
