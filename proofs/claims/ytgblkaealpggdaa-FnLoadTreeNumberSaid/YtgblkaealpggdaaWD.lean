/- A part of the proofs about laws of the page tree (see the text that bears the law): a small language of steps, its rules, and what the functions of the program return. -/
import Derived.Test.YtgblkaealpggdaaWC
import Derived.Test.YtgblkaealpggdaaWA
import Derived.Test.YtgblkaealpggdaaLE
import Derived.Test.YtgblkaealpggdaaWB
set_option linter.all false
set_option linter.unusedVariables false
set_option linter.unusedSimpArgs false
set_option maxHeartbeats 4000000
namespace Go.V
open Go.Proofs.Try (prog)
set_option maxRecDepth 100000
theorem c_slices_Clone_int_p (xs : List Int) (hl : xs.length ≤ 1000000000) : PCon prog 39 [ints xs] (fun p => p = ints xs) := by
 refine con_of_VS sl_slices_Clone_int (by simp) (VS_seq (VS_r0 rfl (q_mv rfl (rg_nil (VS_seq (VS_seq (VS_r0 rfl (q_mv rfl ?_))))))))
 refine q_isnil_m rfl trivial ?_ ?_
 ·skip
  refine rg_nil ?_
  refine VS_cond rfl (fun e => by cases e) (fun _ => ?_)
  refine VS_skip (VS_seq (VS_r0 rfl (q_lit0 (q_mv rfl (q_app_zm (ys := xs) (f := fun k => .pv (i64 k)) rfl (elems_I xs) (cell_I xs) ⟨by omega, by omega⟩ trivial (q_mv rfl (rg_nil (VS_ret (Bd.pureB 2 0 3 1 (xs := dI xs) rfl rfl (toPVs_dI _) ?_)))))))))
  exact Bd.now ⟨_, rfl, rfl⟩
 ·intro hn
  rw [List.map_eq_nil_iff] at hn
  subst hn
  refine rg_nil ?_
  refine VS_cond rfl (fun _ => ?_) (fun e => by cases e)
  refine VS_seq (VS_r0 rfl (q_mv rfl (rg_nil (VS_ret ?_))))
  exact Bd.now ⟨_, rfl, rfl⟩
end Go.V

set_option maxHeartbeats 4000000
namespace Go.V
open Go.Proofs.Try (prog)
set_option maxRecDepth 100000
end Go.V
