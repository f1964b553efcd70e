/- A part of the proofs about laws of the page tree (see the text that bears the law): a small language of steps, its rules, and what the functions of the program return. -/
import Derived.Test.YtfhalijoljgafaaWKbm
import Derived.Test.YtfhalijoljgafaaQL
import Derived.Test.YtfhalijoljgafaaWB
set_option linter.all false
set_option linter.unusedVariables false
set_option linter.unusedSimpArgs false
set_option maxHeartbeats 4000000
namespace Go.V
open Go.Proofs.Try (prog)
set_option maxRecDepth 100000
theorem sl_spec_DrawValidTree : slimF prog 15 = some (6, (.seq (.reg 0 (.o 2 (.alloc 25 2 (.agg [.pv (.int .i64 0), .nils])) .nil)) (.seq (.reg 0 (.o 3 (.mv (.t 0)) (.o 4 (.call 46 [.t 3]) (.o 5 (.call 45 [.t 4]) (.op ⟨none, none, .store 2 (.t 2) (.t 5)⟩ .nil))))) .ret), [.c 2 2])) := by kernel_rfl
theorem c_spec_DrawValidTree (bs : List Int) (hb : isU8 bs) (hl : bs.length ≤ 1048576) : PCon prog 15 [u8s bs] (fun p => ∃ t : Pt, p = ptP t ∧ AnyT t) := by
  refine con_of_VS sl_spec_DrawValidTree (by simp) (VS_seq (VS_r0 rfl (q_alloc trivial (rg_nil (VS_seq (VS_r0 rfl (q_mv rfl ?_)))))))
  refine q_newRd rfl (c_spec_newReader _ hb hl) rfl (fun _ => trivial) ?_
  rintro bs ⟨hb, hbl⟩
  refine q_rd rfl (c_spec_anyTree bs hb hbl _ (by omega) (by omega)) rfl rfl (fun _ => trivial) ?_
  rintro _ q5 ⟨t, rfl, ha, hq1, hq2⟩
  refine q_store rfl rfl rfl rfl rfl rfl ⟨rfl, rfl, by simp, rfl, by simp [isOne]⟩ rfl trivial (rg_nil (VS_ret ?_))
  exact Bd.now ⟨_, rfl, t, rfl, ha⟩
theorem sl_spec_ValidTree : slimF prog 17 = some (5, (.seq (.reg 0 (.o 1 (.box 25 2 (.t 0)) (.o 2 (.mv (.c (.pv (.bool false)))) .nil))) (.seq (.reg 0 (.o 3 (.load 2 true (.t 1)) (.o 4 (.call 48 [.t 3]) (.o 2 (.mv (.t 4)) .nil)))) .ret), [.t 2])) := by kernel_rfl
theorem c_spec_ValidTree (t : Pt) (hs : smallT t) : PCon prog 17 [ptP t] (fun p => p = .bool (validT t)) := by
  refine con_of_VS sl_spec_ValidTree (by simp) (VS_seq (VS_r0 rfl (q_box rfl rfl rfl trivial (q_mv rfl (rg_nil (VS_seq (VS_r0 rfl (q_load_ra rfl rfl rfl rfl rfl (by (simp; done)) rfl (q_callp (c_spec_validTree t hs) rfl trivial (q_mv rfl (rg_nil (VS_ret ?_))))))))))))
  exact Bd.now ⟨_, rfl, rfl⟩
end Go.V
