/- A part of the proofs about laws of the page tree (see the text that bears the law): a small language of steps, its rules, and what the functions of the program return. -/
import Derived.Test.YtgblkaealpggdaaWKcw
import Derived.Test.YtgblkaealpggdaaWKbn
import Derived.Test.YtgblkaealpggdaaQY
set_option linter.all false
set_option linter.unusedVariables false
set_option linter.unusedSimpArgs false
set_option maxHeartbeats 4000000
namespace Go.V
open Go.Proofs.Try (prog)
set_option maxRecDepth 100000
theorem sl_spec_RenumberTree : slimF prog 25 = some (10, (.seq (.reg 0 (.o 1 (.box 39 2 (.t 0)) (.o 2 (.alloc 39 2 (.agg [.pv (.int .i64 0), .nils])) (.o 3 (.mv (.c (.pv (.bool false)))) .nil)))) (.seq (.seq (.reg 0 (.o 4 (.load 2 true (.t 1)) (.o 5 (.call 49 [.t 4]) (.o 6 (.not (.t 5)) .nil)))) (.cond (.t 6) (.seq (.reg 0 (.o 7 (.build [.pv (.int .i64 0), .nils] []) (.op ⟨none, none, .store 2 (.t 2) (.t 7)⟩ (.o 3 (.mv (.c (.pv (.bool false)))) .nil)))) .ret) .skip)) (.seq (.reg 0 (.o 8 (.load 2 true (.t 1)) (.o 9 (.call 56 [.t 8]) (.op ⟨none, none, .store 2 (.t 2) (.t 9)⟩ (.o 3 (.mv (.c (.pv (.bool true)))) .nil))))) .ret)), [.c 2 2, .t 3])) := by kernel_rfl
theorem c_spec_RenumberTree (t : Pt) (hs : smallT t) : PCon prog 25 [ptP t] (fun p => p = .tup [ptP (if validT t then rnT t else ⟨0, []⟩), .bool (validT t)]) := by
 refine con_of_VS sl_spec_RenumberTree (by simp) (VS_seq (VS_r0 rfl (q_box rfl rfl rfl trivial (q_alloc trivial (q_mv rfl (rg_nil (VS_seq (VS_seq (VS_r0 rfl (q_load_ra rfl rfl rfl rfl rfl (by (simp; done)) rfl (q_callp (c_spec_validTree t hs) rfl trivial (q_not rfl (rg_nil ?_)))))))))))))
 refine VS_cond rfl (fun c0 => ?_) (fun c0 => ?_)
 ·try simp at c0
  have hv : validT t = false := by simpa using c0
  refine VS_seq (VS_r0 rfl (q_build rfl (q_store rfl rfl rfl rfl rfl rfl ⟨rfl, rfl, by simp, rfl, by simp [isOne]⟩ rfl trivial (q_mv rfl (rg_nil (VS_ret ?_))))))
  exact Bd.now ⟨_, rfl, by rw [hv]; rfl⟩
 ·try simp at c0
  have hv : validT t = true := by simpa using c0
  refine VS_skip (VS_seq (VS_r0 rfl (q_load_ra rfl rfl rfl rfl rfl (by (simp; done)) rfl ?_)))
  refine q_newTs rfl (show NewT prog 56 25 [ptP t] (rnT t) from c_spec_renumber t hs hv) (by repeat (first | exact trivial | refine ⟨.inl rfl, ?_⟩ | refine ⟨.inr ⟨_, rfl, rfl⟩, ?_⟩)) trivial ?_
  refine q_store rfl rfl rfl rfl rfl rfl ⟨rfl, rfl, by simp, rfl, by simp [isOne]⟩ rfl trivial (q_mv rfl (rg_nil ?_))
  refine VS_bd (Bd.frzF 2 1 0 1 25 3 (xs := dG (rnT t).ps) (by decide) rfl (toPVs_dG _) rfl rfl rfl ?_)
  refine VS_ret ?_
  exact Bd.now ⟨_, rfl, by rw [hv]; rfl⟩
theorem sl_spec_DrawRenumberTree : slimF prog 23 = some (6, (.seq (.reg 0 (.o 2 (.alloc 39 2 (.agg [.pv (.int .i64 0), .nils])) .nil)) (.seq (.reg 0 (.o 3 (.mv (.t 0)) (.o 4 (.call 33 [.t 3]) (.o 5 (.call 46 [.t 4]) (.op ⟨none, none, .store 2 (.t 2) (.t 5)⟩ .nil))))) .ret), [.c 2 2])) := by kernel_rfl
theorem c_spec_DrawRenumberTree (bs : List Int) (hb : isU8 bs) (hl : bs.length ≤ 1048576) : PCon prog 23 [u8s bs] (fun p => ∃ t : Pt, p = ptP t ∧ AnyT t) := by
 refine con_of_VS sl_spec_DrawRenumberTree (by simp) (VS_seq (VS_r0 rfl (q_alloc trivial (rg_nil (VS_seq (VS_r0 rfl (q_mv rfl ?_)))))))
 refine q_newRd rfl (c_spec_newReader _ hb hl) rfl (fun _ => trivial) ?_
 rintro bs ⟨hb, hbl⟩
 refine q_rd rfl (c_spec_anyTree bs hb hbl _ (by omega) (by omega)) rfl rfl (fun _ => trivial) ?_
 rintro _ q5 ⟨t, rfl, ha, hq1, hq2⟩
 refine q_store rfl rfl rfl rfl rfl rfl ⟨rfl, rfl, by simp, rfl, by simp [isOne]⟩ rfl trivial (rg_nil (VS_ret ?_))
 exact Bd.now ⟨_, rfl, t, rfl, ha⟩
end Go.V
