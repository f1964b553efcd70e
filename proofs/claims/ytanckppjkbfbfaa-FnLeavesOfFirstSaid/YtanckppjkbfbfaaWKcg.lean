/- A part of the proofs about laws of the page tree (see the text that bears the law): a small language of steps, its rules, and what the functions of the program return. -/
import Derived.Test.YtanckppjkbfbfaaWKbn
import Derived.Test.YtanckppjkbfbfaaQS
set_option linter.all false
set_option linter.unusedVariables false
set_option linter.unusedSimpArgs false
set_option maxHeartbeats 4000000
namespace Go.V
open Go.Proofs.Try (prog)
set_option maxRecDepth 100000
theorem sl_spec_treeKeys : slimF prog 39 = some (10, (.seq (.reg 0 (.o 1 (.box 25 2 (.t 0)) (.o 2 (.mv (.c .nils)) .nil))) (.seq (.seq (.reg 0 (.o 3 (.load 2 true (.t 1)) (.o 4 (.call 42 [.t 3]) (.o 5 (.not (.t 4)) .nil)))) (.cond (.t 5) (.seq (.reg 0 (.o 6 (.lit 3 1 0 [.pv (.int .i64 0)] []) (.o 2 (.mv (.t 6)) .nil))) .ret) .skip)) (.seq (.reg 0 (.o 7 (.load 2 true (.t 1)) (.o 8 (.call 50 [.t 7]) (.o 9 (.call 49 [.t 8]) (.o 2 (.mv (.t 9)) .nil))))) .ret)), [.t 2])) := by kernel_rfl
theorem c_spec_treeKeys (t : Pt) (hs : smallT t) : PCon prog 39 [ptP t] (fun p => p = ints (keysR (prV t))) := by
 have hpl := prV_len (t := t)
 have hkl := keysV_len (t := t)
 have hkp : (keysR (prV t)).length = (prV t).length := List.length_map ..
 refine con_of_VS sl_spec_treeKeys (by simp) (VS_seq (VS_r0 rfl (q_box rfl rfl rfl trivial (q_mv rfl (rg_nil (VS_seq (VS_seq (VS_r0 rfl (q_load_ra rfl rfl rfl rfl rfl (by (simp; done)) rfl (q_callp (c_spec_validTree t hs) rfl trivial (q_not rfl (rg_nil ?_))))))))))))
 refine VS_cond rfl (fun c0 => ?_) (fun c0 => ?_)
 ·try simp at c0
  have hv : validT t = false := by simpa using c0
  refine VS_seq (VS_r0 rfl (q_lit0 (q_mv rfl (rg_nil (VS_ret ?_)))))
  exact Bd.now ⟨_, rfl, by rw [prV_not hv]; rfl⟩
 ·try simp at c0
  have hv : validT t = true := by simpa using c0
  have hvf := valid_facts hv
  refine VS_skip (VS_seq (VS_r0 rfl (q_load_ra rfl rfl rfl rfl rfl (by (simp; done)) rfl (q_callp ((c_spec_pairsOf t hs (hgtT t) hvf.wk (by have := hvf.n16; omega) (valid_safe hv).rows (by have := prV_len (t := t); rw [prV, if_pos hv] at this; omega)).to (y := prs (prV t)) (by rw [prV, if_pos hv])) rfl trivial (q_callp (c_spec_keysOf (prV t) (by omega)) rfl trivial (q_mv rfl (rg_nil (VS_ret ?_))))))))
  exact Bd.now ⟨_, rfl, rfl⟩
theorem sl_spec_DrawPathTo : slimF prog 14 = some (15, (.seq (.reg 0 (.o 2 (.alloc 25 2 (.agg [.pv (.int .i64 0), .nils])) (.o 3 (.mv (.c (.pv (.int .i64 0)))) .nil))) (.seq (.reg 0 (.o 6 (.mv (.t 0)) (.o 7 (.call 36 [.t 6]) (.o 4 (.mv (.t 7)) .nil)))) (.seq (.reg 0 (.o 8 (.mv (.t 4)) (.o 9 (.call 37 [.t 8]) (.o 5 (.alloc 25 2 (.agg [.pv (.int .i64 0), .nils])) (.op ⟨none, none, .store 2 (.t 5) (.t 9)⟩ .nil))))) (.seq (.reg 2 (.o 10 (.load 2 true (.t 5)) (.o 11 (.mv (.t 4)) (.o 12 (.load 2 true (.t 5)) (.o 13 (.call 39 [.t 12]) (.o 14 (.call 38 [.t 11, .t 13]) (.op ⟨none, none, .store 2 (.t 2) (.t 10)⟩ (.o 3 (.mv (.t 14)) .nil)))))))) .ret))), [.c 2 2, .t 3])) := by kernel_rfl
theorem c_spec_DrawPathTo (bs : List Int) (hb : isU8 bs) (hl : bs.length ≤ 1048576) : PCon prog 14 [u8s bs] (fun p => ∃ (t : Pt) (k : Int), p = .tup [ptP t, i64 k] ∧ AnyT t ∧ -1000000001 ≤ k ∧ k ≤ 1000000001) := by
 refine con_of_VS sl_spec_DrawPathTo (by simp) (VS_seq (VS_r0 rfl (q_alloc trivial (q_mv rfl (rg_nil (VS_seq (VS_r0 rfl (q_mv rfl ?_))))))))
 refine q_newRd rfl (c_spec_newReader _ hb hl) rfl (fun _ => trivial) ?_
 rintro bs ⟨hb, hbl⟩
 refine q_mv rfl (rg_nil (VS_seq (VS_r0 rfl (q_mv rfl ?_))))
 refine q_rd rfl (c_spec_anyTree bs hb hbl _ (by omega) (by omega)) rfl rfl (fun _ => trivial) ?_
 rintro _ q9 ⟨t, rfl, ha, hq1, hq2⟩
 refine q_alloc trivial (q_store rfl rfl rfl rfl rfl rfl ⟨rfl, rfl, by simp, rfl, by simp [isOne]⟩ rfl trivial (rg_nil ?_))
 have hkl := keysV_len (t := t)
 refine VS_seq (VS_r2 [none, none, some ⟨25, 2, [.agg [.pv (i64 t.r), .pv (pgsP t.ps)]]⟩] hmix (SubL.sub (by repeat constructor)) (q_load_ra rfl rfl rfl rfl rfl (by (simp; done)) rfl (q_mv rfl (q_load_ra rfl rfl rfl rfl rfl (by (simp; done)) rfl (q_callp (c_spec_treeKeys t ha.small) rfl (SubL.sub (by repeat constructor)) ?_)))))
 refine q_rd rfl (c_spec_keyNear bs hb hbl _ (by omega) (keysR (prV t)) (by omega) keysV_bd (by omega)) rfl rfl (fun _ => (SubL.sub (by repeat constructor))) ?_
 rintro _ q14 ⟨k, rfl, qvk, ⟨hq3, hq4⟩⟩
 refine q_store rfl rfl rfl rfl rfl rfl ⟨rfl, rfl, by simp, rfl, by simp [isOne]⟩ rfl (SubL.sub (by repeat constructor)) (q_mv rfl (rg_nil (VS_ret ?_)))
 exact Bd.now ⟨_, rfl, t, k, rfl, ha, qvk⟩
theorem sl_spec_PathTo : slimF prog 17 = some (11, (.seq (.reg 0 (.o 2 (.box 25 2 (.t 0)) (.o 4 (.mv (.c .nils)) .nil))) (.seq (.seq (.reg 0 (.o 5 (.load 2 true (.t 2)) (.o 6 (.call 42 [.t 5]) (.o 7 (.not (.t 6)) .nil)))) (.cond (.t 7) (.seq (.reg 0 (.o 4 (.mv (.c .nils)) .nil)) .ret) .skip)) (.seq (.reg 0 (.o 8 (.load 2 true (.t 2)) (.o 9 (.mv (.t 1)) (.o 10 (.call 43 [.t 8, .t 9]) (.o 4 (.mv (.t 10)) .nil))))) .ret)), [.t 4])) := by kernel_rfl
theorem c_spec_PathTo (t : Pt) (hs : smallT t) (k : Int) : PCon prog 17 [ptP t, i64 k] (fun p => p = ints (if validT t then pthT t k else [])) := by
 refine con_of_VS sl_spec_PathTo (by simp) (VS_seq (VS_r0 rfl (q_box rfl rfl rfl trivial (q_mv rfl (rg_nil (VS_seq (VS_seq (VS_r0 rfl (q_load_ra rfl rfl rfl rfl rfl (by (simp; done)) rfl (q_callp (c_spec_validTree t hs) rfl trivial (q_not rfl (rg_nil ?_))))))))))))
 refine VS_cond rfl (fun c0 => ?_) (fun c0 => ?_)
 ·try simp at c0
  have hv : validT t = false := by simpa using c0
  refine VS_seq (VS_r0 rfl (q_mv rfl (rg_nil (VS_ret ?_))))
  exact Bd.now ⟨_, rfl, by rw [hv]; rfl⟩
 ·try simp at c0
  have hv : validT t = true := by simpa using c0
  have hok := (valid_ok hv).2.2.1
  have hh3 := (valid_ok hv).2.1
  refine VS_skip (VS_seq (VS_r0 rfl (q_load_ra rfl rfl rfl rfl rfl (by (simp; done)) rfl (q_mv rfl (q_callp (c_spec_pathTo t hs k (hgtT t) 0 100 hh3 hok) rfl trivial (q_mv rfl (rg_nil (VS_ret ?_))))))))
  exact Bd.now ⟨_, rfl, by rw [if_pos hv]; rfl⟩
end Go.V
