/- A part of the proofs about laws of the page tree (see the text that bears the law): a small language of steps, its rules, and what the functions of the program return. -/
import Derived.Test.YtnnmedfjjkmbaaaWH
import Derived.Test.YtnnmedfjjkmbaaaLH
set_option linter.all false
set_option linter.unusedVariables false
set_option linter.unusedSimpArgs false
set_option maxHeartbeats 4000000
namespace Go.V
open Go.Proofs.Try (prog)
set_option maxRecDepth 100000
theorem sl_laws_FnLoadTree : slimF prog 10 = some (57, (.seq (.reg 0 (.op ⟨some 2, none, .mv (.c (.pv (.bool false)))⟩ .nil)) (.seq (.seq (.reg 0 (.op ⟨some 8, none, .mv (.t 0)⟩ (.op ⟨some 9, none, .len (.t 8)⟩ (.op ⟨some 10, none, .bin .gtr (.t 9) (.c (.pv (.int .i64 1048576)))⟩ .nil)))) (.cond (.t 10) (.seq (.reg 0 (.op ⟨some 2, none, .mv (.c (.pv (.bool true)))⟩ .nil)) .ret) .skip)) (.seq (.reg 0 (.op ⟨some 11, none, .mv (.t 0)⟩ (.op ⟨some 12, none, .call 29 [.t 11]⟩ (.op ⟨some 3, none, .mv (.t 12)⟩ .nil)))) (.seq (.reg 0 (.op ⟨some 14, none, .mv (.t 3)⟩ (.op ⟨some 15, none, .call 30 [.t 14]⟩ (.op ⟨some 13, none, .mv (.t 15)⟩ (.op ⟨some 16, none, .ext (.t 13) 0⟩ (.op ⟨some 17, none, .ext (.t 13) 1⟩ (.op ⟨some 4, none, .alloc 53 2 (.agg [.pv (.int .i64 0), .nils])⟩ (.op ⟨none, none, .store 2 (.t 4) (.t 16)⟩ (.op ⟨some 5, none, .mv (.t 17)⟩ .nil))))))))) (.seq (.reg 0 (.op ⟨some 19, none, .mv (.t 3)⟩ (.op ⟨some 20, none, .call 31 [.t 19]⟩ (.op ⟨some 18, none, .mv (.t 20)⟩ (.op ⟨some 21, none, .ext (.t 18) 0⟩ (.op ⟨some 22, none, .ext (.t 18) 1⟩ (.op ⟨some 6, none, .alloc 53 2 (.agg [.pv (.int .i64 0), .nils])⟩ (.op ⟨none, none, .store 2 (.t 6) (.t 21)⟩ (.op ⟨some 7, none, .mv (.t 22)⟩ .nil))))))))) (.seq (.seq (.reg 0 (.op ⟨some 23, none, .load 2 true (.t 4)⟩ (.op ⟨some 24, none, .load 2 true (.t 6)⟩ (.op ⟨some 25, none, .call 32 [.t 23, .t 24]⟩ (.op ⟨some 26, none, .not (.t 25)⟩ (.op ⟨some 27, none, .mv (.t 26)⟩ (.op ⟨some 28, some (27, false), .mv (.t 5)⟩ (.op ⟨some 29, some (27, false), .mv (.t 7)⟩ (.op ⟨some 30, some (27, false), .beq true (.t 28) (.t 29)⟩ (.op ⟨some 31, none, .pick (.t 27) (.c (.pv (.bool true))) (.t 30)⟩ (.op ⟨some 32, none, .mv (.t 31)⟩ (.op ⟨some 33, some (32, false), .mv (.t 5)⟩ (.op ⟨some 34, some (32, false), .not (.t 33)⟩ (.op ⟨some 35, none, .pick (.t 32) (.c (.pv (.bool true))) (.t 34)⟩ .nil)))))))))))))) (.cond (.t 35) (.seq (.reg 0 (.op ⟨some 36, none, .load 2 true (.t 4)⟩ (.op ⟨some 37, none, .load 2 true (.t 6)⟩ (.op ⟨some 38, none, .call 32 [.t 36, .t 37]⟩ (.op ⟨some 39, none, .mv (.t 38)⟩ (.op ⟨some 40, some (39, true), .mv (.t 5)⟩ (.op ⟨some 41, some (39, true), .mv (.t 7)⟩ (.op ⟨some 42, some (39, true), .beq false (.t 40) (.t 41)⟩ (.op ⟨some 43, none, .pick (.t 39) (.t 42) (.c (.pv (.bool false)))⟩ (.op ⟨some 2, none, .mv (.t 43)⟩ .nil)))))))))) .ret) .skip)) (.seq (.reg 0 (.op ⟨some 44, none, .load 2 true (.t 4)⟩ (.op ⟨some 45, none, .call 36 [.t 44]⟩ (.op ⟨some 46, none, .mv (.t 3)⟩ (.op ⟨some 47, none, .call 15 [.t 45, .t 46]⟩ (.op ⟨some 48, none, .mv (.t 47)⟩ (.op ⟨some 49, some (48, true), .load 2 true (.t 4)⟩ (.op ⟨some 50, some (48, true), .call 37 [.t 49]⟩ (.op ⟨some 51, none, .pick (.t 48) (.t 50) (.c (.pv (.bool false)))⟩ (.op ⟨some 52, none, .mv (.t 51)⟩ (.op ⟨some 53, some (52, true), .fld 0 1 false (.t 4)⟩ (.op ⟨some 54, some (52, true), .load 1 false (.t 53)⟩ (.op ⟨some 55, some (52, true), .bin .eql (.t 54) (.c (.pv (.int .i64 0)))⟩ (.op ⟨some 56, none, .pick (.t 52) (.t 55) (.c (.pv (.bool false)))⟩ (.op ⟨some 2, none, .mv (.t 56)⟩ .nil))))))))))))))) .ret)))))), [.t 2])) := by kernel_rfl
theorem c_laws_FnLoadTree (bs : List Int) (hb : isU8 bs) : PCon prog 10 [u8s bs] (fun p => p = .bool true) := by
  refine con_of_VS sl_laws_FnLoadTree (by simp) ?_
  refine VS_seq ?_
  refine VS_r0 rfl ?_
  refine q_mv rfl ?_
  refine rg_nil ?_
  refine VS_seq ?_
  refine VS_seq ?_
  refine VS_r0 rfl ?_
  refine q_mv rfl ?_
  first | refine q_len_m rfl ?_ | refine q_len_s rfl ?_ | refine q_len_o rfl ?_ | refine q_len_n rfl ?_ | refine q_len_x rfl ?_
  refine q_gtr rfl rfl ?_
  refine rg_nil ?_
  refine VS_cond rfl (fun c0 => ?_) (fun c0 => ?_)
  · try simp at c0
    refine VS_seq ?_
    refine VS_r0 rfl ?_
    refine q_mv rfl ?_
    refine rg_nil ?_
    refine VS_ret ?_
    exact Bd.now ⟨_, rfl, rfl⟩
  · try simp at c0
    refine VS_skip ?_
    refine VS_seq ?_
    refine VS_r0 rfl ?_
    refine q_mv rfl ?_
    refine q_calle rfl (c_spec_DrawLoadTree bs hb (by omega)) rfl trivial ?_
    rintro _ ⟨xs, rfl, hx1, hx2⟩
    refine q_mv rfl ?_
    refine rg_nil ?_
    refine VS_seq ?_
    cases hg : goodR xs
    · skip
      have hs0 := small0
      refine VS_r0 rfl ?_
      refine q_mv rfl ?_
      refine q_callp ((c_impl_LoadTree xs (by omega)).to (y := .tup [ptP ⟨0, []⟩, .bool false]) (by rw [hg]; rfl)) rfl trivial ?_
      refine q_mv rfl ?_
      refine q_ext rfl rfl ?_
      refine q_ext rfl rfl ?_
      refine q_alloc trivial ?_
      first | refine q_store rfl rfl rfl rfl rfl rfl ⟨rfl, rfl, by simp, rfl, by simp [isOne]⟩ rfl trivial ?_ | refine q_storeF rfl rfl rfl rfl rfl (by first | (simp; done) | (simp [setAt]; done)) trivial ?_ | refine q_store rfl rfl rfl rfl rfl rfl ⟨rfl, rfl, by simp, by simp [setAt, isCell_own, isCell_sl, isCell_int, isCell_nils], by simp [isOne]⟩ rfl trivial ?_
      refine q_mv rfl ?_
      refine rg_nil ?_
      refine VS_seq ?_
      refine VS_r0 rfl ?_
      refine q_mv rfl ?_
      refine q_callp ((c_spec_LoadTree xs (by omega)).to (y := .tup [ptP ⟨0, []⟩, .bool false]) (by rw [hg]; rfl)) rfl trivial ?_
      refine q_mv rfl ?_
      refine q_ext rfl rfl ?_
      refine q_ext rfl rfl ?_
      refine q_alloc trivial ?_
      first | refine q_store rfl rfl rfl rfl rfl rfl ⟨rfl, rfl, by simp, rfl, by simp [isOne]⟩ rfl trivial ?_ | refine q_storeF rfl rfl rfl rfl rfl (by first | (simp; done) | (simp [setAt]; done)) trivial ?_ | refine q_store rfl rfl rfl rfl rfl rfl ⟨rfl, rfl, by simp, by simp [setAt, isCell_own, isCell_sl, isCell_int, isCell_nils], by simp [isOne]⟩ rfl trivial ?_
      refine q_mv rfl ?_
      refine rg_nil ?_
      refine VS_seq ?_
      refine VS_seq ?_
      refine VS_r0 rfl ?_
      first | refine q_load_c rfl rfl rfl ?_ | refine q_load_ra rfl rfl rfl rfl rfl (by first | (simp; done) | (simp [setAt]; done)) rfl ?_
      first | refine q_load_c rfl rfl rfl ?_ | refine q_load_ra rfl rfl rfl rfl rfl (by first | (simp; done) | (simp [setAt]; done)) rfl ?_
      refine q_callp (x := .bool true) ((c_laws_equalTree _ _ (by assumption) (by assumption)).eqT (by first | rfl | (simp; done))) rfl trivial ?_
      refine q_not rfl ?_
      refine q_mv rfl ?_
      refine q_t rfl ?_
      refine q_mv rfl ?_
      refine q_t rfl ?_
      refine q_mv rfl ?_
      refine q_t rfl ?_
      refine q_beq_v false rfl rfl (rfl) ?_
      refine q_pick_f rfl rfl ?_
      refine q_mv rfl ?_
      refine q_t rfl ?_
      refine q_mv rfl ?_
      refine q_t rfl ?_
      refine q_not rfl ?_
      refine q_pick_f rfl rfl ?_
      refine rg_nil ?_
      refine VS_cond rfl (fun _ => ?_) (fun e => by cases e)
      refine VS_seq ?_
      refine VS_r0 rfl ?_
      first | refine q_load_c rfl rfl rfl ?_ | refine q_load_ra rfl rfl rfl rfl rfl (by first | (simp; done) | (simp [setAt]; done)) rfl ?_
      first | refine q_load_c rfl rfl rfl ?_ | refine q_load_ra rfl rfl rfl rfl rfl (by first | (simp; done) | (simp [setAt]; done)) rfl ?_
      refine q_callp (x := .bool true) ((c_laws_equalTree _ _ (by assumption) (by assumption)).eqT (by first | rfl | (simp; done))) rfl trivial ?_
      refine q_mv rfl ?_
      refine q_t rfl ?_
      refine q_mv rfl ?_
      refine q_t rfl ?_
      refine q_mv rfl ?_
      refine q_t rfl ?_
      refine q_beq_v true rfl rfl (rfl) ?_
      refine q_pick_t rfl rfl ?_
      refine q_mv rfl ?_
      refine rg_nil ?_
      refine VS_ret ?_
      exact Bd.now ⟨_, rfl, rfl⟩
    · skip
      obtain ⟨hv, hpr, hlv, hcn, hs⟩ := load_good hg
      have hx := goodR_len hg
      have hn := nlv_le hx
      refine VS_r0 rfl ?_
      refine q_mv rfl ?_
      refine q_callp ((c_impl_LoadTree xs (by omega)).to (y := .tup [ptP (loadT xs), .bool true]) (by rw [hg]; rfl)) rfl trivial ?_
      refine q_mv rfl ?_
      refine q_ext rfl rfl ?_
      refine q_ext rfl rfl ?_
      refine q_alloc trivial ?_
      first | refine q_store rfl rfl rfl rfl rfl rfl ⟨rfl, rfl, by simp, rfl, by simp [isOne]⟩ rfl trivial ?_ | refine q_storeF rfl rfl rfl rfl rfl (by first | (simp; done) | (simp [setAt]; done)) trivial ?_ | refine q_store rfl rfl rfl rfl rfl rfl ⟨rfl, rfl, by simp, by simp [setAt, isCell_own, isCell_sl, isCell_int, isCell_nils], by simp [isOne]⟩ rfl trivial ?_
      refine q_mv rfl ?_
      refine rg_nil ?_
      refine VS_seq ?_
      refine VS_r0 rfl ?_
      refine q_mv rfl ?_
      refine q_callp ((c_spec_LoadTree xs (by omega)).to (y := .tup [ptP (loadT xs), .bool true]) (by rw [hg]; rfl)) rfl trivial ?_
      refine q_mv rfl ?_
      refine q_ext rfl rfl ?_
      refine q_ext rfl rfl ?_
      refine q_alloc trivial ?_
      first | refine q_store rfl rfl rfl rfl rfl rfl ⟨rfl, rfl, by simp, rfl, by simp [isOne]⟩ rfl trivial ?_ | refine q_storeF rfl rfl rfl rfl rfl (by first | (simp; done) | (simp [setAt]; done)) trivial ?_ | refine q_store rfl rfl rfl rfl rfl rfl ⟨rfl, rfl, by simp, by simp [setAt, isCell_own, isCell_sl, isCell_int, isCell_nils], by simp [isOne]⟩ rfl trivial ?_
      refine q_mv rfl ?_
      refine rg_nil ?_
      refine VS_seq ?_
      refine VS_seq ?_
      refine VS_r0 rfl ?_
      first | refine q_load_c rfl rfl rfl ?_ | refine q_load_ra rfl rfl rfl rfl rfl (by first | (simp; done) | (simp [setAt]; done)) rfl ?_
      first | refine q_load_c rfl rfl rfl ?_ | refine q_load_ra rfl rfl rfl rfl rfl (by first | (simp; done) | (simp [setAt]; done)) rfl ?_
      refine q_callp (x := .bool true) ((c_laws_equalTree _ _ (by assumption) (by assumption)).eqT (by first | rfl | (simp; done))) rfl trivial ?_
      refine q_not rfl ?_
      refine q_mv rfl ?_
      refine q_t rfl ?_
      refine q_mv rfl ?_
      refine q_t rfl ?_
      refine q_mv rfl ?_
      refine q_t rfl ?_
      refine q_beq_v false rfl rfl (rfl) ?_
      refine q_pick_f rfl rfl ?_
      refine q_mv rfl ?_
      refine q_t rfl ?_
      refine q_mv rfl ?_
      refine q_t rfl ?_
      refine q_not rfl ?_
      refine q_pick_f rfl rfl ?_
      refine rg_nil ?_
      refine VS_cond rfl (fun e => by cases e) (fun _ => ?_)
      refine VS_skip ?_
      refine VS_seq ?_
      refine VS_r0 rfl ?_
      first | refine q_load_c rfl rfl rfl ?_ | refine q_load_ra rfl rfl rfl rfl rfl (by first | (simp; done) | (simp [setAt]; done)) rfl ?_
      refine q_callp ((c_impl_PairsOf (loadT xs) hs).to (y := prs xs) (by rw [hpr])) rfl trivial ?_
      refine q_mv rfl ?_
      refine q_callp (x := .bool true) ((c_laws_equalPairs _ _ (by first | omega | (simp; done) | (simp; omega)) (by first | omega | (simp; done) | (simp; omega))).eqT (by first | rfl | (simp; done))) rfl trivial ?_
      refine q_mv rfl ?_
      refine q_t rfl ?_
      first | refine q_load_c rfl rfl rfl ?_ | refine q_load_ra rfl rfl rfl rfl rfl (by first | (simp; done) | (simp [setAt]; done)) rfl ?_
      refine q_t rfl ?_
      refine q_callp (x := .bool true) ((c_impl_ValidTree (loadT xs) hs).to (y := .bool true) (by rw [hv])) rfl trivial ?_
      refine q_pick_t rfl rfl ?_
      refine q_mv rfl ?_
      refine q_t rfl ?_
      first | refine q_fld_r rfl ?_ | refine q_fld_c rfl rfl ?_
      refine q_t rfl ?_
      first | refine q_load_c rfl rfl rfl ?_ | refine q_load_r rfl rfl rfl rfl rfl rfl rfl ?_ | refine q_load_o rfl rfl rfl rfl rfl ?_
      refine q_t rfl ?_
      refine q_eql_v true rfl rfl (rfl) ?_
      refine q_pick_t rfl rfl ?_
      refine q_mv rfl ?_
      refine rg_nil ?_
      refine VS_ret ?_
      exact Bd.now ⟨_, rfl, rfl⟩
theorem sl_laws_FnLoadTreeRow : slimF prog 9 = some (63, (.seq (.reg 0 (.op ⟨some 2, none, .mv (.c (.pv (.bool false)))⟩ .nil)) (.seq (.seq (.reg 0 (.op ⟨some 10, none, .mv (.t 0)⟩ (.op ⟨some 11, none, .len (.t 10)⟩ (.op ⟨some 12, none, .bin .gtr (.t 11) (.c (.pv (.int .i64 1048576)))⟩ .nil)))) (.cond (.t 12) (.seq (.reg 0 (.op ⟨some 2, none, .mv (.c (.pv (.bool true)))⟩ .nil)) .ret) .skip)) (.seq (.reg 0 (.op ⟨some 13, none, .mv (.t 0)⟩ (.op ⟨some 14, none, .call 29 [.t 13]⟩ (.op ⟨some 3, none, .mv (.t 14)⟩ .nil)))) (.seq (.reg 0 (.op ⟨some 16, none, .mv (.t 3)⟩ (.op ⟨some 17, none, .call 30 [.t 16]⟩ (.op ⟨some 15, none, .mv (.t 17)⟩ (.op ⟨some 18, none, .ext (.t 15) 0⟩ (.op ⟨some 19, none, .ext (.t 15) 1⟩ (.op ⟨some 4, none, .alloc 53 2 (.agg [.pv (.int .i64 0), .nils])⟩ (.op ⟨none, none, .store 2 (.t 4) (.t 18)⟩ (.op ⟨some 5, none, .mv (.t 19)⟩ .nil))))))))) (.seq (.reg 0 (.op ⟨some 21, none, .mv (.t 3)⟩ (.op ⟨some 22, none, .call 31 [.t 21]⟩ (.op ⟨some 20, none, .mv (.t 22)⟩ (.op ⟨some 23, none, .ext (.t 20) 0⟩ (.op ⟨some 24, none, .ext (.t 20) 1⟩ (.op ⟨some 6, none, .alloc 53 2 (.agg [.pv (.int .i64 0), .nils])⟩ (.op ⟨none, none, .store 2 (.t 6) (.t 23)⟩ (.op ⟨some 7, none, .mv (.t 24)⟩ .nil))))))))) (.seq (.seq (.reg 0 (.op ⟨some 25, none, .load 2 true (.t 4)⟩ (.op ⟨some 26, none, .load 2 true (.t 6)⟩ (.op ⟨some 27, none, .call 32 [.t 25, .t 26]⟩ (.op ⟨some 28, none, .not (.t 27)⟩ (.op ⟨some 29, none, .mv (.t 28)⟩ (.op ⟨some 30, some (29, false), .mv (.t 5)⟩ (.op ⟨some 31, some (29, false), .mv (.t 7)⟩ (.op ⟨some 32, some (29, false), .beq true (.t 30) (.t 31)⟩ (.op ⟨some 33, none, .pick (.t 29) (.c (.pv (.bool true))) (.t 32)⟩ (.op ⟨some 34, none, .mv (.t 33)⟩ (.op ⟨some 35, some (34, false), .mv (.t 5)⟩ (.op ⟨some 36, some (34, false), .not (.t 35)⟩ (.op ⟨some 37, none, .pick (.t 34) (.c (.pv (.bool true))) (.t 36)⟩ .nil)))))))))))))) (.cond (.t 37) (.seq (.reg 0 (.op ⟨some 38, none, .load 2 true (.t 4)⟩ (.op ⟨some 39, none, .load 2 true (.t 6)⟩ (.op ⟨some 40, none, .call 32 [.t 38, .t 39]⟩ (.op ⟨some 41, none, .mv (.t 40)⟩ (.op ⟨some 42, some (41, true), .mv (.t 5)⟩ (.op ⟨some 43, some (41, true), .mv (.t 7)⟩ (.op ⟨some 44, some (41, true), .beq false (.t 42) (.t 43)⟩ (.op ⟨some 45, none, .pick (.t 41) (.t 44) (.c (.pv (.bool false)))⟩ (.op ⟨some 2, none, .mv (.t 45)⟩ .nil)))))))))) .ret) .skip)) (.seq (.reg 0 (.op ⟨some 47, none, .load 2 true (.t 4)⟩ (.op ⟨some 48, none, .call 36 [.t 47]⟩ (.op ⟨some 49, none, .call 30 [.t 48]⟩ (.op ⟨some 46, none, .mv (.t 49)⟩ (.op ⟨some 50, none, .ext (.t 46) 0⟩ (.op ⟨some 51, none, .ext (.t 46) 1⟩ (.op ⟨some 8, none, .alloc 53 2 (.agg [.pv (.int .i64 0), .nils])⟩ (.op ⟨none, none, .store 2 (.t 8) (.t 50)⟩ (.op ⟨some 9, none, .mv (.t 51)⟩ .nil)))))))))) (.seq (.reg 0 (.op ⟨some 52, none, .mv (.t 9)⟩ (.op ⟨some 53, none, .mv (.t 52)⟩ (.op ⟨some 54, some (53, true), .load 2 true (.t 8)⟩ (.op ⟨some 55, some (53, true), .load 2 true (.t 4)⟩ (.op ⟨some 56, some (53, true), .call 32 [.t 54, .t 55]⟩ (.op ⟨some 57, none, .pick (.t 53) (.t 56) (.c (.pv (.bool false)))⟩ (.op ⟨some 58, none, .mv (.t 57)⟩ (.op ⟨some 59, some (58, true), .load 2 true (.t 4)⟩ (.op ⟨some 60, some (58, true), .call 35 [.t 59]⟩ (.op ⟨some 61, some (58, true), .bin .geq (.t 60) (.c (.pv (.int .i64 0)))⟩ (.op ⟨some 62, none, .pick (.t 58) (.t 61) (.c (.pv (.bool false)))⟩ (.op ⟨some 2, none, .mv (.t 62)⟩ .nil))))))))))))) .ret))))))), [.t 2])) := by kernel_rfl
theorem c_laws_FnLoadTreeRow (bs : List Int) (hb : isU8 bs) : PCon prog 9 [u8s bs] (fun p => p = .bool true) := by
  refine con_of_VS sl_laws_FnLoadTreeRow (by simp) ?_
  refine VS_seq ?_
  refine VS_r0 rfl ?_
  refine q_mv rfl ?_
  refine rg_nil ?_
  refine VS_seq ?_
  refine VS_seq ?_
  refine VS_r0 rfl ?_
  refine q_mv rfl ?_
  first | refine q_len_m rfl ?_ | refine q_len_s rfl ?_ | refine q_len_o rfl ?_ | refine q_len_n rfl ?_ | refine q_len_x rfl ?_
  refine q_gtr rfl rfl ?_
  refine rg_nil ?_
  refine VS_cond rfl (fun c0 => ?_) (fun c0 => ?_)
  · try simp at c0
    refine VS_seq ?_
    refine VS_r0 rfl ?_
    refine q_mv rfl ?_
    refine rg_nil ?_
    refine VS_ret ?_
    exact Bd.now ⟨_, rfl, rfl⟩
  · try simp at c0
    refine VS_skip ?_
    refine VS_seq ?_
    refine VS_r0 rfl ?_
    refine q_mv rfl ?_
    refine q_calle rfl (c_spec_DrawLoadTree bs hb (by omega)) rfl trivial ?_
    rintro _ ⟨xs, rfl, hx1, hx2⟩
    refine q_mv rfl ?_
    refine rg_nil ?_
    refine VS_seq ?_
    cases hg : goodR xs
    · skip
      have hs0 := small0
      refine VS_r0 rfl ?_
      refine q_mv rfl ?_
      refine q_callp ((c_impl_LoadTree xs (by omega)).to (y := .tup [ptP ⟨0, []⟩, .bool false]) (by rw [hg]; rfl)) rfl trivial ?_
      refine q_mv rfl ?_
      refine q_ext rfl rfl ?_
      refine q_ext rfl rfl ?_
      refine q_alloc trivial ?_
      first | refine q_store rfl rfl rfl rfl rfl rfl ⟨rfl, rfl, by simp, rfl, by simp [isOne]⟩ rfl trivial ?_ | refine q_storeF rfl rfl rfl rfl rfl (by first | (simp; done) | (simp [setAt]; done)) trivial ?_ | refine q_store rfl rfl rfl rfl rfl rfl ⟨rfl, rfl, by simp, by simp [setAt, isCell_own, isCell_sl, isCell_int, isCell_nils], by simp [isOne]⟩ rfl trivial ?_
      refine q_mv rfl ?_
      refine rg_nil ?_
      refine VS_seq ?_
      refine VS_r0 rfl ?_
      refine q_mv rfl ?_
      refine q_callp ((c_spec_LoadTree xs (by omega)).to (y := .tup [ptP ⟨0, []⟩, .bool false]) (by rw [hg]; rfl)) rfl trivial ?_
      refine q_mv rfl ?_
      refine q_ext rfl rfl ?_
      refine q_ext rfl rfl ?_
      refine q_alloc trivial ?_
      first | refine q_store rfl rfl rfl rfl rfl rfl ⟨rfl, rfl, by simp, rfl, by simp [isOne]⟩ rfl trivial ?_ | refine q_storeF rfl rfl rfl rfl rfl (by first | (simp; done) | (simp [setAt]; done)) trivial ?_ | refine q_store rfl rfl rfl rfl rfl rfl ⟨rfl, rfl, by simp, by simp [setAt, isCell_own, isCell_sl, isCell_int, isCell_nils], by simp [isOne]⟩ rfl trivial ?_
      refine q_mv rfl ?_
      refine rg_nil ?_
      refine VS_seq ?_
      refine VS_seq ?_
      refine VS_r0 rfl ?_
      first | refine q_load_c rfl rfl rfl ?_ | refine q_load_ra rfl rfl rfl rfl rfl (by first | (simp; done) | (simp [setAt]; done)) rfl ?_
      first | refine q_load_c rfl rfl rfl ?_ | refine q_load_ra rfl rfl rfl rfl rfl (by first | (simp; done) | (simp [setAt]; done)) rfl ?_
      refine q_callp (x := .bool true) ((c_laws_equalTree _ _ (by assumption) (by assumption)).eqT (by first | rfl | (simp; done))) rfl trivial ?_
      refine q_not rfl ?_
      refine q_mv rfl ?_
      refine q_t rfl ?_
      refine q_mv rfl ?_
      refine q_t rfl ?_
      refine q_mv rfl ?_
      refine q_t rfl ?_
      refine q_beq_v false rfl rfl (rfl) ?_
      refine q_pick_f rfl rfl ?_
      refine q_mv rfl ?_
      refine q_t rfl ?_
      refine q_mv rfl ?_
      refine q_t rfl ?_
      refine q_not rfl ?_
      refine q_pick_f rfl rfl ?_
      refine rg_nil ?_
      refine VS_cond rfl (fun _ => ?_) (fun e => by cases e)
      refine VS_seq ?_
      refine VS_r0 rfl ?_
      first | refine q_load_c rfl rfl rfl ?_ | refine q_load_ra rfl rfl rfl rfl rfl (by first | (simp; done) | (simp [setAt]; done)) rfl ?_
      first | refine q_load_c rfl rfl rfl ?_ | refine q_load_ra rfl rfl rfl rfl rfl (by first | (simp; done) | (simp [setAt]; done)) rfl ?_
      refine q_callp (x := .bool true) ((c_laws_equalTree _ _ (by assumption) (by assumption)).eqT (by first | rfl | (simp; done))) rfl trivial ?_
      refine q_mv rfl ?_
      refine q_t rfl ?_
      refine q_mv rfl ?_
      refine q_t rfl ?_
      refine q_mv rfl ?_
      refine q_t rfl ?_
      refine q_beq_v true rfl rfl (rfl) ?_
      refine q_pick_t rfl rfl ?_
      refine q_mv rfl ?_
      refine rg_nil ?_
      refine VS_ret ?_
      exact Bd.now ⟨_, rfl, rfl⟩
    · skip
      obtain ⟨hv, hpr, hlv, hcn, hs⟩ := load_good hg
      have hx := goodR_len hg
      have hn := nlv_le hx
      refine VS_r0 rfl ?_
      refine q_mv rfl ?_
      refine q_callp ((c_impl_LoadTree xs (by omega)).to (y := .tup [ptP (loadT xs), .bool true]) (by rw [hg]; rfl)) rfl trivial ?_
      refine q_mv rfl ?_
      refine q_ext rfl rfl ?_
      refine q_ext rfl rfl ?_
      refine q_alloc trivial ?_
      first | refine q_store rfl rfl rfl rfl rfl rfl ⟨rfl, rfl, by simp, rfl, by simp [isOne]⟩ rfl trivial ?_ | refine q_storeF rfl rfl rfl rfl rfl (by first | (simp; done) | (simp [setAt]; done)) trivial ?_ | refine q_store rfl rfl rfl rfl rfl rfl ⟨rfl, rfl, by simp, by simp [setAt, isCell_own, isCell_sl, isCell_int, isCell_nils], by simp [isOne]⟩ rfl trivial ?_
      refine q_mv rfl ?_
      refine rg_nil ?_
      refine VS_seq ?_
      refine VS_r0 rfl ?_
      refine q_mv rfl ?_
      refine q_callp ((c_spec_LoadTree xs (by omega)).to (y := .tup [ptP (loadT xs), .bool true]) (by rw [hg]; rfl)) rfl trivial ?_
      refine q_mv rfl ?_
      refine q_ext rfl rfl ?_
      refine q_ext rfl rfl ?_
      refine q_alloc trivial ?_
      first | refine q_store rfl rfl rfl rfl rfl rfl ⟨rfl, rfl, by simp, rfl, by simp [isOne]⟩ rfl trivial ?_ | refine q_storeF rfl rfl rfl rfl rfl (by first | (simp; done) | (simp [setAt]; done)) trivial ?_ | refine q_store rfl rfl rfl rfl rfl rfl ⟨rfl, rfl, by simp, by simp [setAt, isCell_own, isCell_sl, isCell_int, isCell_nils], by simp [isOne]⟩ rfl trivial ?_
      refine q_mv rfl ?_
      refine rg_nil ?_
      refine VS_seq ?_
      refine VS_seq ?_
      refine VS_r0 rfl ?_
      first | refine q_load_c rfl rfl rfl ?_ | refine q_load_ra rfl rfl rfl rfl rfl (by first | (simp; done) | (simp [setAt]; done)) rfl ?_
      first | refine q_load_c rfl rfl rfl ?_ | refine q_load_ra rfl rfl rfl rfl rfl (by first | (simp; done) | (simp [setAt]; done)) rfl ?_
      refine q_callp (x := .bool true) ((c_laws_equalTree _ _ (by assumption) (by assumption)).eqT (by first | rfl | (simp; done))) rfl trivial ?_
      refine q_not rfl ?_
      refine q_mv rfl ?_
      refine q_t rfl ?_
      refine q_mv rfl ?_
      refine q_t rfl ?_
      refine q_mv rfl ?_
      refine q_t rfl ?_
      refine q_beq_v false rfl rfl (rfl) ?_
      refine q_pick_f rfl rfl ?_
      refine q_mv rfl ?_
      refine q_t rfl ?_
      refine q_mv rfl ?_
      refine q_t rfl ?_
      refine q_not rfl ?_
      refine q_pick_f rfl rfl ?_
      refine rg_nil ?_
      refine VS_cond rfl (fun e => by cases e) (fun _ => ?_)
      refine VS_skip ?_
      refine VS_seq ?_
      refine VS_r0 rfl ?_
      first | refine q_load_c rfl rfl rfl ?_ | refine q_load_ra rfl rfl rfl rfl rfl (by first | (simp; done) | (simp [setAt]; done)) rfl ?_
      refine q_callp ((c_impl_PairsOf (loadT xs) hs).to (y := prs xs) (by rw [hpr])) rfl trivial ?_
      refine q_callp ((c_impl_LoadTree xs (by omega)).to (y := .tup [ptP (loadT xs), .bool true]) (by rw [hg]; rfl)) rfl trivial ?_
      refine q_mv rfl ?_
      refine q_ext rfl rfl ?_
      refine q_ext rfl rfl ?_
      refine q_alloc trivial ?_
      first | refine q_store rfl rfl rfl rfl rfl rfl ⟨rfl, rfl, by simp, rfl, by simp [isOne]⟩ rfl trivial ?_ | refine q_storeF rfl rfl rfl rfl rfl (by first | (simp; done) | (simp [setAt]; done)) trivial ?_ | refine q_store rfl rfl rfl rfl rfl rfl ⟨rfl, rfl, by simp, by simp [setAt, isCell_own, isCell_sl, isCell_int, isCell_nils], by simp [isOne]⟩ rfl trivial ?_
      refine q_mv rfl ?_
      refine rg_nil ?_
      refine VS_seq ?_
      refine VS_r0 rfl ?_
      refine q_mv rfl ?_
      refine q_mv rfl ?_
      refine q_t rfl ?_
      first | refine q_load_c rfl rfl rfl ?_ | refine q_load_ra rfl rfl rfl rfl rfl (by first | (simp; done) | (simp [setAt]; done)) rfl ?_
      refine q_t rfl ?_
      first | refine q_load_c rfl rfl rfl ?_ | refine q_load_ra rfl rfl rfl rfl rfl (by first | (simp; done) | (simp [setAt]; done)) rfl ?_
      refine q_t rfl ?_
      refine q_callp (x := .bool true) ((c_laws_equalTree _ _ (by assumption) (by assumption)).eqT (by first | rfl | (simp; done))) rfl trivial ?_
      refine q_pick_t rfl rfl ?_
      refine q_mv rfl ?_
      refine q_t rfl ?_
      first | refine q_load_c rfl rfl rfl ?_ | refine q_load_ra rfl rfl rfl rfl rfl (by first | (simp; done) | (simp [setAt]; done)) rfl ?_
      refine q_t rfl ?_
      refine q_callp ((c_impl_FillOf (loadT xs) hs).to (y := i64 ((fillV (loadT xs) : Nat) : Int)) (by rw [if_pos hv])) rfl trivial ?_
      refine q_t rfl ?_
      refine q_geq rfl rfl ?_
      refine q_pick_t rfl rfl ?_
      refine q_mv rfl ?_
      refine rg_nil ?_
      refine VS_ret ?_
      exact Bd.now ⟨_, rfl, rfl⟩
theorem sl_laws_FnFillOfLoad : slimF prog 8 = some (52, (.seq (.reg 0 (.op ⟨some 2, none, .mv (.c (.pv (.bool false)))⟩ .nil)) (.seq (.seq (.reg 0 (.op ⟨some 8, none, .mv (.t 0)⟩ (.op ⟨some 9, none, .len (.t 8)⟩ (.op ⟨some 10, none, .bin .gtr (.t 9) (.c (.pv (.int .i64 1048576)))⟩ .nil)))) (.cond (.t 10) (.seq (.reg 0 (.op ⟨some 2, none, .mv (.c (.pv (.bool true)))⟩ .nil)) .ret) .skip)) (.seq (.reg 0 (.op ⟨some 11, none, .mv (.t 0)⟩ (.op ⟨some 12, none, .call 29 [.t 11]⟩ (.op ⟨some 3, none, .mv (.t 12)⟩ .nil)))) (.seq (.reg 0 (.op ⟨some 14, none, .mv (.t 3)⟩ (.op ⟨some 15, none, .call 30 [.t 14]⟩ (.op ⟨some 13, none, .mv (.t 15)⟩ (.op ⟨some 16, none, .ext (.t 13) 0⟩ (.op ⟨some 17, none, .ext (.t 13) 1⟩ (.op ⟨some 4, none, .alloc 53 2 (.agg [.pv (.int .i64 0), .nils])⟩ (.op ⟨none, none, .store 2 (.t 4) (.t 16)⟩ (.op ⟨some 5, none, .mv (.t 17)⟩ .nil))))))))) (.seq (.reg 0 (.op ⟨some 19, none, .mv (.t 3)⟩ (.op ⟨some 20, none, .call 31 [.t 19]⟩ (.op ⟨some 18, none, .mv (.t 20)⟩ (.op ⟨some 21, none, .ext (.t 18) 0⟩ (.op ⟨some 22, none, .ext (.t 18) 1⟩ (.op ⟨some 6, none, .alloc 53 2 (.agg [.pv (.int .i64 0), .nils])⟩ (.op ⟨none, none, .store 2 (.t 6) (.t 21)⟩ (.op ⟨some 7, none, .mv (.t 22)⟩ .nil))))))))) (.seq (.seq (.reg 0 (.op ⟨some 23, none, .load 2 true (.t 4)⟩ (.op ⟨some 24, none, .load 2 true (.t 6)⟩ (.op ⟨some 25, none, .call 32 [.t 23, .t 24]⟩ (.op ⟨some 26, none, .not (.t 25)⟩ (.op ⟨some 27, none, .mv (.t 26)⟩ (.op ⟨some 28, some (27, false), .mv (.t 5)⟩ (.op ⟨some 29, some (27, false), .mv (.t 7)⟩ (.op ⟨some 30, some (27, false), .beq true (.t 28) (.t 29)⟩ (.op ⟨some 31, none, .pick (.t 27) (.c (.pv (.bool true))) (.t 30)⟩ (.op ⟨some 32, none, .mv (.t 31)⟩ (.op ⟨some 33, some (32, false), .mv (.t 5)⟩ (.op ⟨some 34, some (32, false), .not (.t 33)⟩ (.op ⟨some 35, none, .pick (.t 32) (.c (.pv (.bool true))) (.t 34)⟩ (.op ⟨some 36, none, .mv (.t 35)⟩ (.op ⟨some 37, some (36, false), .mv (.t 3)⟩ (.op ⟨some 38, some (36, false), .len (.t 37)⟩ (.op ⟨some 39, some (36, false), .bin .leq (.t 38) (.c (.pv (.int .i64 4)))⟩ (.op ⟨some 40, none, .pick (.t 36) (.c (.pv (.bool true))) (.t 39)⟩ .nil))))))))))))))))))) (.cond (.t 40) (.seq (.reg 0 (.op ⟨some 41, none, .load 2 true (.t 4)⟩ (.op ⟨some 42, none, .load 2 true (.t 6)⟩ (.op ⟨some 43, none, .call 32 [.t 41, .t 42]⟩ (.op ⟨some 44, none, .mv (.t 43)⟩ (.op ⟨some 45, some (44, true), .mv (.t 5)⟩ (.op ⟨some 46, some (44, true), .mv (.t 7)⟩ (.op ⟨some 47, some (44, true), .beq false (.t 45) (.t 46)⟩ (.op ⟨some 48, none, .pick (.t 44) (.t 47) (.c (.pv (.bool false)))⟩ (.op ⟨some 2, none, .mv (.t 48)⟩ .nil)))))))))) .ret) .skip)) (.seq (.reg 0 (.op ⟨some 49, none, .load 2 true (.t 4)⟩ (.op ⟨some 50, none, .call 35 [.t 49]⟩ (.op ⟨some 51, none, .bin .geq (.t 50) (.c (.pv (.int .i64 62)))⟩ (.op ⟨some 2, none, .mv (.t 51)⟩ .nil))))) .ret)))))), [.t 2])) := by kernel_rfl
theorem c_laws_FnFillOfLoad (bs : List Int) (hb : isU8 bs) : PCon prog 8 [u8s bs] (fun p => p = .bool true) := by
  refine con_of_VS sl_laws_FnFillOfLoad (by simp) ?_
  refine VS_seq ?_
  refine VS_r0 rfl ?_
  refine q_mv rfl ?_
  refine rg_nil ?_
  refine VS_seq ?_
  refine VS_seq ?_
  refine VS_r0 rfl ?_
  refine q_mv rfl ?_
  first | refine q_len_m rfl ?_ | refine q_len_s rfl ?_ | refine q_len_o rfl ?_ | refine q_len_n rfl ?_ | refine q_len_x rfl ?_
  refine q_gtr rfl rfl ?_
  refine rg_nil ?_
  refine VS_cond rfl (fun c0 => ?_) (fun c0 => ?_)
  · try simp at c0
    refine VS_seq ?_
    refine VS_r0 rfl ?_
    refine q_mv rfl ?_
    refine rg_nil ?_
    refine VS_ret ?_
    exact Bd.now ⟨_, rfl, rfl⟩
  · try simp at c0
    refine VS_skip ?_
    refine VS_seq ?_
    refine VS_r0 rfl ?_
    refine q_mv rfl ?_
    refine q_calle rfl (c_spec_DrawLoadTree bs hb (by omega)) rfl trivial ?_
    rintro _ ⟨xs, rfl, hx1, hx2⟩
    refine q_mv rfl ?_
    refine rg_nil ?_
    refine VS_seq ?_
    cases hg : goodR xs
    · skip
      have hs0 := small0
      refine VS_r0 rfl ?_
      refine q_mv rfl ?_
      refine q_callp ((c_impl_LoadTree xs (by omega)).to (y := .tup [ptP ⟨0, []⟩, .bool false]) (by rw [hg]; rfl)) rfl trivial ?_
      refine q_mv rfl ?_
      refine q_ext rfl rfl ?_
      refine q_ext rfl rfl ?_
      refine q_alloc trivial ?_
      first | refine q_store rfl rfl rfl rfl rfl rfl ⟨rfl, rfl, by simp, rfl, by simp [isOne]⟩ rfl trivial ?_ | refine q_storeF rfl rfl rfl rfl rfl (by first | (simp; done) | (simp [setAt]; done)) trivial ?_ | refine q_store rfl rfl rfl rfl rfl rfl ⟨rfl, rfl, by simp, by simp [setAt, isCell_own, isCell_sl, isCell_int, isCell_nils], by simp [isOne]⟩ rfl trivial ?_
      refine q_mv rfl ?_
      refine rg_nil ?_
      refine VS_seq ?_
      refine VS_r0 rfl ?_
      refine q_mv rfl ?_
      refine q_callp ((c_spec_LoadTree xs (by omega)).to (y := .tup [ptP ⟨0, []⟩, .bool false]) (by rw [hg]; rfl)) rfl trivial ?_
      refine q_mv rfl ?_
      refine q_ext rfl rfl ?_
      refine q_ext rfl rfl ?_
      refine q_alloc trivial ?_
      first | refine q_store rfl rfl rfl rfl rfl rfl ⟨rfl, rfl, by simp, rfl, by simp [isOne]⟩ rfl trivial ?_ | refine q_storeF rfl rfl rfl rfl rfl (by first | (simp; done) | (simp [setAt]; done)) trivial ?_ | refine q_store rfl rfl rfl rfl rfl rfl ⟨rfl, rfl, by simp, by simp [setAt, isCell_own, isCell_sl, isCell_int, isCell_nils], by simp [isOne]⟩ rfl trivial ?_
      refine q_mv rfl ?_
      refine rg_nil ?_
      refine VS_seq ?_
      refine VS_seq ?_
      refine VS_r0 rfl ?_
      first | refine q_load_c rfl rfl rfl ?_ | refine q_load_ra rfl rfl rfl rfl rfl (by first | (simp; done) | (simp [setAt]; done)) rfl ?_
      first | refine q_load_c rfl rfl rfl ?_ | refine q_load_ra rfl rfl rfl rfl rfl (by first | (simp; done) | (simp [setAt]; done)) rfl ?_
      refine q_callp (x := .bool true) ((c_laws_equalTree _ _ (by assumption) (by assumption)).eqT (by first | rfl | (simp; done))) rfl trivial ?_
      refine q_not rfl ?_
      refine q_mv rfl ?_
      refine q_t rfl ?_
      refine q_mv rfl ?_
      refine q_t rfl ?_
      refine q_mv rfl ?_
      refine q_t rfl ?_
      refine q_beq_v false rfl rfl (rfl) ?_
      refine q_pick_f rfl rfl ?_
      refine q_mv rfl ?_
      refine q_t rfl ?_
      refine q_mv rfl ?_
      refine q_t rfl ?_
      refine q_not rfl ?_
      refine q_pick_f rfl rfl ?_
      refine q_mv rfl ?_
      refine q_f rfl ?_
      refine q_f rfl ?_
      refine q_f rfl ?_
      refine q_pick_t rfl rfl ?_
      refine rg_nil ?_
      refine VS_cond rfl (fun _ => ?_) (fun e => by cases e)
      refine VS_seq ?_
      refine VS_r0 rfl ?_
      first | refine q_load_c rfl rfl rfl ?_ | refine q_load_ra rfl rfl rfl rfl rfl (by first | (simp; done) | (simp [setAt]; done)) rfl ?_
      first | refine q_load_c rfl rfl rfl ?_ | refine q_load_ra rfl rfl rfl rfl rfl (by first | (simp; done) | (simp [setAt]; done)) rfl ?_
      refine q_callp (x := .bool true) ((c_laws_equalTree _ _ (by assumption) (by assumption)).eqT (by first | rfl | (simp; done))) rfl trivial ?_
      refine q_mv rfl ?_
      refine q_t rfl ?_
      refine q_mv rfl ?_
      refine q_t rfl ?_
      refine q_mv rfl ?_
      refine q_t rfl ?_
      refine q_beq_v true rfl rfl (rfl) ?_
      refine q_pick_t rfl rfl ?_
      refine q_mv rfl ?_
      refine rg_nil ?_
      refine VS_ret ?_
      exact Bd.now ⟨_, rfl, rfl⟩
    · skip
      obtain ⟨hv, hpr, hlv, hcn, hs⟩ := load_good hg
      have hx := goodR_len hg
      have hn := nlv_le hx
      refine VS_r0 rfl ?_
      refine q_mv rfl ?_
      refine q_callp ((c_impl_LoadTree xs (by omega)).to (y := .tup [ptP (loadT xs), .bool true]) (by rw [hg]; rfl)) rfl trivial ?_
      refine q_mv rfl ?_
      refine q_ext rfl rfl ?_
      refine q_ext rfl rfl ?_
      refine q_alloc trivial ?_
      first | refine q_store rfl rfl rfl rfl rfl rfl ⟨rfl, rfl, by simp, rfl, by simp [isOne]⟩ rfl trivial ?_ | refine q_storeF rfl rfl rfl rfl rfl (by first | (simp; done) | (simp [setAt]; done)) trivial ?_ | refine q_store rfl rfl rfl rfl rfl rfl ⟨rfl, rfl, by simp, by simp [setAt, isCell_own, isCell_sl, isCell_int, isCell_nils], by simp [isOne]⟩ rfl trivial ?_
      refine q_mv rfl ?_
      refine rg_nil ?_
      refine VS_seq ?_
      refine VS_r0 rfl ?_
      refine q_mv rfl ?_
      refine q_callp ((c_spec_LoadTree xs (by omega)).to (y := .tup [ptP (loadT xs), .bool true]) (by rw [hg]; rfl)) rfl trivial ?_
      refine q_mv rfl ?_
      refine q_ext rfl rfl ?_
      refine q_ext rfl rfl ?_
      refine q_alloc trivial ?_
      first | refine q_store rfl rfl rfl rfl rfl rfl ⟨rfl, rfl, by simp, rfl, by simp [isOne]⟩ rfl trivial ?_ | refine q_storeF rfl rfl rfl rfl rfl (by first | (simp; done) | (simp [setAt]; done)) trivial ?_ | refine q_store rfl rfl rfl rfl rfl rfl ⟨rfl, rfl, by simp, by simp [setAt, isCell_own, isCell_sl, isCell_int, isCell_nils], by simp [isOne]⟩ rfl trivial ?_
      refine q_mv rfl ?_
      refine rg_nil ?_
      refine VS_seq ?_
      refine VS_seq ?_
      refine VS_r0 rfl ?_
      first | refine q_load_c rfl rfl rfl ?_ | refine q_load_ra rfl rfl rfl rfl rfl (by first | (simp; done) | (simp [setAt]; done)) rfl ?_
      first | refine q_load_c rfl rfl rfl ?_ | refine q_load_ra rfl rfl rfl rfl rfl (by first | (simp; done) | (simp [setAt]; done)) rfl ?_
      refine q_callp (x := .bool true) ((c_laws_equalTree _ _ (by assumption) (by assumption)).eqT (by first | rfl | (simp; done))) rfl trivial ?_
      refine q_not rfl ?_
      refine q_mv rfl ?_
      refine q_t rfl ?_
      refine q_mv rfl ?_
      refine q_t rfl ?_
      refine q_mv rfl ?_
      refine q_t rfl ?_
      refine q_beq_v false rfl rfl (rfl) ?_
      refine q_pick_f rfl rfl ?_
      refine q_mv rfl ?_
      refine q_t rfl ?_
      refine q_mv rfl ?_
      refine q_t rfl ?_
      refine q_not rfl ?_
      refine q_pick_f rfl rfl ?_
      refine q_mv rfl ?_
      refine q_t rfl ?_
      refine q_mv rfl ?_
      refine q_t rfl ?_
      first | refine q_len_m rfl ?_ | refine q_len_s rfl ?_ | refine q_len_o rfl ?_ | refine q_len_n rfl ?_ | refine q_len_x rfl ?_
      refine q_t rfl ?_
      refine q_leq rfl rfl ?_
      refine q_pick_f rfl rfl ?_
      refine rg_nil ?_
      refine VS_cond rfl (fun c1 => ?_) (fun c1 => ?_)
      · try simp at c1
        refine VS_seq ?_
        refine VS_r0 rfl ?_
        first | refine q_load_c rfl rfl rfl ?_ | refine q_load_ra rfl rfl rfl rfl rfl (by first | (simp; done) | (simp [setAt]; done)) rfl ?_
        first | refine q_load_c rfl rfl rfl ?_ | refine q_load_ra rfl rfl rfl rfl rfl (by first | (simp; done) | (simp [setAt]; done)) rfl ?_
        refine q_callp (x := .bool true) ((c_laws_equalTree _ _ (by assumption) (by assumption)).eqT (by first | rfl | (simp; done))) rfl trivial ?_
        refine q_mv rfl ?_
        refine q_t rfl ?_
        refine q_mv rfl ?_
        refine q_t rfl ?_
        refine q_mv rfl ?_
        refine q_t rfl ?_
        refine q_beq_v true rfl rfl (rfl) ?_
        refine q_pick_t rfl rfl ?_
        refine q_mv rfl ?_
        refine rg_nil ?_
        refine VS_ret ?_
        exact Bd.now ⟨_, rfl, rfl⟩
      · try simp at c1
        refine VS_skip ?_
        refine VS_seq ?_
        refine VS_r0 rfl ?_
        first | refine q_load_c rfl rfl rfl ?_ | refine q_load_ra rfl rfl rfl rfl rfl (by first | (simp; done) | (simp [setAt]; done)) rfl ?_
        refine q_callp ((c_impl_FillOf (loadT xs) hs).to (y := i64 ((fillV (loadT xs) : Nat) : Int)) (by rw [if_pos hv])) rfl trivial ?_
        refine q_geq rfl rfl ?_
        refine q_mv rfl ?_
        refine rg_nil ?_
        refine VS_ret ?_
        refine Bd.now ⟨_, rfl, ?_⟩
        have hlf := load_fill hg (by first | omega | (simp at *; omega))
        exact congrArg PV.bool (decide_eq_true (by omega))
theorem sl_laws_FnLoadTreeFill : slimF prog 7 = some (65, (.seq (.reg 0 (.op ⟨some 2, none, .mv (.c (.pv (.bool false)))⟩ .nil)) (.seq (.seq (.reg 0 (.op ⟨some 9, none, .mv (.t 0)⟩ (.op ⟨some 10, none, .len (.t 9)⟩ (.op ⟨some 11, none, .bin .gtr (.t 10) (.c (.pv (.int .i64 1048576)))⟩ .nil)))) (.cond (.t 11) (.seq (.reg 0 (.op ⟨some 2, none, .mv (.c (.pv (.bool true)))⟩ .nil)) .ret) .skip)) (.seq (.reg 0 (.op ⟨some 12, none, .mv (.t 0)⟩ (.op ⟨some 13, none, .call 29 [.t 12]⟩ (.op ⟨some 3, none, .mv (.t 13)⟩ .nil)))) (.seq (.reg 0 (.op ⟨some 15, none, .mv (.t 3)⟩ (.op ⟨some 16, none, .call 30 [.t 15]⟩ (.op ⟨some 14, none, .mv (.t 16)⟩ (.op ⟨some 17, none, .ext (.t 14) 0⟩ (.op ⟨some 18, none, .ext (.t 14) 1⟩ (.op ⟨some 4, none, .alloc 53 2 (.agg [.pv (.int .i64 0), .nils])⟩ (.op ⟨none, none, .store 2 (.t 4) (.t 17)⟩ (.op ⟨some 5, none, .mv (.t 18)⟩ .nil))))))))) (.seq (.reg 0 (.op ⟨some 20, none, .mv (.t 3)⟩ (.op ⟨some 21, none, .call 31 [.t 20]⟩ (.op ⟨some 19, none, .mv (.t 21)⟩ (.op ⟨some 22, none, .ext (.t 19) 0⟩ (.op ⟨some 23, none, .ext (.t 19) 1⟩ (.op ⟨some 6, none, .alloc 53 2 (.agg [.pv (.int .i64 0), .nils])⟩ (.op ⟨none, none, .store 2 (.t 6) (.t 22)⟩ (.op ⟨some 7, none, .mv (.t 23)⟩ .nil))))))))) (.seq (.seq (.reg 0 (.op ⟨some 24, none, .load 2 true (.t 4)⟩ (.op ⟨some 25, none, .load 2 true (.t 6)⟩ (.op ⟨some 26, none, .call 32 [.t 24, .t 25]⟩ (.op ⟨some 27, none, .not (.t 26)⟩ (.op ⟨some 28, none, .mv (.t 27)⟩ (.op ⟨some 29, some (28, false), .mv (.t 5)⟩ (.op ⟨some 30, some (28, false), .mv (.t 7)⟩ (.op ⟨some 31, some (28, false), .beq true (.t 29) (.t 30)⟩ (.op ⟨some 32, none, .pick (.t 28) (.c (.pv (.bool true))) (.t 31)⟩ (.op ⟨some 33, none, .mv (.t 32)⟩ (.op ⟨some 34, some (33, false), .mv (.t 5)⟩ (.op ⟨some 35, some (33, false), .not (.t 34)⟩ (.op ⟨some 36, none, .pick (.t 33) (.c (.pv (.bool true))) (.t 35)⟩ .nil)))))))))))))) (.cond (.t 36) (.seq (.reg 0 (.op ⟨some 37, none, .load 2 true (.t 4)⟩ (.op ⟨some 38, none, .load 2 true (.t 6)⟩ (.op ⟨some 39, none, .call 32 [.t 37, .t 38]⟩ (.op ⟨some 40, none, .mv (.t 39)⟩ (.op ⟨some 41, some (40, true), .mv (.t 5)⟩ (.op ⟨some 42, some (40, true), .mv (.t 7)⟩ (.op ⟨some 43, some (40, true), .beq false (.t 41) (.t 42)⟩ (.op ⟨some 44, none, .pick (.t 40) (.t 43) (.c (.pv (.bool false)))⟩ (.op ⟨some 2, none, .mv (.t 44)⟩ .nil)))))))))) .ret) .skip)) (.seq (.reg 0 (.op ⟨some 45, none, .load 2 true (.t 4)⟩ (.op ⟨some 46, none, .call 33 [.t 45]⟩ (.op ⟨some 47, none, .len (.t 46)⟩ (.op ⟨some 8, none, .mv (.t 47)⟩ .nil))))) (.seq (.reg 2 (.op ⟨some 48, none, .mv (.t 8)⟩ (.op ⟨some 49, none, .mv (.t 3)⟩ (.op ⟨some 50, none, .len (.t 49)⟩ (.op ⟨some 51, none, .bin .add (.t 50) (.c (.pv (.int .i64 4)))⟩ (.op ⟨some 52, none, .bin .sub (.t 51) (.c (.pv (.int .i64 1)))⟩ (.op ⟨some 53, none, .bin .quo (.t 52) (.c (.pv (.int .i64 4)))⟩ (.op ⟨some 54, none, .mx (.c (.pv (.int .i64 1))) (.t 53)⟩ (.op ⟨some 55, none, .bin .eql (.t 48) (.t 54)⟩ (.op ⟨some 56, none, .mv (.t 55)⟩ (.op ⟨some 57, some (56, true), .fld 1 1 false (.t 4)⟩ (.op ⟨some 58, some (56, true), .load 1 false (.t 57)⟩ (.op ⟨some 59, some (56, true), .len (.t 58)⟩ (.op ⟨some 60, some (56, true), .mv (.t 3)⟩ (.op ⟨some 61, some (56, true), .len (.t 60)⟩ (.op ⟨some 62, some (56, true), .call 34 [.t 61]⟩ (.op ⟨some 63, some (56, true), .bin .eql (.t 59) (.t 62)⟩ (.op ⟨some 64, none, .pick (.t 56) (.t 63) (.c (.pv (.bool false)))⟩ (.op ⟨some 2, none, .mv (.t 64)⟩ .nil))))))))))))))))))) .ret))))))), [.t 2])) := by kernel_rfl
theorem c_laws_FnLoadTreeFill (bs : List Int) (hb : isU8 bs) : PCon prog 7 [u8s bs] (fun p => p = .bool true) := by
  refine con_of_VS sl_laws_FnLoadTreeFill (by simp) ?_
  refine VS_seq ?_
  refine VS_r0 rfl ?_
  refine q_mv rfl ?_
  refine rg_nil ?_
  refine VS_seq ?_
  refine VS_seq ?_
  refine VS_r0 rfl ?_
  refine q_mv rfl ?_
  first | refine q_len_m rfl ?_ | refine q_len_s rfl ?_ | refine q_len_o rfl ?_ | refine q_len_n rfl ?_ | refine q_len_x rfl ?_
  refine q_gtr rfl rfl ?_
  refine rg_nil ?_
  refine VS_cond rfl (fun c0 => ?_) (fun c0 => ?_)
  · try simp at c0
    refine VS_seq ?_
    refine VS_r0 rfl ?_
    refine q_mv rfl ?_
    refine rg_nil ?_
    refine VS_ret ?_
    exact Bd.now ⟨_, rfl, rfl⟩
  · try simp at c0
    refine VS_skip ?_
    refine VS_seq ?_
    refine VS_r0 rfl ?_
    refine q_mv rfl ?_
    refine q_calle rfl (c_spec_DrawLoadTree bs hb (by omega)) rfl trivial ?_
    rintro _ ⟨xs, rfl, hx1, hx2⟩
    refine q_mv rfl ?_
    refine rg_nil ?_
    refine VS_seq ?_
    cases hg : goodR xs
    · skip
      have hs0 := small0
      refine VS_r0 rfl ?_
      refine q_mv rfl ?_
      refine q_callp ((c_impl_LoadTree xs (by omega)).to (y := .tup [ptP ⟨0, []⟩, .bool false]) (by rw [hg]; rfl)) rfl trivial ?_
      refine q_mv rfl ?_
      refine q_ext rfl rfl ?_
      refine q_ext rfl rfl ?_
      refine q_alloc trivial ?_
      first | refine q_store rfl rfl rfl rfl rfl rfl ⟨rfl, rfl, by simp, rfl, by simp [isOne]⟩ rfl trivial ?_ | refine q_storeF rfl rfl rfl rfl rfl (by first | (simp; done) | (simp [setAt]; done)) trivial ?_ | refine q_store rfl rfl rfl rfl rfl rfl ⟨rfl, rfl, by simp, by simp [setAt, isCell_own, isCell_sl, isCell_int, isCell_nils], by simp [isOne]⟩ rfl trivial ?_
      refine q_mv rfl ?_
      refine rg_nil ?_
      refine VS_seq ?_
      refine VS_r0 rfl ?_
      refine q_mv rfl ?_
      refine q_callp ((c_spec_LoadTree xs (by omega)).to (y := .tup [ptP ⟨0, []⟩, .bool false]) (by rw [hg]; rfl)) rfl trivial ?_
      refine q_mv rfl ?_
      refine q_ext rfl rfl ?_
      refine q_ext rfl rfl ?_
      refine q_alloc trivial ?_
      first | refine q_store rfl rfl rfl rfl rfl rfl ⟨rfl, rfl, by simp, rfl, by simp [isOne]⟩ rfl trivial ?_ | refine q_storeF rfl rfl rfl rfl rfl (by first | (simp; done) | (simp [setAt]; done)) trivial ?_ | refine q_store rfl rfl rfl rfl rfl rfl ⟨rfl, rfl, by simp, by simp [setAt, isCell_own, isCell_sl, isCell_int, isCell_nils], by simp [isOne]⟩ rfl trivial ?_
      refine q_mv rfl ?_
      refine rg_nil ?_
      refine VS_seq ?_
      refine VS_seq ?_
      refine VS_r0 rfl ?_
      first | refine q_load_c rfl rfl rfl ?_ | refine q_load_ra rfl rfl rfl rfl rfl (by first | (simp; done) | (simp [setAt]; done)) rfl ?_
      first | refine q_load_c rfl rfl rfl ?_ | refine q_load_ra rfl rfl rfl rfl rfl (by first | (simp; done) | (simp [setAt]; done)) rfl ?_
      refine q_callp (x := .bool true) ((c_laws_equalTree _ _ (by assumption) (by assumption)).eqT (by first | rfl | (simp; done))) rfl trivial ?_
      refine q_not rfl ?_
      refine q_mv rfl ?_
      refine q_t rfl ?_
      refine q_mv rfl ?_
      refine q_t rfl ?_
      refine q_mv rfl ?_
      refine q_t rfl ?_
      refine q_beq_v false rfl rfl (rfl) ?_
      refine q_pick_f rfl rfl ?_
      refine q_mv rfl ?_
      refine q_t rfl ?_
      refine q_mv rfl ?_
      refine q_t rfl ?_
      refine q_not rfl ?_
      refine q_pick_f rfl rfl ?_
      refine rg_nil ?_
      refine VS_cond rfl (fun _ => ?_) (fun e => by cases e)
      refine VS_seq ?_
      refine VS_r0 rfl ?_
      first | refine q_load_c rfl rfl rfl ?_ | refine q_load_ra rfl rfl rfl rfl rfl (by first | (simp; done) | (simp [setAt]; done)) rfl ?_
      first | refine q_load_c rfl rfl rfl ?_ | refine q_load_ra rfl rfl rfl rfl rfl (by first | (simp; done) | (simp [setAt]; done)) rfl ?_
      refine q_callp (x := .bool true) ((c_laws_equalTree _ _ (by assumption) (by assumption)).eqT (by first | rfl | (simp; done))) rfl trivial ?_
      refine q_mv rfl ?_
      refine q_t rfl ?_
      refine q_mv rfl ?_
      refine q_t rfl ?_
      refine q_mv rfl ?_
      refine q_t rfl ?_
      refine q_beq_v true rfl rfl (rfl) ?_
      refine q_pick_t rfl rfl ?_
      refine q_mv rfl ?_
      refine rg_nil ?_
      refine VS_ret ?_
      exact Bd.now ⟨_, rfl, rfl⟩
    · skip
      obtain ⟨hv, hpr, hlv, hcn, hs⟩ := load_good hg
      have hx := goodR_len hg
      have hn := nlv_le hx
      refine VS_r0 rfl ?_
      refine q_mv rfl ?_
      refine q_callp ((c_impl_LoadTree xs (by omega)).to (y := .tup [ptP (loadT xs), .bool true]) (by rw [hg]; rfl)) rfl trivial ?_
      refine q_mv rfl ?_
      refine q_ext rfl rfl ?_
      refine q_ext rfl rfl ?_
      refine q_alloc trivial ?_
      first | refine q_store rfl rfl rfl rfl rfl rfl ⟨rfl, rfl, by simp, rfl, by simp [isOne]⟩ rfl trivial ?_ | refine q_storeF rfl rfl rfl rfl rfl (by first | (simp; done) | (simp [setAt]; done)) trivial ?_ | refine q_store rfl rfl rfl rfl rfl rfl ⟨rfl, rfl, by simp, by simp [setAt, isCell_own, isCell_sl, isCell_int, isCell_nils], by simp [isOne]⟩ rfl trivial ?_
      refine q_mv rfl ?_
      refine rg_nil ?_
      refine VS_seq ?_
      refine VS_r0 rfl ?_
      refine q_mv rfl ?_
      refine q_callp ((c_spec_LoadTree xs (by omega)).to (y := .tup [ptP (loadT xs), .bool true]) (by rw [hg]; rfl)) rfl trivial ?_
      refine q_mv rfl ?_
      refine q_ext rfl rfl ?_
      refine q_ext rfl rfl ?_
      refine q_alloc trivial ?_
      first | refine q_store rfl rfl rfl rfl rfl rfl ⟨rfl, rfl, by simp, rfl, by simp [isOne]⟩ rfl trivial ?_ | refine q_storeF rfl rfl rfl rfl rfl (by first | (simp; done) | (simp [setAt]; done)) trivial ?_ | refine q_store rfl rfl rfl rfl rfl rfl ⟨rfl, rfl, by simp, by simp [setAt, isCell_own, isCell_sl, isCell_int, isCell_nils], by simp [isOne]⟩ rfl trivial ?_
      refine q_mv rfl ?_
      refine rg_nil ?_
      refine VS_seq ?_
      refine VS_seq ?_
      refine VS_r0 rfl ?_
      first | refine q_load_c rfl rfl rfl ?_ | refine q_load_ra rfl rfl rfl rfl rfl (by first | (simp; done) | (simp [setAt]; done)) rfl ?_
      first | refine q_load_c rfl rfl rfl ?_ | refine q_load_ra rfl rfl rfl rfl rfl (by first | (simp; done) | (simp [setAt]; done)) rfl ?_
      refine q_callp (x := .bool true) ((c_laws_equalTree _ _ (by assumption) (by assumption)).eqT (by first | rfl | (simp; done))) rfl trivial ?_
      refine q_not rfl ?_
      refine q_mv rfl ?_
      refine q_t rfl ?_
      refine q_mv rfl ?_
      refine q_t rfl ?_
      refine q_mv rfl ?_
      refine q_t rfl ?_
      refine q_beq_v false rfl rfl (rfl) ?_
      refine q_pick_f rfl rfl ?_
      refine q_mv rfl ?_
      refine q_t rfl ?_
      refine q_mv rfl ?_
      refine q_t rfl ?_
      refine q_not rfl ?_
      refine q_pick_f rfl rfl ?_
      refine rg_nil ?_
      refine VS_cond rfl (fun e => by cases e) (fun _ => ?_)
      refine VS_skip ?_
      refine VS_seq ?_
      refine VS_r0 rfl ?_
      first | refine q_load_c rfl rfl rfl ?_ | refine q_load_ra rfl rfl rfl rfl rfl (by first | (simp; done) | (simp [setAt]; done)) rfl ?_
      refine q_callp (c_impl_LeavesOf (loadT xs) hs) rfl trivial ?_
      first | refine q_len_m rfl ?_ | refine q_len_s rfl ?_ | refine q_len_o rfl ?_ | refine q_len_n rfl ?_ | refine q_len_x rfl ?_
      refine q_mv rfl ?_
      refine rg_nil ?_
      refine VS_seq ?_
      refine VS_r2 _ hmix (Sub.refl _) ?_
      refine q_mv rfl ?_
      refine q_mv rfl ?_
      first | refine q_len_m rfl ?_ | refine q_len_s rfl ?_ | refine q_len_o rfl ?_ | refine q_len_n rfl ?_ | refine q_len_x rfl ?_
      refine q_add rfl rfl (inR64 (by omega)) ?_
      refine q_sub rfl rfl (inR64 (by omega)) ?_
      refine q_quo_to (((xs.length + 3) / 4 : Nat) : Int) rfl rfl ⟨by omega, by omega⟩ (by omega) (inR64 (by omega)) ?_
      refine q_mx_to ((nlv xs.length : Nat) : Int) rfl rfl (by simp only [nlv]; omega) ?_
      refine q_eql_v true rfl rfl (decide_eq_true (by rw [hlv])) ?_
      refine q_mv rfl ?_
      refine q_t rfl ?_
      first | refine q_fld_r rfl ?_ | refine q_fld_c rfl rfl ?_
      refine q_t rfl ?_
      first | refine q_load_c rfl rfl rfl ?_ | refine q_load_r rfl rfl rfl rfl rfl rfl rfl ?_ | refine q_load_o rfl rfl rfl rfl rfl ?_
      refine q_t rfl ?_
      first | refine q_len_m rfl ?_ | refine q_len_s rfl ?_ | refine q_len_o rfl ?_ | refine q_len_n rfl ?_ | refine q_len_x rfl ?_
      refine q_t rfl ?_
      refine q_mv rfl ?_
      refine q_t rfl ?_
      first | refine q_len_m rfl ?_ | refine q_len_s rfl ?_ | refine q_len_o rfl ?_ | refine q_len_n rfl ?_ | refine q_len_x rfl ?_
      refine q_t rfl ?_
      refine q_callp ((c_impl_CountLoaded xs.length hx).to (y := i64 (cntL xs.length : Nat)) (by rw [cntL]; split <;> (try split) <;> simp)) rfl (by first | exact trivial | exact Sub.nil | exact Sub.refl _ | exact Sub.app _ _ | exact SubL.sub (by repeat (first | exact SubL.nil | apply SubL.none | apply SubL.some | apply SubL.sh | apply SubL.eq)) | (refine Sub.of_eq ?_; intro o ob h; rcases o with _ | _ | _ | _ | _ | o <;> simp_all)) ?_
      refine q_t rfl ?_
      refine q_eql_v true rfl rfl (decide_eq_true (by rw [hcn])) ?_
      refine q_pick_t rfl rfl ?_
      refine q_mv rfl ?_
      refine rg_nil ?_
      refine VS_ret ?_
      exact Bd.now ⟨_, rfl, rfl⟩
end Go.V
