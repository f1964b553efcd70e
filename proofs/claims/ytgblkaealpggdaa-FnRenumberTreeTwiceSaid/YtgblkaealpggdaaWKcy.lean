/- A part of the proofs about laws of the page tree (see the text that bears the law): a small language of steps, its rules, and what the functions of the program return. -/
import Derived.Test.YtgblkaealpggdaaWKcx
import Derived.Test.YtgblkaealpggdaaWH
import Derived.Test.YtgblkaealpggdaaWKcv
set_option linter.all false
set_option linter.unusedVariables false
set_option linter.unusedSimpArgs false
set_option maxHeartbeats 4000000
namespace Go.V
open Go.Proofs.Try (prog)
set_option maxRecDepth 100000
theorem sl_laws_FnRenumberTreeTwice : slimF prog 9 = some (66, (.seq (.reg 0 (.o 2 (.mv (.c (.pv (.bool false)))) .nil)) (.seq (.seq (.reg 0 (.o 10 (.mv (.t 0)) (.o 11 (.len (.t 10)) (.o 12 (.bin .gtr (.t 11) (.c (.pv (.int .i64 1048576)))) .nil)))) (.cond (.t 12) (.seq (.reg 0 (.o 2 (.mv (.c (.pv (.bool true)))) .nil)) .ret) .skip)) (.seq (.reg 0 (.o 13 (.mv (.t 0)) (.o 14 (.call 23 [.t 13]) (.o 3 (.alloc 39 2 (.agg [.pv (.int .i64 0), .nils])) (.op ⟨none, none, .store 2 (.t 3) (.t 14)⟩ .nil))))) (.seq (.reg 0 (.o 16 (.load 2 true (.t 3)) (.o 17 (.call 24 [.t 16]) (.o 15 (.mv (.t 17)) (.o 18 (.ext (.t 15) 0) (.o 19 (.ext (.t 15) 1) (.o 4 (.alloc 39 2 (.agg [.pv (.int .i64 0), .nils])) (.op ⟨none, none, .store 2 (.t 4) (.t 18)⟩ (.o 5 (.mv (.t 19)) .nil))))))))) (.seq (.reg 0 (.o 21 (.load 2 true (.t 3)) (.o 22 (.call 25 [.t 21]) (.o 20 (.mv (.t 22)) (.o 23 (.ext (.t 20) 0) (.o 24 (.ext (.t 20) 1) (.o 6 (.alloc 39 2 (.agg [.pv (.int .i64 0), .nils])) (.op ⟨none, none, .store 2 (.t 6) (.t 23)⟩ (.o 7 (.mv (.t 24)) .nil))))))))) (.seq (.seq (.reg 0 (.o 25 (.load 2 true (.t 4)) (.o 26 (.load 2 true (.t 6)) (.o 27 (.call 26 [.t 25, .t 26]) (.o 28 (.not (.t 27)) (.o 29 (.mv (.t 28)) (.g 30 29 false (.mv (.t 5)) (.g 31 29 false (.mv (.t 7)) (.g 32 29 false (.beq true (.t 30) (.t 31)) (.o 33 (.pick (.t 29) (.c (.pv (.bool true))) (.t 32)) (.o 34 (.mv (.t 33)) (.g 35 34 false (.mv (.t 5)) (.g 36 34 false (.not (.t 35)) (.o 37 (.pick (.t 34) (.c (.pv (.bool true))) (.t 36)) .nil)))))))))))))) (.cond (.t 37) (.seq (.reg 0 (.o 38 (.load 2 true (.t 4)) (.o 39 (.load 2 true (.t 6)) (.o 40 (.call 26 [.t 38, .t 39]) (.o 41 (.mv (.t 40)) (.g 42 41 true (.mv (.t 5)) (.g 43 41 true (.mv (.t 7)) (.g 44 41 true (.beq false (.t 42) (.t 43)) (.o 45 (.pick (.t 41) (.t 44) (.c (.pv (.bool false)))) (.o 2 (.mv (.t 45)) .nil)))))))))) .ret) .skip)) (.seq (.reg 0 (.o 47 (.load 2 true (.t 4)) (.o 48 (.call 24 [.t 47]) (.o 46 (.mv (.t 48)) (.o 49 (.ext (.t 46) 0) (.o 50 (.ext (.t 46) 1) (.o 8 (.alloc 39 2 (.agg [.pv (.int .i64 0), .nils])) (.op ⟨none, none, .store 2 (.t 8) (.t 49)⟩ (.o 9 (.mv (.t 50)) .nil))))))))) (.seq (.reg 0 (.o 51 (.mv (.t 9)) (.o 52 (.mv (.t 51)) (.g 53 52 true (.load 2 true (.t 8)) (.g 54 52 true (.load 2 true (.t 4)) (.g 55 52 true (.call 26 [.t 53, .t 54]) (.o 56 (.pick (.t 52) (.t 55) (.c (.pv (.bool false)))) (.o 57 (.mv (.t 56)) (.g 58 57 true (.fld 1 1 false (.t 4)) (.g 59 57 true (.load 1 false (.t 58)) (.g 60 57 true (.len (.t 59)) (.g 61 57 true (.fld 1 1 false (.t 3)) (.g 62 57 true (.load 1 false (.t 61)) (.g 63 57 true (.len (.t 62)) (.g 64 57 true (.bin .eql (.t 60) (.t 63)) (.o 65 (.pick (.t 57) (.t 64) (.c (.pv (.bool false)))) (.o 2 (.mv (.t 65)) .nil))))))))))))))))) .ret))))))), [.t 2])) := by kernel_rfl
theorem c_laws_FnRenumberTreeTwice (bs : List Int) (hb : isU8 bs) : PCon prog 9 [u8s bs] (fun p => p = .bool true) := by
 refine con_of_VS sl_laws_FnRenumberTreeTwice (by simp) (VS_seq (VS_r0 rfl (q_mv rfl (rg_nil (VS_seq (VS_seq (VS_r0 rfl (q_mv rfl (q_len_m rfl (q_gtr rfl rfl (rg_nil ?_)))))))))))
 refine VS_cond rfl (fun c0 => ?_) (fun c0 => ?_)
 ·try simp at c0
  refine VS_seq (VS_r0 rfl (q_mv rfl (rg_nil (VS_ret ?_))))
  exact Bd.now ⟨_, rfl, rfl⟩
 ·try simp at c0
  refine VS_skip (VS_seq (VS_r0 rfl (q_mv rfl (q_calle rfl (c_spec_DrawRenumberTree bs hb (by omega)) rfl trivial ?_))))
  rintro _ ⟨t, rfl, ha⟩
  refine q_alloc trivial (q_store rfl rfl rfl rfl rfl rfl ⟨rfl, rfl, by simp, rfl, by simp [isOne]⟩ rfl trivial (rg_nil (VS_seq ?_)))
  cases hv : validT t
  ·skip
   have hs := ha.small
   have hs0 := small0
   refine VS_r0 rfl (q_load_ra rfl rfl rfl rfl rfl (by (simp [setAt]; done)) rfl (q_callp ((c_impl_RenumberTree t hs).to (y := .tup [ptP ⟨0, []⟩, .bool false]) (by rw [hv]; rfl)) rfl trivial (q_mv rfl (q_ext rfl rfl (q_ext rfl rfl (q_alloc trivial (q_store rfl rfl rfl rfl rfl rfl ⟨rfl, rfl, by simp, rfl, by simp [isOne]⟩ rfl trivial (q_mv rfl (rg_nil (VS_seq (VS_r0 rfl (q_load_ra rfl rfl rfl rfl rfl (by (simp [setAt]; done)) rfl (q_callp ((c_spec_RenumberTree t hs).to (y := .tup [ptP ⟨0, []⟩, .bool false]) (by rw [hv]; rfl)) rfl trivial (q_mv rfl (q_ext rfl rfl ?_)))))))))))))))
   refine q_ext rfl rfl (q_alloc trivial (q_store rfl rfl rfl rfl rfl rfl ⟨rfl, rfl, by simp, rfl, by simp [isOne]⟩ rfl trivial (q_mv rfl (rg_nil (VS_seq (VS_seq (VS_r0 rfl (q_load_ra rfl rfl rfl rfl rfl (by (simp [setAt]; done)) rfl (q_load_ra rfl rfl rfl rfl rfl (by (simp [setAt]; done)) rfl (q_callp (x := .bool true) ((c_laws_equalTree _ _ (by assumption) (by assumption)).eqT (by rfl)) rfl trivial (q_not rfl (q_mv rfl (q_t rfl (q_mv rfl (q_t rfl ?_)))))))))))))))
   refine q_mv rfl (q_t rfl (q_beq_v false rfl rfl (rfl) (q_pick_f rfl rfl (q_mv rfl (q_t rfl (q_mv rfl (q_t rfl (q_not rfl (q_pick_f rfl rfl (rg_nil ?_))))))))))
   refine VS_cond rfl (fun _ => ?_) (fun e => by cases e)
   refine VS_seq (VS_r0 rfl (q_load_ra rfl rfl rfl rfl rfl (by (simp [setAt]; done)) rfl (q_load_ra rfl rfl rfl rfl rfl (by (simp [setAt]; done)) rfl (q_callp (x := .bool true) ((c_laws_equalTree _ _ (by assumption) (by assumption)).eqT (by rfl)) rfl trivial (q_mv rfl (q_t rfl (q_mv rfl (q_t rfl (q_mv rfl (q_t rfl (q_beq_v true rfl rfl (rfl) (q_pick_t rfl rfl (q_mv rfl (rg_nil (VS_ret ?_)))))))))))))))
   exact Bd.now ⟨_, rfl, rfl⟩
  ·skip
   have hs := ha.small
   have hr := valid_rn hv
   have hsr := valid_smallT hr.1
   have hrl := hr.2.2
   refine VS_r0 rfl (q_load_ra rfl rfl rfl rfl rfl (by (simp [setAt]; done)) rfl (q_callp ((c_impl_RenumberTree t hs).to (y := .tup [ptP (rnT t), .bool true]) (by rw [hv]; rfl)) rfl trivial (q_mv rfl (q_ext rfl rfl (q_ext rfl rfl (q_alloc trivial (q_store rfl rfl rfl rfl rfl rfl ⟨rfl, rfl, by simp, rfl, by simp [isOne]⟩ rfl trivial (q_mv rfl (rg_nil (VS_seq (VS_r0 rfl (q_load_ra rfl rfl rfl rfl rfl (by (simp [setAt]; done)) rfl (q_callp ((c_spec_RenumberTree t hs).to (y := .tup [ptP (rnT t), .bool true]) (by rw [hv]; rfl)) rfl trivial (q_mv rfl (q_ext rfl rfl ?_)))))))))))))))
   refine q_ext rfl rfl (q_alloc trivial (q_store rfl rfl rfl rfl rfl rfl ⟨rfl, rfl, by simp, rfl, by simp [isOne]⟩ rfl trivial (q_mv rfl (rg_nil (VS_seq (VS_seq (VS_r0 rfl (q_load_ra rfl rfl rfl rfl rfl (by (simp [setAt]; done)) rfl (q_load_ra rfl rfl rfl rfl rfl (by (simp [setAt]; done)) rfl (q_callp (x := .bool true) ((c_laws_equalTree _ _ (by assumption) (by assumption)).eqT (by rfl)) rfl trivial (q_not rfl (q_mv rfl (q_t rfl (q_mv rfl (q_t rfl ?_)))))))))))))))
   refine q_mv rfl (q_t rfl (q_beq_v false rfl rfl (rfl) (q_pick_f rfl rfl (q_mv rfl (q_t rfl (q_mv rfl (q_t rfl (q_not rfl (q_pick_f rfl rfl (rg_nil ?_))))))))))
   refine VS_cond rfl (fun e => by cases e) (fun _ => ?_)
   refine VS_skip (VS_seq (VS_r0 rfl (q_load_ra rfl rfl rfl rfl rfl (by (simp [setAt]; done)) rfl (q_callp ((c_impl_RenumberTree (rnT t) hsr).to (y := .tup [ptP (rnT t), .bool true]) (by rw [hr.1, if_pos rfl, rn_twice hv])) rfl trivial (q_mv rfl (q_ext rfl rfl (q_ext rfl rfl (q_alloc trivial (q_store rfl rfl rfl rfl rfl rfl ⟨rfl, rfl, by simp, rfl, by simp [isOne]⟩ rfl trivial (q_mv rfl (rg_nil (VS_seq (VS_r0 rfl (q_mv rfl (q_mv rfl ?_)))))))))))))))
   refine q_t rfl (q_load_ra rfl rfl rfl rfl rfl (by (simp [setAt]; done)) rfl (q_t rfl (q_load_ra rfl rfl rfl rfl rfl (by (simp [setAt]; done)) rfl (q_t rfl (q_callp (x := .bool true) ((c_laws_equalTree _ _ (by assumption) (by assumption)).eqT (by rfl)) rfl trivial (q_pick_t rfl rfl (q_mv rfl (q_t rfl (q_fld_r rfl (q_t rfl (q_load_r rfl rfl rfl rfl rfl rfl rfl (q_t rfl (q_len_m rfl (q_t rfl (q_fld_r rfl ?_)))))))))))))))
   refine q_t rfl (q_load_r rfl rfl rfl rfl rfl rfl rfl (q_t rfl (q_len_m rfl (q_t rfl (q_eql_v true rfl rfl (decide_eq_true (by rw [hrl])) (q_pick_t rfl rfl (q_mv rfl (rg_nil (VS_ret ?_)))))))))
   exact Bd.now ⟨_, rfl, rfl⟩
end Go.V
