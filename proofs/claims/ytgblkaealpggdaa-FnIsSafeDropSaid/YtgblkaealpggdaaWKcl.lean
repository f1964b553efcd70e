/- A part of the proofs about laws of the page tree (see the text that bears the law): a small language of steps, its rules, and what the functions of the program return. -/
import Derived.Test.YtgblkaealpggdaaWKck
set_option linter.all false
set_option linter.unusedVariables false
set_option linter.unusedSimpArgs false
set_option maxHeartbeats 4000000
namespace Go.V
open Go.Proofs.Try (prog)
set_option maxRecDepth 100000
theorem sl_laws_FnIsSafe : slimF prog 7 = some (85, (.seq (.reg 0 (.o 2 (.mv (.c (.pv (.bool false)))) .nil)) (.seq (.seq (.reg 0 (.o 7 (.mv (.t 0)) (.o 8 (.len (.t 7)) (.o 9 (.bin .gtr (.t 8) (.c (.pv (.int .i64 1048576)))) .nil)))) (.cond (.t 9) (.seq (.reg 0 (.o 2 (.mv (.c (.pv (.bool true)))) .nil)) .ret) .skip)) (.seq (.reg 0 (.o 11 (.mv (.t 0)) (.o 12 (.call 19 [.t 11]) (.o 10 (.mv (.t 12)) (.o 13 (.ext (.t 10) 0) (.o 14 (.ext (.t 10) 1) (.o 15 (.ext (.t 10) 2) (.o 3 (.alloc 39 2 (.agg [.pv (.int .i64 0), .nils])) (.op ⟨none, none, .store 2 (.t 3) (.t 13)⟩ (.o 4 (.mv (.t 14)) (.o 5 (.mv (.t 15)) .nil))))))))))) (.seq (.reg 0 (.o 16 (.load 2 true (.t 3)) (.o 17 (.mv (.t 4)) (.o 18 (.mv (.t 5)) (.o 19 (.call 20 [.t 16, .t 17, .t 18]) (.o 6 (.mv (.t 19)) .nil)))))) (.seq (.seq (.reg 0 (.o 20 (.mv (.t 6)) (.o 21 (.load 2 true (.t 3)) (.o 22 (.mv (.t 4)) (.o 23 (.mv (.t 5)) (.o 24 (.call 21 [.t 21, .t 22, .t 23]) (.o 25 (.beq true (.t 20) (.t 24)) (.o 26 (.mv (.t 25)) (.g 27 26 false (.load 2 true (.t 3)) (.g 28 26 false (.call 22 [.t 27]) (.g 29 26 false (.not (.t 28)) (.o 30 (.pick (.t 26) (.c (.pv (.bool true))) (.t 29)) (.o 31 (.mv (.t 30)) (.g 32 31 false (.mv (.t 4)) (.g 33 31 false (.bin .lss (.t 32) (.c (.pv (.int .i64 0)))) (.o 34 (.pick (.t 31) (.c (.pv (.bool true))) (.t 33)) (.o 35 (.mv (.t 34)) (.g 36 35 false (.mv (.t 4)) (.g 37 35 false (.fld 1 1 false (.t 3)) (.g 38 35 false (.load 1 false (.t 37)) (.g 39 35 false (.len (.t 38)) (.g 40 35 false (.bin .geq (.t 36) (.t 39)) (.o 41 (.pick (.t 35) (.c (.pv (.bool true))) (.t 40)) .nil))))))))))))))))))))))) (.cond (.t 41) (.seq (.reg 0 (.o 42 (.mv (.t 6)) (.o 43 (.load 2 true (.t 3)) (.o 44 (.mv (.t 4)) (.o 45 (.mv (.t 5)) (.o 46 (.call 21 [.t 43, .t 44, .t 45]) (.o 47 (.beq false (.t 42) (.t 46)) (.o 2 (.mv (.t 47)) .nil)))))))) .ret) .skip)) (.seq (.reg 2 (.o 48 (.load 2 true (.t 3)) (.o 49 (.mv (.t 4)) (.o 50 (.call 20 [.t 48, .t 49, .c (.pv (.int .i64 0))]) (.o 51 (.mv (.t 50)) (.g 52 51 true (.load 2 true (.t 3)) (.g 53 51 true (.mv (.t 4)) (.g 55 51 true (.fld 1 1 false (.t 3)) (.g 56 51 true (.load 1 false (.t 55)) (.g 57 51 true (.mv (.t 4)) (.g 58 51 true (.idx 3 (.t 56) (.t 57)) (.g 59 51 true (.fld 0 1 false (.t 58)) (.g 60 51 true (.load 1 false (.t 59)) (.g 61 51 true (.len (.t 60)) (.g 62 51 true (.bin .lss (.t 61) (.c (.pv (.int .i64 4)))) (.g 54 51 true (.call 20 [.t 52, .t 53, .c (.pv (.int .i64 1))]) (.g 63 51 true (.beq false (.t 54) (.t 62)) (.o 64 (.pick (.t 51) (.t 63) (.c (.pv (.bool false)))) (.o 65 (.mv (.t 64)) (.g 66 65 true (.mv (.t 4)) (.g 67 65 true (.fld 0 1 false (.t 3)) (.g 68 65 true (.load 1 false (.t 67)) (.g 69 65 true (.bin .eql (.t 66) (.t 68)) (.g 70 65 true (.mv (.t 69)) (.g 71 70 false (.load 2 true (.t 3)) (.g 72 70 false (.mv (.t 4)) (.g 74 70 false (.fld 1 1 false (.t 3)) (.g 75 70 false (.load 1 false (.t 74)) (.g 76 70 false (.mv (.t 4)) (.g 77 70 false (.idx 3 (.t 75) (.t 76)) (.g 78 70 false (.fld 0 1 false (.t 77)) (.g 79 70 false (.load 1 false (.t 78)) (.g 80 70 false (.len (.t 79)) (.g 81 70 false (.bin .gtr (.t 80) (.c (.pv (.int .i64 2)))) (.g 73 70 false (.call 20 [.t 71, .t 72, .c (.pv (.int .i64 2))]) (.g 82 70 false (.beq false (.t 73) (.t 81)) (.g 83 65 true (.pick (.t 70) (.c (.pv (.bool true))) (.t 82)) (.o 84 (.pick (.t 65) (.t 83) (.c (.pv (.bool false)))) (.o 2 (.mv (.t 84)) .nil))))))))))))))))))))))))))))))))))))))) .ret))))), [.t 2])) := by kernel_rfl
theorem c_laws_FnIsSafe (bs : List Int) (hb : isU8 bs) : PCon prog 7 [u8s bs] (fun p => p = .bool true) := by
 refine con_of_VS sl_laws_FnIsSafe (by simp) (VS_seq (VS_r0 rfl (q_mv rfl (rg_nil (VS_seq (VS_seq (VS_r0 rfl (q_mv rfl (q_len_m rfl (q_gtr rfl rfl (rg_nil ?_)))))))))))
 refine VS_cond rfl (fun c0 => ?_) (fun c0 => ?_)
 ·try simp at c0
  refine VS_seq (VS_r0 rfl (q_mv rfl (rg_nil (VS_ret ?_))))
  exact Bd.now ⟨_, rfl, rfl⟩
 ·try simp at c0
  refine VS_skip (VS_seq (VS_r0 rfl (q_mv rfl (q_calle rfl (c_spec_DrawIsSafe bs hb (by omega)) rfl trivial ?_))))
  rintro _ ⟨t, i, k, rfl, ha⟩
  refine q_mv rfl (q_ext rfl rfl (q_ext rfl rfl (q_ext rfl rfl (q_alloc trivial (q_store rfl rfl rfl rfl rfl rfl ⟨rfl, rfl, by simp, rfl, by simp [isOne]⟩ rfl trivial (q_mv rfl (q_mv rfl (rg_nil (VS_seq ?_)))))))))
  cases hv : validT t
  ·skip
   have hs := ha.small
   refine VS_r0 rfl (q_load_ra rfl rfl rfl rfl rfl (by (simp [setAt]; done)) rfl (q_mv rfl (q_mv rfl (q_callp (c_impl_IsSafe t hs i k) rfl trivial (q_mv rfl (rg_nil (VS_seq (VS_seq (VS_r0 rfl (q_mv rfl (q_load_ra rfl rfl rfl rfl rfl (by (simp [setAt]; done)) rfl (q_mv rfl (q_mv rfl (q_callp (c_spec_IsSafe t hs i k) rfl trivial (q_beq_v false rfl rfl (by simp) ?_)))))))))))))))
   refine q_mv rfl (q_t rfl (q_load_ra rfl rfl rfl rfl rfl (by (simp [setAt]; done)) rfl (q_t rfl (q_callp (x := .bool false) ((c_impl_ValidTree t hs).to (y := .bool false) (by rw [hv])) rfl trivial (q_t rfl (q_not rfl (q_pick_f rfl rfl (q_mv rfl (q_f rfl (q_f rfl (q_pick_t rfl rfl (q_mv rfl (q_f rfl (q_f rfl (q_f rfl ?_)))))))))))))))
   refine q_f rfl (q_f rfl (q_pick_t rfl rfl (rg_nil ?_)))
   refine VS_cond rfl (fun _ => ?_) (fun e => by cases e)
   refine VS_seq (VS_r0 rfl (q_mv rfl (q_load_ra rfl rfl rfl rfl rfl (by (simp [setAt]; done)) rfl (q_mv rfl (q_mv rfl (q_callp (c_spec_IsSafe t hs i k) rfl trivial (q_beq_v true rfl rfl (by simp) (q_mv rfl (rg_nil (VS_ret ?_))))))))))
   exact Bd.now ⟨_, rfl, rfl⟩
  ·skip
   have hs := ha.small
   refine VS_r0 rfl (q_load_ra rfl rfl rfl rfl rfl (by (simp [setAt]; done)) rfl (q_mv rfl (q_mv rfl (q_callp (c_impl_IsSafe t hs i k) rfl trivial (q_mv rfl (rg_nil (VS_seq (VS_seq (VS_r0 rfl (q_mv rfl (q_load_ra rfl rfl rfl rfl rfl (by (simp [setAt]; done)) rfl (q_mv rfl (q_mv rfl (q_callp (c_spec_IsSafe t hs i k) rfl trivial (q_beq_v false rfl rfl (by simp) ?_)))))))))))))))
   refine q_mv rfl (q_t rfl (q_load_ra rfl rfl rfl rfl rfl (by (simp [setAt]; done)) rfl (q_t rfl (q_callp (x := .bool true) ((c_impl_ValidTree t hs).to (y := .bool true) (by rw [hv])) rfl trivial (q_t rfl (q_not rfl (q_pick_f rfl rfl (q_mv rfl (q_t rfl (q_mv rfl (q_t rfl (q_lss rfl rfl (q_pick_f rfl rfl (q_mv rfl ?_))))))))))))))
   refine q_b rfl (fun g35 => ?_) (fun g35 => ?_)
   ·try simp at g35
    refine q_t rfl (q_mv rfl (q_t rfl (q_fld_r rfl (q_t rfl (q_load_r rfl rfl rfl rfl rfl rfl rfl (q_t rfl (q_len_m rfl (q_t rfl (q_geq rfl rfl (q_pick_f rfl rfl (rg_nil ?_)))))))))))
    refine VS_cond rfl (fun c1 => ?_) (fun c1 => ?_)
    ·try simp at c1
     refine VS_seq (VS_r0 rfl (q_mv rfl (q_load_ra rfl rfl rfl rfl rfl (by (simp [setAt]; done)) rfl (q_mv rfl (q_mv rfl (q_callp (c_spec_IsSafe t hs i k) rfl trivial (q_beq_v true rfl rfl (by simp) (q_mv rfl (rg_nil (VS_ret ?_))))))))))
     exact Bd.now ⟨_, rfl, rfl⟩
    ·try simp at c1
     have hr : 0 ≤ i ∧ i < t.ps.length := by omega
     refine VS_skip (VS_seq (VS_r2 _ hmix (Sub.refl _) (q_load_ra rfl rfl rfl rfl rfl (by (simp [setAt]; done)) rfl (q_mv rfl (q_callp (x := .bool true) ((c_impl_IsSafe t hs i 0).to (y := .bool true) (by rw [safe_get hv hr])) rfl (Sub.refl _) (q_mv rfl (q_t rfl (q_load_ra rfl rfl rfl rfl rfl (by (simp [setAt]; done)) rfl (q_t rfl (q_mv rfl (q_t rfl (q_fld_r rfl (q_t rfl (q_load_r rfl rfl rfl rfl rfl rfl rfl (q_t rfl ?_)))))))))))))))
     refine q_mv rfl (q_t rfl (q_idx_m (f := pgP) (xs := t.ps) (n := i) rfl rfl (by omega) (by omega) (fun _ => rfl) (q_t rfl (q_fld_c rfl rfl (q_t rfl (q_load_c rfl rfl rfl (q_t rfl (q_len_m rfl (q_t rfl (q_lss rfl rfl (q_t rfl (q_callp ((c_impl_IsSafe t hs i 1).to (y := .bool (decide (((nth t.ps i.toNat).ks.length : Int) < 4))) (by rw [safe_put hv hr])) rfl (Sub.refl _) (q_t rfl (q_beq_v true rfl rfl (by simp) (q_pick_t rfl rfl ?_)))))))))))))))
     refine q_mv rfl (q_t rfl (q_mv rfl (q_t rfl (q_fld_r rfl (q_t rfl (q_load_r rfl rfl rfl rfl rfl rfl rfl (q_t rfl (q_eql rfl rfl (q_t rfl (q_mv rfl ?_))))))))))
     refine q_b rfl (fun g70 => ?_) (fun g70 => ?_)
     ·try simp at g70
      refine q_t rfl (q_load_ra rfl rfl rfl rfl rfl (by (simp [setAt]; done)) rfl (q_t rfl (q_mv rfl (q_t rfl (q_fld_r rfl (q_t rfl (q_load_r rfl rfl rfl rfl rfl rfl rfl (q_t rfl (q_mv rfl (q_t rfl (q_idx_m (f := pgP) (xs := t.ps) (n := i) rfl rfl (by omega) (by omega) (fun _ => rfl) (q_t rfl (q_fld_c rfl rfl (q_t rfl (q_load_c rfl rfl rfl ?_)))))))))))))))
      refine q_t rfl (q_len_m rfl (q_t rfl (q_gtr rfl rfl (q_t rfl (q_callp ((c_impl_IsSafe t hs i 2).to (y := .bool (decide (2 < ((nth t.ps i.toNat).ks.length : Int)))) (by rw [safe_drop hv hr (by exact g70)])) rfl (Sub.refl _) (q_t rfl (q_beq_v true rfl rfl (by simp) (q_t rfl (q_pick_f rfl rfl (q_pick_t rfl rfl (q_mv rfl (rg_nil (VS_ret ?_)))))))))))))
      exact Bd.now ⟨_, rfl, rfl⟩
     ·try simp at g70
      refine q_f rfl (q_f rfl (q_f rfl (q_f rfl (q_f rfl (q_f rfl (q_f rfl (q_f rfl (q_f rfl (q_f rfl (q_f rfl (q_f rfl (q_t rfl (q_pick_t rfl rfl (q_pick_t rfl rfl (q_mv rfl ?_)))))))))))))))
      refine rg_nil (VS_ret ?_)
      exact Bd.now ⟨_, rfl, rfl⟩
   ·try simp at g35
    refine q_f rfl (q_f rfl (q_f rfl (q_f rfl (q_f rfl (q_pick_t rfl rfl (rg_nil ?_))))))
    refine VS_cond rfl (fun _ => ?_) (fun e => by cases e)
    refine VS_seq (VS_r0 rfl (q_mv rfl (q_load_ra rfl rfl rfl rfl rfl (by (simp [setAt]; done)) rfl (q_mv rfl (q_mv rfl (q_callp (c_spec_IsSafe t hs i k) rfl trivial (q_beq_v true rfl rfl (by simp) (q_mv rfl (rg_nil (VS_ret ?_))))))))))
    exact Bd.now ⟨_, rfl, rfl⟩
theorem sl_laws_FnIsSafeDrop : slimF prog 8 = some (68, (.seq (.reg 0 (.o 2 (.mv (.c (.pv (.bool false)))) .nil)) (.seq (.seq (.reg 0 (.o 7 (.mv (.t 0)) (.o 8 (.len (.t 7)) (.o 9 (.bin .gtr (.t 8) (.c (.pv (.int .i64 1048576)))) .nil)))) (.cond (.t 9) (.seq (.reg 0 (.o 2 (.mv (.c (.pv (.bool true)))) .nil)) .ret) .skip)) (.seq (.reg 0 (.o 11 (.mv (.t 0)) (.o 12 (.call 19 [.t 11]) (.o 10 (.mv (.t 12)) (.o 13 (.ext (.t 10) 0) (.o 14 (.ext (.t 10) 1) (.o 15 (.ext (.t 10) 2) (.o 3 (.alloc 39 2 (.agg [.pv (.int .i64 0), .nils])) (.op ⟨none, none, .store 2 (.t 3) (.t 13)⟩ (.o 4 (.mv (.t 14)) (.o 5 (.mv (.t 15)) .nil))))))))))) (.seq (.reg 0 (.o 16 (.load 2 true (.t 3)) (.o 17 (.mv (.t 4)) (.o 18 (.mv (.t 5)) (.o 19 (.call 20 [.t 16, .t 17, .t 18]) (.o 6 (.mv (.t 19)) .nil)))))) (.seq (.seq (.reg 0 (.o 20 (.mv (.t 6)) (.o 21 (.load 2 true (.t 3)) (.o 22 (.mv (.t 4)) (.o 23 (.mv (.t 5)) (.o 24 (.call 21 [.t 21, .t 22, .t 23]) (.o 25 (.beq true (.t 20) (.t 24)) (.o 26 (.mv (.t 25)) (.g 27 26 false (.load 2 true (.t 3)) (.g 28 26 false (.call 22 [.t 27]) (.g 29 26 false (.not (.t 28)) (.o 30 (.pick (.t 26) (.c (.pv (.bool true))) (.t 29)) (.o 31 (.mv (.t 30)) (.g 32 31 false (.mv (.t 4)) (.g 33 31 false (.bin .lss (.t 32) (.c (.pv (.int .i64 0)))) (.o 34 (.pick (.t 31) (.c (.pv (.bool true))) (.t 33)) (.o 35 (.mv (.t 34)) (.g 36 35 false (.mv (.t 4)) (.g 37 35 false (.fld 1 1 false (.t 3)) (.g 38 35 false (.load 1 false (.t 37)) (.g 39 35 false (.len (.t 38)) (.g 40 35 false (.bin .geq (.t 36) (.t 39)) (.o 41 (.pick (.t 35) (.c (.pv (.bool true))) (.t 40)) .nil))))))))))))))))))))))) (.cond (.t 41) (.seq (.reg 0 (.o 42 (.mv (.t 6)) (.o 43 (.load 2 true (.t 3)) (.o 44 (.mv (.t 4)) (.o 45 (.mv (.t 5)) (.o 46 (.call 21 [.t 43, .t 44, .t 45]) (.o 47 (.beq false (.t 42) (.t 46)) (.o 2 (.mv (.t 47)) .nil)))))))) .ret) .skip)) (.seq (.reg 2 (.o 48 (.load 2 true (.t 3)) (.o 49 (.fld 0 1 false (.t 3)) (.o 50 (.load 1 false (.t 49)) (.o 52 (.fld 1 1 false (.t 3)) (.o 53 (.load 1 false (.t 52)) (.o 54 (.len (.t 53)) (.o 55 (.bin .eql (.t 54) (.c (.pv (.int .i64 1)))) (.o 51 (.call 20 [.t 48, .t 50, .c (.pv (.int .i64 2))]) (.o 56 (.mv (.t 55)) (.g 57 56 false (.fld 1 1 false (.t 3)) (.g 58 56 false (.load 1 false (.t 57)) (.g 59 56 false (.fld 0 1 false (.t 3)) (.g 60 56 false (.load 1 false (.t 59)) (.g 61 56 false (.idx 3 (.t 58) (.t 60)) (.g 62 56 false (.fld 0 1 false (.t 61)) (.g 63 56 false (.load 1 false (.t 62)) (.g 64 56 false (.len (.t 63)) (.g 65 56 false (.bin .gtr (.t 64) (.c (.pv (.int .i64 1)))) (.o 66 (.pick (.t 56) (.c (.pv (.bool true))) (.t 65)) (.o 67 (.beq false (.t 51) (.t 66)) (.o 2 (.mv (.t 67)) .nil)))))))))))))))))))))) .ret))))), [.t 2])) := by kernel_rfl
theorem c_laws_FnIsSafeDrop (bs : List Int) (hb : isU8 bs) : PCon prog 8 [u8s bs] (fun p => p = .bool true) := by
 refine con_of_VS sl_laws_FnIsSafeDrop (by simp) (VS_seq (VS_r0 rfl (q_mv rfl (rg_nil (VS_seq (VS_seq (VS_r0 rfl (q_mv rfl (q_len_m rfl (q_gtr rfl rfl (rg_nil ?_)))))))))))
 refine VS_cond rfl (fun c0 => ?_) (fun c0 => ?_)
 ·try simp at c0
  refine VS_seq (VS_r0 rfl (q_mv rfl (rg_nil (VS_ret ?_))))
  exact Bd.now ⟨_, rfl, rfl⟩
 ·try simp at c0
  refine VS_skip (VS_seq (VS_r0 rfl (q_mv rfl (q_calle rfl (c_spec_DrawIsSafe bs hb (by omega)) rfl trivial ?_))))
  rintro _ ⟨t, i, k, rfl, ha⟩
  refine q_mv rfl (q_ext rfl rfl (q_ext rfl rfl (q_ext rfl rfl (q_alloc trivial (q_store rfl rfl rfl rfl rfl rfl ⟨rfl, rfl, by simp, rfl, by simp [isOne]⟩ rfl trivial (q_mv rfl (q_mv rfl (rg_nil (VS_seq ?_)))))))))
  cases hv : validT t
  ·skip
   have hs := ha.small
   refine VS_r0 rfl (q_load_ra rfl rfl rfl rfl rfl (by (simp [setAt]; done)) rfl (q_mv rfl (q_mv rfl (q_callp (c_impl_IsSafe t hs i k) rfl trivial (q_mv rfl (rg_nil (VS_seq (VS_seq (VS_r0 rfl (q_mv rfl (q_load_ra rfl rfl rfl rfl rfl (by (simp [setAt]; done)) rfl (q_mv rfl (q_mv rfl (q_callp (c_spec_IsSafe t hs i k) rfl trivial (q_beq_v false rfl rfl (by simp) ?_)))))))))))))))
   refine q_mv rfl (q_t rfl (q_load_ra rfl rfl rfl rfl rfl (by (simp [setAt]; done)) rfl (q_t rfl (q_callp (x := .bool false) ((c_impl_ValidTree t hs).to (y := .bool false) (by rw [hv])) rfl trivial (q_t rfl (q_not rfl (q_pick_f rfl rfl (q_mv rfl (q_f rfl (q_f rfl (q_pick_t rfl rfl (q_mv rfl (q_f rfl (q_f rfl (q_f rfl ?_)))))))))))))))
   refine q_f rfl (q_f rfl (q_pick_t rfl rfl (rg_nil ?_)))
   refine VS_cond rfl (fun _ => ?_) (fun e => by cases e)
   refine VS_seq (VS_r0 rfl (q_mv rfl (q_load_ra rfl rfl rfl rfl rfl (by (simp [setAt]; done)) rfl (q_mv rfl (q_mv rfl (q_callp (c_spec_IsSafe t hs i k) rfl trivial (q_beq_v true rfl rfl (by simp) (q_mv rfl (rg_nil (VS_ret ?_))))))))))
   exact Bd.now ⟨_, rfl, rfl⟩
  ·skip
   have hs := ha.small
   have hrt := root_in hv
   refine VS_r0 rfl (q_load_ra rfl rfl rfl rfl rfl (by (simp [setAt]; done)) rfl (q_mv rfl (q_mv rfl (q_callp (c_impl_IsSafe t hs i k) rfl trivial (q_mv rfl (rg_nil (VS_seq (VS_seq (VS_r0 rfl (q_mv rfl (q_load_ra rfl rfl rfl rfl rfl (by (simp [setAt]; done)) rfl (q_mv rfl (q_mv rfl (q_callp (c_spec_IsSafe t hs i k) rfl trivial (q_beq_v false rfl rfl (by simp) ?_)))))))))))))))
   refine q_mv rfl (q_t rfl (q_load_ra rfl rfl rfl rfl rfl (by (simp [setAt]; done)) rfl (q_t rfl (q_callp (x := .bool true) ((c_impl_ValidTree t hs).to (y := .bool true) (by rw [hv])) rfl trivial (q_t rfl (q_not rfl (q_pick_f rfl rfl (q_mv rfl (q_t rfl (q_mv rfl (q_t rfl (q_lss rfl rfl (q_pick_f rfl rfl (q_mv rfl ?_))))))))))))))
   refine q_b rfl (fun g35 => ?_) (fun g35 => ?_)
   ·try simp at g35
    refine q_t rfl (q_mv rfl (q_t rfl (q_fld_r rfl (q_t rfl (q_load_r rfl rfl rfl rfl rfl rfl rfl (q_t rfl (q_len_m rfl (q_t rfl (q_geq rfl rfl (q_pick_f rfl rfl (rg_nil ?_)))))))))))
    refine VS_cond rfl (fun c1 => ?_) (fun c1 => ?_)
    ·try simp at c1
     refine VS_seq (VS_r0 rfl (q_mv rfl (q_load_ra rfl rfl rfl rfl rfl (by (simp [setAt]; done)) rfl (q_mv rfl (q_mv rfl (q_callp (c_spec_IsSafe t hs i k) rfl trivial (q_beq_v true rfl rfl (by simp) (q_mv rfl (rg_nil (VS_ret ?_))))))))))
     exact Bd.now ⟨_, rfl, rfl⟩
    ·try simp at c1
     refine VS_skip (VS_seq (VS_r2 _ hmix (Sub.refl _) (q_load_ra rfl rfl rfl rfl rfl (by (simp [setAt]; done)) rfl (q_fld_r rfl (q_load_r rfl rfl rfl rfl rfl rfl rfl (q_fld_r rfl (q_load_r rfl rfl rfl rfl rfl rfl rfl (q_len_m rfl (q_eql rfl rfl (q_callp ((c_impl_IsSafe t hs t.r 2).to (y := .bool (decide ((t.ps.length : Int) = 1) || decide (1 < ((nth t.ps t.r.toNat).ks.length : Int)))) (by rw [safe_top hv])) rfl (Sub.refl _) (q_mv rfl ?_)))))))))))
     refine q_b rfl (fun g56 => ?_) (fun g56 => ?_)
     ·try simp at g56
      refine q_t rfl (q_fld_r rfl (q_t rfl (q_load_r rfl rfl rfl rfl rfl rfl rfl (q_t rfl (q_fld_r rfl (q_t rfl (q_load_r rfl rfl rfl rfl rfl rfl rfl (q_t rfl (q_idx_m (f := pgP) (xs := t.ps) (n := t.r) rfl rfl (by omega) (by omega) (fun _ => rfl) (q_t rfl (q_fld_c rfl rfl (q_t rfl (q_load_c rfl rfl rfl (q_t rfl (q_len_m rfl ?_)))))))))))))))
      refine q_t rfl (q_gtr rfl rfl (q_pick_f rfl rfl (q_beq_v true rfl rfl ((by (simp_all; done))) (q_mv rfl (rg_nil (VS_ret ?_))))))
      exact Bd.now ⟨_, rfl, rfl⟩
     ·try simp at g56
      refine q_f rfl (q_f rfl (q_f rfl (q_f rfl (q_f rfl (q_f rfl (q_f rfl (q_f rfl (q_f rfl (q_pick_t rfl rfl (q_beq_v true rfl rfl ((by (simp_all; done))) (q_mv rfl (rg_nil (VS_ret ?_)))))))))))))
      exact Bd.now ⟨_, rfl, rfl⟩
   ·try simp at g35
    refine q_f rfl (q_f rfl (q_f rfl (q_f rfl (q_f rfl (q_pick_t rfl rfl (rg_nil ?_))))))
    refine VS_cond rfl (fun _ => ?_) (fun e => by cases e)
    refine VS_seq (VS_r0 rfl (q_mv rfl (q_load_ra rfl rfl rfl rfl rfl (by (simp [setAt]; done)) rfl (q_mv rfl (q_mv rfl (q_callp (c_spec_IsSafe t hs i k) rfl trivial (q_beq_v true rfl rfl (by simp) (q_mv rfl (rg_nil (VS_ret ?_))))))))))
    exact Bd.now ⟨_, rfl, rfl⟩
end Go.V
