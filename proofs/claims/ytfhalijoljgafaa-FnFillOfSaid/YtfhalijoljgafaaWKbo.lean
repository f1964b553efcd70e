/- A part of the proofs about laws of the page tree (see the text that bears the law): a small language of steps, its rules, and what the functions of the program return. -/
import Derived.Test.YtfhalijoljgafaaWKbn
set_option linter.all false
set_option linter.unusedVariables false
set_option linter.unusedSimpArgs false
set_option maxHeartbeats 4000000
namespace Go.V
open Go.Proofs.Try (prog)
set_option maxRecDepth 100000
theorem sl_laws_FnHeightOfPairs : slimF prog 8 = some (42, (.seq (.reg 0 (.o 2 (.mv (.c (.pv (.bool false)))) .nil)) (.seq (.seq (.reg 0 (.o 6 (.mv (.t 0)) (.o 7 (.len (.t 6)) (.o 8 (.bin .gtr (.t 7) (.c (.pv (.int .i64 1048576)))) .nil)))) (.cond (.t 8) (.seq (.reg 0 (.o 2 (.mv (.c (.pv (.bool true)))) .nil)) .ret) .skip)) (.seq (.reg 0 (.o 9 (.mv (.t 0)) (.o 10 (.call 27 [.t 9]) (.o 3 (.alloc 25 2 (.agg [.pv (.int .i64 0), .nils])) (.op ⟨none, none, .store 2 (.t 3) (.t 10)⟩ .nil))))) (.seq (.reg 0 (.o 11 (.load 2 true (.t 3)) (.o 12 (.call 28 [.t 11]) (.o 4 (.mv (.t 12)) .nil)))) (.seq (.seq (.reg 0 (.o 13 (.mv (.t 4)) (.o 14 (.load 2 true (.t 3)) (.o 15 (.call 29 [.t 14]) (.o 16 (.bin .neq (.t 13) (.t 15)) (.o 17 (.mv (.t 16)) (.g 18 17 false (.mv (.t 4)) (.g 19 17 false (.bin .lss (.t 18) (.c (.pv (.int .i64 0)))) (.o 20 (.pick (.t 17) (.c (.pv (.bool true))) (.t 19)) .nil))))))))) (.cond (.t 20) (.seq (.reg 0 (.o 21 (.mv (.t 4)) (.o 22 (.load 2 true (.t 3)) (.o 23 (.call 29 [.t 22]) (.o 24 (.bin .eql (.t 21) (.t 23)) (.o 2 (.mv (.t 24)) .nil)))))) .ret) .skip)) (.seq (.reg 0 (.o 25 (.load 2 true (.t 3)) (.o 26 (.call 26 [.t 25]) (.o 27 (.len (.t 26)) (.o 5 (.mv (.t 27)) .nil))))) (.seq (.reg 0 (.o 28 (.mv (.t 4)) (.o 29 (.bin .lss (.t 28) (.c (.pv (.int .i64 2)))) (.o 30 (.mv (.t 29)) (.g 31 30 false (.mv (.t 5)) (.g 32 30 false (.bin .geq (.t 31) (.c (.pv (.int .i64 4)))) (.o 33 (.pick (.t 30) (.c (.pv (.bool true))) (.t 32)) (.o 34 (.mv (.t 33)) (.g 35 34 true (.mv (.t 4)) (.g 36 34 true (.bin .lss (.t 35) (.c (.pv (.int .i64 3)))) (.g 37 34 true (.mv (.t 36)) (.g 38 37 false (.mv (.t 5)) (.g 39 37 false (.bin .geq (.t 38) (.c (.pv (.int .i64 12)))) (.g 40 34 true (.pick (.t 37) (.c (.pv (.bool true))) (.t 39)) (.o 41 (.pick (.t 34) (.t 40) (.c (.pv (.bool false)))) (.o 2 (.mv (.t 41)) .nil)))))))))))))))) .ret)))))), [.t 2])) := by kernel_rfl
theorem c_laws_FnHeightOfPairs (bs : List Int) (hb : isU8 bs) : PCon prog 8 [u8s bs] (fun p => p = .bool true) := by
  refine con_of_VS sl_laws_FnHeightOfPairs (by simp) (VS_seq (VS_r0 rfl (q_mv rfl (rg_nil (VS_seq (VS_seq (VS_r0 rfl (q_mv rfl (q_len_m rfl (q_gtr rfl rfl (rg_nil ?_)))))))))))
  refine VS_cond rfl (fun c0 => ?_) (fun c0 => ?_)
  · try simp at c0
    refine VS_seq (VS_r0 rfl (q_mv rfl (rg_nil (VS_ret ?_))))
    exact Bd.now ⟨_, rfl, rfl⟩
  · try simp at c0
    refine VS_skip (VS_seq (VS_r0 rfl (q_mv rfl (q_calle rfl (c_spec_DrawHeightOf bs hb (by omega)) rfl trivial ?_))))
    rintro _ ⟨t, rfl, ha⟩
    refine q_alloc trivial (q_store rfl rfl rfl rfl rfl rfl ⟨rfl, rfl, by simp, rfl, by simp [isOne]⟩ rfl trivial (rg_nil (VS_seq ?_)))
    cases hv : validT t
    · skip
      have hs := ha.small
      refine VS_r0 rfl (q_load_ra rfl rfl rfl rfl rfl (by (simp [setAt]; done)) rfl (q_callp ((c_impl_HeightOf t hs).to (y := i64 (-1)) (by rw [hv]; rfl)) rfl trivial (q_mv rfl (rg_nil (VS_seq (VS_seq (VS_r0 rfl (q_mv rfl (q_load_ra rfl rfl rfl rfl rfl (by (simp [setAt]; done)) rfl (q_callp ((c_spec_HeightOf t hs).to (y := i64 (-1)) (by rw [hv]; rfl)) rfl trivial (q_neq_v false rfl rfl (by simp) (q_mv rfl (q_t rfl (q_mv rfl (q_t rfl ?_)))))))))))))))
      refine q_lss_v true rfl rfl (decide_eq_true (by omega)) (q_pick_f rfl rfl (rg_nil ?_))
      refine VS_cond rfl (fun _ => ?_) (fun e => by cases e)
      refine VS_seq (VS_r0 rfl (q_mv rfl (q_load_ra rfl rfl rfl rfl rfl (by (simp [setAt]; done)) rfl (q_callp ((c_spec_HeightOf t hs).to (y := i64 (-1)) (by rw [hv]; rfl)) rfl trivial (q_eql_v true rfl rfl (decide_eq_true rfl) (q_mv rfl (rg_nil (VS_ret ?_))))))))
      exact Bd.now ⟨_, rfl, rfl⟩
    · skip
      have hs := ha.small
      have hgp := hgt_pairs hv
      refine VS_r0 rfl (q_load_ra rfl rfl rfl rfl rfl (by (simp [setAt]; done)) rfl (q_callp ((c_impl_HeightOf t hs).to (y := i64 ((hgtT t : Nat) : Int)) (by rw [if_pos hv])) rfl trivial (q_mv rfl (rg_nil (VS_seq (VS_seq (VS_r0 rfl (q_mv rfl (q_load_ra rfl rfl rfl rfl rfl (by (simp [setAt]; done)) rfl (q_callp ((c_spec_HeightOf t hs).to (y := i64 ((hgtT t : Nat) : Int)) (by rw [if_pos hv])) rfl trivial (q_neq_v false rfl rfl (by simp) (q_mv rfl (q_t rfl (q_mv rfl (q_t rfl ?_)))))))))))))))
      refine q_lss_v false rfl rfl (decide_eq_false (by omega)) (q_pick_f rfl rfl (rg_nil ?_))
      refine VS_cond rfl (fun e => by cases e) (fun _ => ?_)
      refine VS_skip (VS_seq (VS_r0 rfl (q_load_ra rfl rfl rfl rfl rfl (by (simp [setAt]; done)) rfl (q_callp (c_impl_PairsOf t hs) rfl trivial (q_len_m rfl (q_mv rfl (rg_nil (VS_seq (VS_r0 rfl (q_mv rfl (q_lss rfl rfl (q_mv rfl ?_))))))))))))
      refine q_b rfl (fun g30 => ?_) (fun g30 => ?_)
      · try simp at g30
        refine q_t rfl (q_mv rfl (q_t rfl (q_geq rfl rfl (q_pick_f rfl rfl (q_mv rfl ?_)))))
        refine q_b rfl (fun g34 => ?_) (fun g34 => ?_)
        · try simp at g34
          refine q_t rfl (q_mv rfl (q_t rfl (q_lss rfl rfl (q_t rfl (q_mv rfl ?_)))))
          refine q_b rfl (fun g37 => ?_) (fun g37 => ?_)
          · try simp at g37
            refine q_t rfl (q_mv rfl (q_t rfl (q_geq rfl rfl (q_t rfl (q_pick_f rfl rfl (q_pick_t rfl rfl (q_mv rfl (rg_nil (VS_ret ?_)))))))))
            refine Bd.now ⟨_, rfl, ?_⟩
            (simp at *; omega)
          · try simp at g37
            refine q_f rfl (q_f rfl (q_t rfl (q_pick_t rfl rfl (q_pick_t rfl rfl (q_mv rfl (rg_nil (VS_ret ?_)))))))
            refine Bd.now ⟨_, rfl, ?_⟩
            rfl
        · try simp at g34
          refine q_f rfl (q_f rfl (q_f rfl (q_u rfl (q_u rfl (q_f rfl (q_pick_f rfl rfl (q_mv rfl (rg_nil (VS_ret ?_)))))))))
          refine Bd.now ⟨_, rfl, ?_⟩
          (simp at *; omega)
      · try simp at g30
        refine q_f rfl (q_f rfl (q_pick_t rfl rfl (q_mv rfl (q_t rfl (q_mv rfl (q_t rfl (q_lss rfl rfl (q_t rfl (q_mv rfl ?_)))))))))
        refine q_b rfl (fun g37 => ?_) (fun g37 => ?_)
        · try simp at g37
          refine q_t rfl (q_mv rfl (q_t rfl (q_geq rfl rfl (q_t rfl (q_pick_f rfl rfl (q_pick_t rfl rfl (q_mv rfl (rg_nil (VS_ret ?_)))))))))
          refine Bd.now ⟨_, rfl, ?_⟩
          (simp at *; omega)
        · try simp at g37
          refine q_f rfl (q_f rfl (q_t rfl (q_pick_t rfl rfl (q_pick_t rfl rfl (q_mv rfl (rg_nil (VS_ret ?_)))))))
          refine Bd.now ⟨_, rfl, ?_⟩
          rfl
theorem sl_laws_FnHeightOf : slimF prog 7 = some (46, (.seq (.reg 0 (.o 2 (.mv (.c (.pv (.bool false)))) .nil)) (.seq (.seq (.reg 0 (.o 6 (.mv (.t 0)) (.o 7 (.len (.t 6)) (.o 8 (.bin .gtr (.t 7) (.c (.pv (.int .i64 1048576)))) .nil)))) (.cond (.t 8) (.seq (.reg 0 (.o 2 (.mv (.c (.pv (.bool true)))) .nil)) .ret) .skip)) (.seq (.reg 0 (.o 9 (.mv (.t 0)) (.o 10 (.call 27 [.t 9]) (.o 3 (.alloc 25 2 (.agg [.pv (.int .i64 0), .nils])) (.op ⟨none, none, .store 2 (.t 3) (.t 10)⟩ .nil))))) (.seq (.reg 0 (.o 11 (.load 2 true (.t 3)) (.o 12 (.call 28 [.t 11]) (.o 4 (.mv (.t 12)) .nil)))) (.seq (.seq (.reg 0 (.o 13 (.mv (.t 4)) (.o 14 (.load 2 true (.t 3)) (.o 15 (.call 29 [.t 14]) (.o 16 (.bin .neq (.t 13) (.t 15)) (.o 17 (.mv (.t 16)) (.g 18 17 false (.mv (.t 4)) (.g 19 17 false (.bin .lss (.t 18) (.c (.pv (.int .i64 0)))) (.o 20 (.pick (.t 17) (.c (.pv (.bool true))) (.t 19)) .nil))))))))) (.cond (.t 20) (.seq (.reg 0 (.o 21 (.mv (.t 4)) (.o 22 (.load 2 true (.t 3)) (.o 23 (.call 29 [.t 22]) (.o 24 (.bin .eql (.t 21) (.t 23)) (.o 2 (.mv (.t 24)) .nil)))))) .ret) .skip)) (.seq (.seq (.reg 0 (.o 5 (.mv (.c (.pv (.int .i64 0)))) .nil)) (.block 0 (.loop (.seq (.seq (.reg 0 (.o 25 (.mv (.t 5)) (.o 26 (.bin .leq (.t 25) (.c (.pv (.int .i64 99)))) .nil))) (.cond (.t 26) .skip (.exit 0))) (.seq (.block 1 (.seq (.reg 0 (.o 29 (.load 2 true (.t 3)) (.o 30 (.mv (.t 5)) (.o 31 (.call 30 [.t 29, .t 30]) (.o 32 (.len (.t 31)) (.o 33 (.mv (.t 4)) (.o 34 (.bin .neq (.t 32) (.t 33)) .nil))))))) (.cond (.t 34) (.seq (.reg 0 (.o 2 (.mv (.c (.pv (.bool false)))) .nil)) .ret) .skip))) (.reg 0 (.o 27 (.mv (.t 5)) (.o 28 (.bin .add (.t 27) (.c (.pv (.int .i64 9)))) (.o 5 (.mv (.t 28)) .nil))))))))) (.seq (.reg 0 (.o 35 (.mv (.t 4)) (.o 36 (.bin .leq (.t 35) (.c (.pv (.int .i64 3)))) (.o 37 (.mv (.t 36)) (.g 38 37 true (.mv (.t 4)) (.g 39 37 true (.bin .eql (.t 38) (.c (.pv (.int .i64 1)))) (.g 40 37 true (.fld 1 1 false (.t 3)) (.g 41 37 true (.load 1 false (.t 40)) (.g 42 37 true (.len (.t 41)) (.g 43 37 true (.bin .eql (.t 42) (.c (.pv (.int .i64 1)))) (.g 44 37 true (.beq false (.t 39) (.t 43)) (.o 45 (.pick (.t 37) (.t 44) (.c (.pv (.bool false)))) (.o 2 (.mv (.t 45)) .nil))))))))))))) .ret)))))), [.t 2])) := by kernel_rfl
theorem c_laws_FnHeightOf (bs : List Int) (hb : isU8 bs) : PCon prog 7 [u8s bs] (fun p => p = .bool true) := by
  refine con_of_VS sl_laws_FnHeightOf (by simp) (VS_seq (VS_r0 rfl (q_mv rfl (rg_nil (VS_seq (VS_seq (VS_r0 rfl (q_mv rfl (q_len_m rfl (q_gtr rfl rfl (rg_nil ?_)))))))))))
  refine VS_cond rfl (fun c0 => ?_) (fun c0 => ?_)
  · try simp at c0
    refine VS_seq (VS_r0 rfl (q_mv rfl (rg_nil (VS_ret ?_))))
    exact Bd.now ⟨_, rfl, rfl⟩
  · try simp at c0
    refine VS_skip (VS_seq (VS_r0 rfl (q_mv rfl (q_calle rfl (c_spec_DrawHeightOf bs hb (by omega)) rfl trivial ?_))))
    rintro _ ⟨t, rfl, ha⟩
    refine q_alloc trivial (q_store rfl rfl rfl rfl rfl rfl ⟨rfl, rfl, by simp, rfl, by simp [isOne]⟩ rfl trivial (rg_nil (VS_seq ?_)))
    cases hv : validT t
    · skip
      have hs := ha.small
      refine VS_r0 rfl (q_load_ra rfl rfl rfl rfl rfl (by (simp [setAt]; done)) rfl (q_callp ((c_impl_HeightOf t hs).to (y := i64 (-1)) (by rw [hv]; rfl)) rfl trivial (q_mv rfl (rg_nil (VS_seq (VS_seq (VS_r0 rfl (q_mv rfl (q_load_ra rfl rfl rfl rfl rfl (by (simp [setAt]; done)) rfl (q_callp ((c_spec_HeightOf t hs).to (y := i64 (-1)) (by rw [hv]; rfl)) rfl trivial (q_neq_v false rfl rfl (by simp) (q_mv rfl (q_t rfl (q_mv rfl (q_t rfl ?_)))))))))))))))
      refine q_lss_v true rfl rfl (decide_eq_true (by omega)) (q_pick_f rfl rfl (rg_nil ?_))
      refine VS_cond rfl (fun _ => ?_) (fun e => by cases e)
      refine VS_seq (VS_r0 rfl (q_mv rfl (q_load_ra rfl rfl rfl rfl rfl (by (simp [setAt]; done)) rfl (q_callp ((c_spec_HeightOf t hs).to (y := i64 (-1)) (by rw [hv]; rfl)) rfl trivial (q_eql_v true rfl rfl (decide_eq_true rfl) (q_mv rfl (rg_nil (VS_ret ?_))))))))
      exact Bd.now ⟨_, rfl, rfl⟩
    · skip
      have hs := ha.small
      have hh3 := (valid_ok hv).2.1
      have hone := hgt_one hv
      refine VS_r0 rfl (q_load_ra rfl rfl rfl rfl rfl (by (simp [setAt]; done)) rfl (q_callp ((c_impl_HeightOf t hs).to (y := i64 ((hgtT t : Nat) : Int)) (by rw [if_pos hv])) rfl trivial (q_mv rfl (rg_nil (VS_seq (VS_seq (VS_r0 rfl (q_mv rfl (q_load_ra rfl rfl rfl rfl rfl (by (simp [setAt]; done)) rfl (q_callp ((c_spec_HeightOf t hs).to (y := i64 ((hgtT t : Nat) : Int)) (by rw [if_pos hv])) rfl trivial (q_neq_v false rfl rfl (by simp) (q_mv rfl (q_t rfl (q_mv rfl (q_t rfl ?_)))))))))))))))
      refine q_lss_v false rfl rfl (decide_eq_false (by omega)) (q_pick_f rfl rfl (rg_nil ?_))
      refine VS_cond rfl (fun e => by cases e) (fun _ => ?_)
      refine VS_skip (VS_seq (VS_seq (VS_r0 rfl (q_mv rfl (rg_nil (VS_block ?_))))))
      refine VS_bd (Bd.keepL [(3, .ptr 0 0 0), (4, .pv (i64 (hgtT t))), (5, .pv (i64 0))] ⟨rfl, rfl, rfl, trivial⟩ ?_)
      refine VS_loop (fun mz E S => ∃ i : Nat, mz = 120 - i ∧ (i ≤ 108) ∧ E = env [(3, .ptr 0 0 0), (4, .pv (i64 (hgtT t))), (5, .pv (i64 i))] ∧ S = [some ⟨25, 2, [.agg [.pv (i64 t.r), .pv (pgsP t.ps)]]⟩]) ⟨_, 0, rfl, (by omega), rfl, rfl⟩ ?_
      rintro mz _ _ ⟨i, hmeas, g0, rfl, rfl⟩
      refine VS_seq (VS_seq (VS_r0 rfl (q_mv rfl (q_leq rfl rfl (rg_nil ?_)))))
      refine VS_cond rfl (fun c2 => ?_) (fun c2 => ?_)
      · try simp at c2
        refine VS_skip (VS_seq (VS_block (VS_seq (VS_r0 rfl (q_load_ra rfl rfl rfl rfl rfl (by (simp; done)) rfl (q_mv rfl (q_callp ((c_impl_PathTo t hs ((i : Nat) : Int)).to (y := ints (pthT t i)) (by rw [if_pos hv])) rfl trivial (q_len_m rfl (q_mv rfl (q_neq_v false rfl rfl (by rw [pthT_len hv]; simp) (rg_nil ?_)))))))))))
        refine VS_cond rfl (fun e => by cases e) (fun _ => ?_)
        refine VS_skip (VS_r0 rfl (q_mv rfl (q_add rfl rfl (inR64 (by omega)) (q_mv rfl (rg_nil ?_)))))
        refine Bd.keepL [(3, .ptr 0 0 0), (4, .pv (i64 (hgtT t))), (5, .pv (i64 (i + 9)))] ⟨rfl, rfl, rfl, trivial⟩ ⟨_, ?_, i + 9, rfl, ?_, rfl, rfl⟩
        · omega
        · omega
      · try simp at c2
        refine VS_exit (VS_seq (VS_r0 rfl (q_mv rfl (q_leq_v true rfl rfl (decide_eq_true (by omega)) (q_mv rfl (q_t rfl (q_mv rfl (q_t rfl (q_eql rfl rfl (q_t rfl (q_fld_r rfl (q_t rfl (q_load_r rfl rfl rfl rfl rfl rfl rfl (q_t rfl (q_len_m rfl ?_)))))))))))))))
        refine q_t rfl (q_eql rfl rfl (q_t rfl (q_beq rfl rfl (q_pick_t rfl rfl (q_mv rfl (rg_nil (VS_ret ?_)))))))
        refine Bd.now ⟨_, rfl, ?_⟩
        have h1 : decide ((hgtT t : Int) = 1) = decide ((t.ps.length : Int) = 1) := decide_eq_decide.2 (by omega)
        show PV.bool _ = PV.bool true
        rw [if_neg (by simp), h1]
        simp
theorem sl_laws_FnFillOf : slimF prog 6 = some (49, (.seq (.reg 0 (.o 2 (.mv (.c (.pv (.bool false)))) .nil)) (.seq (.seq (.reg 0 (.o 5 (.mv (.t 0)) (.o 6 (.len (.t 5)) (.o 7 (.bin .gtr (.t 6) (.c (.pv (.int .i64 1048576)))) .nil)))) (.cond (.t 7) (.seq (.reg 0 (.o 2 (.mv (.c (.pv (.bool true)))) .nil)) .ret) .skip)) (.seq (.reg 0 (.o 8 (.mv (.t 0)) (.o 9 (.call 23 [.t 8]) (.o 3 (.alloc 25 2 (.agg [.pv (.int .i64 0), .nils])) (.op ⟨none, none, .store 2 (.t 3) (.t 9)⟩ .nil))))) (.seq (.reg 0 (.o 10 (.load 2 true (.t 3)) (.o 11 (.call 24 [.t 10]) (.o 4 (.mv (.t 11)) .nil)))) (.seq (.seq (.reg 0 (.o 12 (.mv (.t 4)) (.o 13 (.load 2 true (.t 3)) (.o 14 (.call 25 [.t 13]) (.o 15 (.bin .neq (.t 12) (.t 14)) (.o 16 (.mv (.t 15)) (.g 17 16 false (.mv (.t 4)) (.g 18 16 false (.bin .lss (.t 17) (.c (.pv (.int .i64 0)))) (.o 19 (.pick (.t 16) (.c (.pv (.bool true))) (.t 18)) .nil))))))))) (.cond (.t 19) (.seq (.reg 0 (.o 20 (.mv (.t 4)) (.o 21 (.load 2 true (.t 3)) (.o 22 (.call 25 [.t 21]) (.o 23 (.bin .eql (.t 20) (.t 22)) (.o 2 (.mv (.t 23)) .nil)))))) .ret) .skip)) (.seq (.reg 2 (.o 24 (.mv (.t 4)) (.o 25 (.bin .leq (.t 24) (.c (.pv (.int .i64 100)))) (.o 26 (.mv (.t 25)) (.g 27 26 true (.mv (.t 4)) (.g 28 26 true (.bin .geq (.t 27) (.c (.pv (.int .i64 50)))) (.g 29 26 true (.mv (.t 28)) (.g 30 29 false (.fld 1 1 false (.t 3)) (.g 31 29 false (.load 1 false (.t 30)) (.g 32 29 false (.len (.t 31)) (.g 33 29 false (.bin .eql (.t 32) (.c (.pv (.int .i64 1)))) (.g 34 26 true (.pick (.t 29) (.c (.pv (.bool true))) (.t 33)) (.o 35 (.pick (.t 26) (.t 34) (.c (.pv (.bool false)))) (.o 36 (.mv (.t 35)) (.g 37 36 true (.mv (.t 4)) (.g 38 36 true (.load 2 true (.t 3)) (.g 42 36 true (.load 2 true (.t 3)) (.g 39 36 true (.call 26 [.t 38]) (.g 40 36 true (.len (.t 39)) (.g 41 36 true (.bin .mul (.c (.pv (.int .i64 100))) (.t 40)) (.g 43 36 true (.call 20 [.t 42]) (.g 44 36 true (.len (.t 43)) (.g 45 36 true (.bin .mul (.c (.pv (.int .i64 4))) (.t 44)) (.g 46 36 true (.bin .quo (.t 41) (.t 45)) (.g 47 36 true (.bin .eql (.t 37) (.t 46)) (.o 48 (.pick (.t 36) (.t 47) (.c (.pv (.bool false)))) (.o 2 (.mv (.t 48)) .nil))))))))))))))))))))))))))) .ret))))), [.t 2])) := by kernel_rfl
theorem c_laws_FnFillOf (bs : List Int) (hb : isU8 bs) : PCon prog 6 [u8s bs] (fun p => p = .bool true) := by
  refine con_of_VS sl_laws_FnFillOf (by simp) (VS_seq (VS_r0 rfl (q_mv rfl (rg_nil (VS_seq (VS_seq (VS_r0 rfl (q_mv rfl (q_len_m rfl (q_gtr rfl rfl (rg_nil ?_)))))))))))
  refine VS_cond rfl (fun c0 => ?_) (fun c0 => ?_)
  · try simp at c0
    refine VS_seq (VS_r0 rfl (q_mv rfl (rg_nil (VS_ret ?_))))
    exact Bd.now ⟨_, rfl, rfl⟩
  · try simp at c0
    refine VS_skip (VS_seq (VS_r0 rfl (q_mv rfl (q_calle rfl (c_spec_DrawFillOf bs hb (by omega)) rfl trivial ?_))))
    rintro _ ⟨t, rfl, ha⟩
    refine q_alloc trivial (q_store rfl rfl rfl rfl rfl rfl ⟨rfl, rfl, by simp, rfl, by simp [isOne]⟩ rfl trivial (rg_nil (VS_seq ?_)))
    cases hv : validT t
    · skip
      have hs := ha.small
      refine VS_r0 rfl (q_load_ra rfl rfl rfl rfl rfl (by (simp [setAt]; done)) rfl (q_callp ((c_impl_FillOf t hs).to (y := i64 (-1)) (by rw [hv]; rfl)) rfl trivial (q_mv rfl (rg_nil (VS_seq (VS_seq (VS_r0 rfl (q_mv rfl (q_load_ra rfl rfl rfl rfl rfl (by (simp [setAt]; done)) rfl (q_callp ((c_spec_FillOf t hs).to (y := i64 (-1)) (by rw [hv]; rfl)) rfl trivial (q_neq_v false rfl rfl (by simp) (q_mv rfl (q_t rfl (q_mv rfl (q_t rfl ?_)))))))))))))))
      refine q_lss_v true rfl rfl (decide_eq_true (by omega)) (q_pick_f rfl rfl (rg_nil ?_))
      refine VS_cond rfl (fun _ => ?_) (fun e => by cases e)
      refine VS_seq (VS_r0 rfl (q_mv rfl (q_load_ra rfl rfl rfl rfl rfl (by (simp [setAt]; done)) rfl (q_callp ((c_spec_FillOf t hs).to (y := i64 (-1)) (by rw [hv]; rfl)) rfl trivial (q_eql_v true rfl rfl (decide_eq_true rfl) (q_mv rfl (rg_nil (VS_ret ?_))))))))
      exact Bd.now ⟨_, rfl, rfl⟩
    · skip
      have hs := ha.small
      have hfe : ((fillV t : Nat) : Int) = 100 * ((prV t).length : Int) / (4 * ((lvV t).length : Int)) := by simp
      have hfb := fill_bounds hv
      have hll := lvV_len (t := t)
      have hpl := prV_len (t := t)
      have hlp := lv_pos hv
      have hfl := fill_le (t := t)
      refine VS_r0 rfl (q_load_ra rfl rfl rfl rfl rfl (by (simp [setAt]; done)) rfl (q_callp ((c_impl_FillOf t hs).to (y := i64 ((fillV t : Nat) : Int)) (by rw [if_pos hv])) rfl trivial (q_mv rfl (rg_nil (VS_seq (VS_seq (VS_r0 rfl (q_mv rfl (q_load_ra rfl rfl rfl rfl rfl (by (simp [setAt]; done)) rfl (q_callp ((c_spec_FillOf t hs).to (y := i64 ((fillV t : Nat) : Int)) (by rw [if_pos hv])) rfl trivial (q_neq_v false rfl rfl (by simp) (q_mv rfl (q_t rfl (q_mv rfl (q_t rfl ?_)))))))))))))))
      refine q_lss_v false rfl rfl (decide_eq_false (by omega)) (q_pick_f rfl rfl (rg_nil ?_))
      refine VS_cond rfl (fun e => by cases e) (fun _ => ?_)
      refine VS_skip (VS_seq (VS_r2 _ hmix (Sub.refl _) (q_mv rfl (q_leq_v true rfl rfl (decide_eq_true (by omega)) (q_mv rfl (q_t rfl (q_mv rfl (q_t rfl (q_geq rfl rfl (q_t rfl (q_mv rfl ?_)))))))))))
      refine q_b rfl (fun g29 => ?_) (fun g29 => ?_)
      · try simp at g29
        refine q_t rfl (q_fld_r rfl (q_t rfl (q_load_r rfl rfl rfl rfl rfl rfl rfl (q_t rfl (q_len_m rfl (q_t rfl (q_eql rfl rfl (q_t rfl (q_pick_f rfl rfl (q_pick_t rfl rfl (q_mv rfl ?_)))))))))))
        refine q_b rfl (fun g36 => ?_) (fun g36 => ?_)
        · try simp at g36
          refine q_t rfl (q_mv rfl (q_t rfl (q_load_ra rfl rfl rfl rfl rfl (by (simp [setAt]; done)) rfl (q_t rfl (q_load_ra rfl rfl rfl rfl rfl (by (simp [setAt]; done)) rfl (q_t rfl (q_callp (c_impl_PairsOf t hs) rfl (Sub.refl _) (q_t rfl (q_len_m rfl (q_t rfl (q_mul rfl rfl (inR64 (by omega)) (q_t rfl (q_callp (c_impl_LeavesOf t hs) rfl (Sub.refl _) (q_t rfl (q_len_m rfl ?_)))))))))))))))
          refine q_t rfl (q_mul rfl rfl (inR64 (by omega)) (q_t rfl (q_quo_to ((fillV t : Nat) : Int) rfl rfl ⟨by omega, by omega⟩ (by simp [fillV]) (inR64 (by omega)) (q_t rfl (q_eql_v true rfl rfl (decide_eq_true rfl) (q_pick_t rfl rfl (q_mv rfl (rg_nil (VS_ret ?_)))))))))
          refine Bd.now ⟨_, rfl, ?_⟩
          rfl
        · try simp at g36
          refine q_f rfl (q_f rfl (q_f rfl (q_f rfl (q_f rfl (q_f rfl (q_f rfl (q_f rfl (q_f rfl (q_f rfl (q_f rfl (q_pick_f rfl rfl (q_mv rfl (rg_nil (VS_ret ?_))))))))))))))
          refine Bd.now ⟨_, rfl, ?_⟩
          (exfalso; rcases hfb.2 with h | h <;> first | omega | (simp_all; done) | (simp_all; omega))
      · try simp at g29
        refine q_f rfl (q_f rfl (q_f rfl (q_f rfl (q_t rfl (q_pick_t rfl rfl (q_pick_t rfl rfl (q_mv rfl (q_t rfl (q_mv rfl (q_t rfl (q_load_ra rfl rfl rfl rfl rfl (by (simp [setAt]; done)) rfl (q_t rfl (q_load_ra rfl rfl rfl rfl rfl (by (simp [setAt]; done)) rfl (q_t rfl (q_callp (c_impl_PairsOf t hs) rfl (Sub.refl _) ?_)))))))))))))))
        refine q_t rfl (q_len_m rfl (q_t rfl (q_mul rfl rfl (inR64 (by omega)) (q_t rfl (q_callp (c_impl_LeavesOf t hs) rfl (Sub.refl _) (q_t rfl (q_len_m rfl (q_t rfl (q_mul rfl rfl (inR64 (by omega)) (q_t rfl (q_quo_to ((fillV t : Nat) : Int) rfl rfl ⟨by omega, by omega⟩ (by simp [fillV]) (inR64 (by omega)) (q_t rfl (q_eql_v true rfl rfl (decide_eq_true rfl) (q_pick_t rfl rfl (q_mv rfl ?_)))))))))))))))
        refine rg_nil (VS_ret ?_)
        refine Bd.now ⟨_, rfl, ?_⟩
        rfl
end Go.V
