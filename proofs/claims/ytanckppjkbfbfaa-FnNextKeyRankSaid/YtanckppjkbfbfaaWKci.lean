/- A part of the proofs about laws of the page tree (see the text that bears the law): a small language of steps, its rules, and what the functions of the program return. -/
import Derived.Test.YtanckppjkbfbfaaWKcg
set_option linter.all false
set_option linter.unusedVariables false
set_option linter.unusedSimpArgs false
set_option maxHeartbeats 4000000
namespace Go.V
open Go.Proofs.Try (prog)
set_option maxRecDepth 100000
theorem sl_laws_FnRankOf : slimF prog 6 = some (74, (.seq (.reg 0 (.o 2 (.mv (.c (.pv (.bool false)))) .nil)) (.seq (.seq (.reg 0 (.o 9 (.mv (.t 0)) (.o 10 (.len (.t 9)) (.o 11 (.bin .gtr (.t 10) (.c (.pv (.int .i64 1048576)))) .nil)))) (.cond (.t 11) (.seq (.reg 0 (.o 2 (.mv (.c (.pv (.bool true)))) .nil)) .ret) .skip)) (.seq (.reg 0 (.o 13 (.mv (.t 0)) (.o 14 (.call 22 [.t 13]) (.o 12 (.mv (.t 14)) (.o 15 (.ext (.t 12) 0) (.o 16 (.ext (.t 12) 1) (.o 3 (.alloc 25 2 (.agg [.pv (.int .i64 0), .nils])) (.op ⟨none, none, .store 2 (.t 3) (.t 15)⟩ (.o 4 (.mv (.t 16)) .nil))))))))) (.seq (.reg 0 (.o 17 (.load 2 true (.t 3)) (.o 18 (.mv (.t 4)) (.o 19 (.call 23 [.t 17, .t 18]) (.o 5 (.mv (.t 19)) .nil))))) (.seq (.seq (.reg 0 (.o 20 (.mv (.t 5)) (.o 21 (.load 2 true (.t 3)) (.o 22 (.mv (.t 4)) (.o 23 (.call 24 [.t 21, .t 22]) (.o 24 (.bin .neq (.t 20) (.t 23)) (.o 25 (.mv (.t 24)) (.g 26 25 false (.mv (.t 5)) (.g 27 25 false (.bin .lss (.t 26) (.c (.pv (.int .i64 0)))) (.o 28 (.pick (.t 25) (.c (.pv (.bool true))) (.t 27)) .nil)))))))))) (.cond (.t 28) (.seq (.reg 0 (.o 29 (.mv (.t 5)) (.o 30 (.load 2 true (.t 3)) (.o 31 (.mv (.t 4)) (.o 32 (.call 24 [.t 30, .t 31]) (.o 33 (.bin .eql (.t 29) (.t 32)) (.o 2 (.mv (.t 33)) .nil))))))) .ret) .skip)) (.seq (.reg 0 (.o 34 (.load 2 true (.t 3)) (.o 35 (.call 26 [.t 34]) (.o 36 (.call 25 [.t 35]) (.o 6 (.mv (.t 36)) .nil))))) (.seq (.reg 0 (.o 37 (.load 2 true (.t 3)) (.o 38 (.mv (.t 4)) (.o 39 (.bin .add (.t 38) (.c (.pv (.int .i64 1)))) (.o 40 (.call 23 [.t 37, .t 39]) (.o 7 (.mv (.t 40)) .nil)))))) (.seq (.seq (.reg 0 (.o 8 (.mv (.c (.pv (.int .i64 0)))) .nil)) (.block 0 (.loop (.seq (.seq (.reg 0 (.o 41 (.mv (.t 8)) (.o 42 (.mv (.t 6)) (.o 43 (.len (.t 42)) (.o 44 (.bin .lss (.t 41) (.t 43)) .nil))))) (.cond (.t 44) .skip (.exit 0))) (.seq (.block 1 (.seq (.reg 2 (.o 47 (.load 2 true (.t 3)) (.o 48 (.mv (.t 6)) (.o 49 (.mv (.t 8)) (.o 50 (.idx 1 (.t 48) (.t 49)) (.o 51 (.load 1 false (.t 50)) (.o 53 (.mv (.t 8)) (.o 52 (.call 23 [.t 47, .t 51]) (.o 54 (.bin .neq (.t 52) (.t 53)) .nil))))))))) (.cond (.t 54) (.seq (.reg 0 (.o 2 (.mv (.c (.pv (.bool false)))) .nil)) .ret) .skip))) (.reg 0 (.o 45 (.mv (.t 8)) (.o 46 (.bin .add (.t 45) (.c (.pv (.int .i64 1)))) (.o 8 (.mv (.t 46)) .nil))))))))) (.seq (.reg 0 (.o 55 (.mv (.t 7)) (.o 56 (.mv (.t 5)) (.o 57 (.bin .add (.t 56) (.c (.pv (.int .i64 1)))) (.o 58 (.bin .eql (.t 55) (.t 57)) (.o 59 (.mv (.t 6)) (.o 60 (.mv (.t 4)) (.o 61 (.call 18 [.t 59, .t 60]) (.o 62 (.beq false (.t 58) (.t 61)) (.o 63 (.mv (.t 62)) (.g 64 63 true (.mv (.t 7)) (.g 65 63 true (.mv (.t 5)) (.g 66 63 true (.bin .eql (.t 64) (.t 65)) (.g 67 63 true (.mv (.t 66)) (.g 68 67 false (.mv (.t 7)) (.g 69 67 false (.mv (.t 5)) (.g 70 67 false (.bin .add (.t 69) (.c (.pv (.int .i64 1)))) (.g 71 67 false (.bin .eql (.t 68) (.t 70)) (.g 72 63 true (.pick (.t 67) (.c (.pv (.bool true))) (.t 71)) (.o 73 (.pick (.t 63) (.t 72) (.c (.pv (.bool false)))) (.o 2 (.mv (.t 73)) .nil))))))))))))))))))))) .ret)))))))), [.t 2])) := by kernel_rfl
theorem c_laws_FnRankOf (bs : List Int) (hb : isU8 bs) : PCon prog 6 [u8s bs] (fun p => p = .bool true) := by
 refine con_of_VS sl_laws_FnRankOf (by simp) (VS_seq (VS_r0 rfl (q_mv rfl (rg_nil (VS_seq (VS_seq (VS_r0 rfl (q_mv rfl (q_len_m rfl (q_gtr rfl rfl (rg_nil ?_)))))))))))
 refine VS_cond rfl (fun c0 => ?_) (fun c0 => ?_)
 ·try simp at c0
  refine VS_seq (VS_r0 rfl (q_mv rfl (rg_nil (VS_ret ?_))))
  exact Bd.now ⟨_, rfl, rfl⟩
 ·try simp at c0
  refine VS_skip (VS_seq (VS_r0 rfl (q_mv rfl (q_calle rfl (c_spec_DrawRankOf bs hb (by omega)) rfl trivial ?_))))
  rintro _ ⟨t, k, rfl, ha, qvk⟩
  refine q_mv rfl (q_ext rfl rfl (q_ext rfl rfl (q_alloc trivial (q_store rfl rfl rfl rfl rfl rfl ⟨rfl, rfl, by simp, rfl, by simp [isOne]⟩ rfl trivial (q_mv rfl (rg_nil (VS_seq ?_)))))))
  cases hv : validT t
  ·skip
   have hs := ha.small
   have hpl := prV_len (t := t)
   have hkl := keysV_len (t := t)
   have hkp : (keysR (prV t)).length = (prV t).length := List.length_map ..
   refine VS_r0 rfl (q_load_ra rfl rfl rfl rfl rfl (by (simp [setAt]; done)) rfl (q_mv rfl (q_callp ((c_impl_RankOf t hs k).to (y := i64 (-1)) (by rw [hv]; rfl)) rfl trivial (q_mv rfl (rg_nil (VS_seq (VS_seq (VS_r0 rfl (q_mv rfl (q_load_ra rfl rfl rfl rfl rfl (by (simp [setAt]; done)) rfl (q_mv rfl (q_callp ((c_spec_RankOf t hs k).to (y := i64 (-1)) (by rw [hv]; rfl)) rfl trivial (q_neq_v false rfl rfl (by simp) (q_mv rfl (q_t rfl ?_)))))))))))))))
   refine q_mv rfl (q_t rfl (q_lss_v true rfl rfl (decide_eq_true (by omega)) (q_pick_f rfl rfl (rg_nil ?_))))
   refine VS_cond rfl (fun _ => ?_) (fun e => by cases e)
   refine VS_seq (VS_r0 rfl (q_mv rfl (q_load_ra rfl rfl rfl rfl rfl (by (simp [setAt]; done)) rfl (q_mv rfl (q_callp ((c_spec_RankOf t hs k).to (y := i64 (-1)) (by rw [hv]; rfl)) rfl trivial (q_eql_v true rfl rfl (decide_eq_true rfl) (q_mv rfl (rg_nil (VS_ret ?_)))))))))
   exact Bd.now ⟨_, rfl, rfl⟩
  ·skip
   have hs := ha.small
   have hpl := prV_len (t := t)
   have hkl := keysV_len (t := t)
   have hkp : (keysR (prV t)).length = (prV t).length := List.length_map ..
   have hkg := keys_good hv
   have hul := upTo_le (keysR (prV t)) (k - 1)
   have hul2 := upTo_le (keysR (prV t)) k
   have hst : (upTo (keysR (prV t)) k = upTo (keysR (prV t)) (k - 1) + 1 ∧ (keysR (prV t)).contains k = true) ∨ (upTo (keysR (prV t)) k = upTo (keysR (prV t)) (k - 1) ∧ (keysR (prV t)).contains k = false) := by have h := upTo_step hkg (k - 1); rwa [show k - 1 + 1 = k by omega] at h
   have hst2 : (keysR (prV t)).contains k = decide (((upTo (keysR (prV t)) k : Nat) : Int) = ((upTo (keysR (prV t)) (k - 1) : Nat) : Int) + 1) := by rcases hst with h | h; exact h.2.trans (decide_eq_true (by omega)).symm; exact h.2.trans (decide_eq_false (by omega)).symm
   refine VS_r0 rfl (q_load_ra rfl rfl rfl rfl rfl (by (simp [setAt]; done)) rfl (q_mv rfl (q_callp ((c_impl_RankOf t hs (k)).to (y := i64 (((upTo (keysR (prV t)) (k - 1) : Nat) : Int))) (by rw [if_pos hv])) rfl trivial (q_mv rfl (rg_nil (VS_seq (VS_seq (VS_r0 rfl (q_mv rfl (q_load_ra rfl rfl rfl rfl rfl (by (simp [setAt]; done)) rfl (q_mv rfl (q_callp ((c_spec_RankOf t hs (k)).to (y := i64 (((upTo (keysR (prV t)) (k - 1) : Nat) : Int))) (by rw [if_pos hv])) rfl trivial (q_neq_v false rfl rfl (by simp) (q_mv rfl (q_t rfl ?_)))))))))))))))
   refine q_mv rfl (q_t rfl (q_lss_v false rfl rfl (decide_eq_false (by omega)) (q_pick_f rfl rfl (rg_nil ?_))))
   refine VS_cond rfl (fun e => by cases e) (fun _ => ?_)
   refine VS_skip (VS_seq (VS_r0 rfl (q_load_ra rfl rfl rfl rfl rfl (by (simp [setAt]; done)) rfl (q_callp (c_impl_PairsOf t hs) rfl trivial (q_callp (c_laws_keysOf (prV t) (by omega)) rfl trivial (q_mv rfl (rg_nil (VS_seq (VS_r0 rfl (q_load_ra rfl rfl rfl rfl rfl (by (simp [setAt]; done)) rfl (q_mv rfl (q_add rfl rfl (inR64 (by omega)) ?_))))))))))))
   refine q_callp ((c_impl_RankOf t hs (k + 1)).to (y := i64 (((upTo (keysR (prV t)) k : Nat) : Int))) (by rw [if_pos hv, show k + 1 - 1 = k by omega])) rfl trivial ?_
   refine q_mv rfl (rg_nil (VS_seq (VS_seq (VS_r0 rfl (q_mv rfl (rg_nil (VS_block ?_)))))))
   refine VS_bd (Bd.keepL [(3, .ptr 0 0 0), (4, .pv (i64 k)), (5, .pv (i64 ((upTo (keysR (prV t)) (k - 1) : Nat) : Int))), (6, .pv (ints (keysR (prV t)))), (7, .pv (i64 ((upTo (keysR (prV t)) k : Nat) : Int))), (8, .pv (i64 0))] ⟨rfl, rfl, rfl, rfl, rfl, rfl, trivial⟩ ?_)
   refine VS_loop (fun mz E S => ∃ i : Nat, mz = (keysR (prV t)).length - i ∧ (i ≤ (keysR (prV t)).length) ∧ E = env [(3, .ptr 0 0 0), (4, .pv (i64 k)), (5, .pv (i64 ((upTo (keysR (prV t)) (k - 1) : Nat) : Int))), (6, .pv (ints (keysR (prV t)))), (7, .pv (i64 ((upTo (keysR (prV t)) k : Nat) : Int))), (8, .pv (i64 i))] ∧ S = [some ⟨25, 2, [.agg [.pv (i64 t.r), .pv (pgsP t.ps)]]⟩]) ⟨_, 0, rfl, (by omega), rfl, rfl⟩ ?_
   rintro mz _ _ ⟨i, hmeas, g0, rfl, rfl⟩
   refine VS_seq (VS_seq (VS_r0 rfl (q_mv rfl (q_mv rfl (q_len_m rfl (q_lss rfl rfl (rg_nil ?_)))))))
   refine VS_cond rfl (fun c2 => ?_) (fun c2 => ?_)
   ·try simp at c2
    refine VS_skip (VS_seq (VS_block (VS_seq (VS_r2 _ hmix (Sub.refl _) (q_load_ra rfl rfl rfl rfl rfl (by (simp; done)) rfl (q_mv rfl (q_mv rfl (q_idx_m (f := fun k => i64 k) (xs := keysR (prV t)) (n := ((i : Nat) : Int)) rfl rfl (by omega) (by omega) (fun _ => rfl) ?_))))))))
    rw [Int.toNat_natCast (i)]
    refine q_load_c rfl rfl rfl (q_mv rfl (q_callp ((c_impl_RankOf t hs (nth (keysR (prV t)) i)).to (y := i64 (((i : Nat) : Int))) (by rw [if_pos hv, upTo_pred hkg (by omega)])) rfl (Sub.refl _) (q_neq_v false rfl rfl (by simp) (rg_nil ?_))))
    refine VS_cond rfl (fun e => by cases e) (fun _ => ?_)
    refine VS_skip (VS_r0 rfl (q_mv rfl (q_add rfl rfl (inR64 (by omega)) (q_mv rfl (rg_nil ?_)))))
    refine Bd.keepL [(3, .ptr 0 0 0), (4, .pv (i64 k)), (5, .pv (i64 ((upTo (keysR (prV t)) (k - 1) : Nat) : Int))), (6, .pv (ints (keysR (prV t)))), (7, .pv (i64 ((upTo (keysR (prV t)) k : Nat) : Int))), (8, .pv (i64 (i + 1)))] ⟨rfl, rfl, rfl, rfl, rfl, rfl, trivial⟩ ⟨_, ?_, i + 1, rfl, ?_, rfl, rfl⟩
    ·omega
    ·omega
   ·try simp at c2
    refine VS_exit (VS_seq (VS_r0 rfl (q_mv rfl (q_mv rfl (q_add rfl rfl (inR64 (by omega)) (q_eql rfl rfl (q_mv rfl (q_mv rfl (q_callp ((c_laws_isIn (keysR (prV t)) k (by omega)).to (y := .bool (decide (((upTo (keysR (prV t)) k : Nat) : Int) = ((upTo (keysR (prV t)) (k - 1) : Nat) : Int) + 1))) (by rw [hst2])) rfl trivial (q_beq_v true rfl rfl ((by simp)) (q_mv rfl (q_t rfl (q_mv rfl (q_t rfl (q_mv rfl ?_)))))))))))))))
    refine q_t rfl (q_eql rfl rfl (q_t rfl (q_mv rfl ?_)))
    refine q_b rfl (fun g67 => ?_) (fun g67 => ?_)
    ·try simp at g67
     refine q_t rfl (q_mv rfl (q_t rfl (q_mv rfl (q_t rfl (q_add rfl rfl (inR64 (by omega)) (q_t rfl (q_eql_v true rfl rfl (decide_eq_true (by omega)) (q_t rfl (q_pick_f rfl rfl (q_pick_t rfl rfl (q_mv rfl (rg_nil (VS_ret ?_)))))))))))))
     exact Bd.now ⟨_, rfl, rfl⟩
    ·try simp at g67
     refine q_f rfl (q_f rfl (q_f rfl (q_f rfl (q_t rfl (q_pick_t rfl rfl (q_pick_t rfl rfl (q_mv rfl (rg_nil (VS_ret ?_)))))))))
     exact Bd.now ⟨_, rfl, rfl⟩
theorem sl_laws_FnRankOfAll : slimF prog 7 = some (42, (.seq (.reg 0 (.o 2 (.mv (.c (.pv (.bool false)))) .nil)) (.seq (.seq (.reg 0 (.o 6 (.mv (.t 0)) (.o 7 (.len (.t 6)) (.o 8 (.bin .gtr (.t 7) (.c (.pv (.int .i64 1048576)))) .nil)))) (.cond (.t 8) (.seq (.reg 0 (.o 2 (.mv (.c (.pv (.bool true)))) .nil)) .ret) .skip)) (.seq (.reg 0 (.o 10 (.mv (.t 0)) (.o 11 (.call 22 [.t 10]) (.o 9 (.mv (.t 11)) (.o 12 (.ext (.t 9) 0) (.o 13 (.ext (.t 9) 1) (.o 3 (.alloc 25 2 (.agg [.pv (.int .i64 0), .nils])) (.op ⟨none, none, .store 2 (.t 3) (.t 12)⟩ (.o 4 (.mv (.t 13)) .nil))))))))) (.seq (.reg 0 (.o 14 (.load 2 true (.t 3)) (.o 15 (.mv (.t 4)) (.o 16 (.call 23 [.t 14, .t 15]) (.o 5 (.mv (.t 16)) .nil))))) (.seq (.seq (.reg 0 (.o 17 (.mv (.t 5)) (.o 18 (.load 2 true (.t 3)) (.o 19 (.mv (.t 4)) (.o 20 (.call 24 [.t 18, .t 19]) (.o 21 (.bin .neq (.t 17) (.t 20)) (.o 22 (.mv (.t 21)) (.g 23 22 false (.mv (.t 5)) (.g 24 22 false (.bin .lss (.t 23) (.c (.pv (.int .i64 0)))) (.o 25 (.pick (.t 22) (.c (.pv (.bool true))) (.t 24)) .nil)))))))))) (.cond (.t 25) (.seq (.reg 0 (.o 26 (.mv (.t 5)) (.o 27 (.load 2 true (.t 3)) (.o 28 (.mv (.t 4)) (.o 29 (.call 24 [.t 27, .t 28]) (.o 30 (.bin .eql (.t 26) (.t 29)) (.o 2 (.mv (.t 30)) .nil))))))) .ret) .skip)) (.seq (.reg 2 (.o 31 (.load 2 true (.t 3)) (.o 33 (.load 2 true (.t 3)) (.o 32 (.call 23 [.t 31, .c (.pv (.int .i64 100))]) (.o 34 (.call 26 [.t 33]) (.o 35 (.len (.t 34)) (.o 36 (.bin .eql (.t 32) (.t 35)) (.o 37 (.mv (.t 36)) (.g 38 37 true (.load 2 true (.t 3)) (.g 39 37 true (.call 23 [.t 38, .c (.pv (.int .i64 0))]) (.g 40 37 true (.bin .eql (.t 39) (.c (.pv (.int .i64 0)))) (.o 41 (.pick (.t 37) (.t 40) (.c (.pv (.bool false)))) (.o 2 (.mv (.t 41)) .nil))))))))))))) .ret))))), [.t 2])) := by kernel_rfl
theorem c_laws_FnRankOfAll (bs : List Int) (hb : isU8 bs) : PCon prog 7 [u8s bs] (fun p => p = .bool true) := by
 refine con_of_VS sl_laws_FnRankOfAll (by simp) (VS_seq (VS_r0 rfl (q_mv rfl (rg_nil (VS_seq (VS_seq (VS_r0 rfl (q_mv rfl (q_len_m rfl (q_gtr rfl rfl (rg_nil ?_)))))))))))
 refine VS_cond rfl (fun c0 => ?_) (fun c0 => ?_)
 ·try simp at c0
  refine VS_seq (VS_r0 rfl (q_mv rfl (rg_nil (VS_ret ?_))))
  exact Bd.now ⟨_, rfl, rfl⟩
 ·try simp at c0
  refine VS_skip (VS_seq (VS_r0 rfl (q_mv rfl (q_calle rfl (c_spec_DrawRankOf bs hb (by omega)) rfl trivial ?_))))
  rintro _ ⟨t, k, rfl, ha, qvk⟩
  refine q_mv rfl (q_ext rfl rfl (q_ext rfl rfl (q_alloc trivial (q_store rfl rfl rfl rfl rfl rfl ⟨rfl, rfl, by simp, rfl, by simp [isOne]⟩ rfl trivial (q_mv rfl (rg_nil (VS_seq ?_)))))))
  cases hv : validT t
  ·skip
   have hs := ha.small
   have hpl := prV_len (t := t)
   have hkl := keysV_len (t := t)
   have hkp : (keysR (prV t)).length = (prV t).length := List.length_map ..
   refine VS_r0 rfl (q_load_ra rfl rfl rfl rfl rfl (by (simp [setAt]; done)) rfl (q_mv rfl (q_callp ((c_impl_RankOf t hs k).to (y := i64 (-1)) (by rw [hv]; rfl)) rfl trivial (q_mv rfl (rg_nil (VS_seq (VS_seq (VS_r0 rfl (q_mv rfl (q_load_ra rfl rfl rfl rfl rfl (by (simp [setAt]; done)) rfl (q_mv rfl (q_callp ((c_spec_RankOf t hs k).to (y := i64 (-1)) (by rw [hv]; rfl)) rfl trivial (q_neq_v false rfl rfl (by simp) (q_mv rfl (q_t rfl ?_)))))))))))))))
   refine q_mv rfl (q_t rfl (q_lss_v true rfl rfl (decide_eq_true (by omega)) (q_pick_f rfl rfl (rg_nil ?_))))
   refine VS_cond rfl (fun _ => ?_) (fun e => by cases e)
   refine VS_seq (VS_r0 rfl (q_mv rfl (q_load_ra rfl rfl rfl rfl rfl (by (simp [setAt]; done)) rfl (q_mv rfl (q_callp ((c_spec_RankOf t hs k).to (y := i64 (-1)) (by rw [hv]; rfl)) rfl trivial (q_eql_v true rfl rfl (decide_eq_true rfl) (q_mv rfl (rg_nil (VS_ret ?_)))))))))
   exact Bd.now ⟨_, rfl, rfl⟩
  ·skip
   have hs := ha.small
   have hpl := prV_len (t := t)
   have hkl := keysV_len (t := t)
   have hkp : (keysR (prV t)).length = (prV t).length := List.length_map ..
   have hkg := keys_good hv
   have hul := upTo_le (keysR (prV t)) (k - 1)
   refine VS_r0 rfl (q_load_ra rfl rfl rfl rfl rfl (by (simp [setAt]; done)) rfl (q_mv rfl (q_callp ((c_impl_RankOf t hs (k)).to (y := i64 (((upTo (keysR (prV t)) (k - 1) : Nat) : Int))) (by rw [if_pos hv])) rfl trivial (q_mv rfl (rg_nil (VS_seq (VS_seq (VS_r0 rfl (q_mv rfl (q_load_ra rfl rfl rfl rfl rfl (by (simp [setAt]; done)) rfl (q_mv rfl (q_callp ((c_spec_RankOf t hs (k)).to (y := i64 (((upTo (keysR (prV t)) (k - 1) : Nat) : Int))) (by rw [if_pos hv])) rfl trivial (q_neq_v false rfl rfl (by simp) (q_mv rfl (q_t rfl ?_)))))))))))))))
   refine q_mv rfl (q_t rfl (q_lss_v false rfl rfl (decide_eq_false (by omega)) (q_pick_f rfl rfl (rg_nil ?_))))
   refine VS_cond rfl (fun e => by cases e) (fun _ => ?_)
   refine VS_skip (VS_seq (VS_r2 _ hmix (Sub.refl _) (q_load_ra rfl rfl rfl rfl rfl (by (simp [setAt]; done)) rfl (q_load_ra rfl rfl rfl rfl rfl (by (simp [setAt]; done)) rfl ?_))))
   refine q_callp ((c_impl_RankOf t hs (100)).to (y := i64 ((((prV t).length : Nat) : Int))) (by rw [if_pos hv, show (100 : Int) - 1 = 99 by omega, upTo_all hkg, hkp])) rfl (Sub.refl _) ?_
   refine q_callp (c_impl_PairsOf t hs) rfl (Sub.refl _) (q_len_m rfl (q_eql_v true rfl rfl (decide_eq_true rfl) (q_mv rfl (q_t rfl (q_load_ra rfl rfl rfl rfl rfl (by (simp [setAt]; done)) rfl (q_t rfl ?_))))))
   refine q_callp ((c_impl_RankOf t hs (0)).to (y := i64 (0)) (by rw [if_pos hv, show (0 : Int) - 1 = -1 by omega, rank_zero hkg]; rfl)) rfl (Sub.refl _) ?_
   refine q_t rfl (q_eql_v true rfl rfl (decide_eq_true rfl) (q_pick_t rfl rfl (q_mv rfl (rg_nil (VS_ret ?_)))))
   exact Bd.now ⟨_, rfl, rfl⟩
theorem sl_laws_FnNextKey : slimF prog 11 = some (73, (.seq (.reg 0 (.o 2 (.mv (.c (.pv (.bool false)))) .nil)) (.seq (.seq (.reg 0 (.o 8 (.mv (.t 0)) (.o 9 (.len (.t 8)) (.o 10 (.bin .gtr (.t 9) (.c (.pv (.int .i64 1048576)))) .nil)))) (.cond (.t 10) (.seq (.reg 0 (.o 2 (.mv (.c (.pv (.bool true)))) .nil)) .ret) .skip)) (.seq (.reg 0 (.o 12 (.mv (.t 0)) (.o 13 (.call 33 [.t 12]) (.o 11 (.mv (.t 13)) (.o 14 (.ext (.t 11) 0) (.o 15 (.ext (.t 11) 1) (.o 3 (.alloc 25 2 (.agg [.pv (.int .i64 0), .nils])) (.op ⟨none, none, .store 2 (.t 3) (.t 14)⟩ (.o 4 (.mv (.t 15)) .nil))))))))) (.seq (.reg 0 (.o 16 (.load 2 true (.t 3)) (.o 17 (.mv (.t 4)) (.o 18 (.call 34 [.t 16, .t 17]) (.o 5 (.mv (.t 18)) .nil))))) (.seq (.seq (.reg 0 (.o 19 (.mv (.t 5)) (.o 20 (.load 2 true (.t 3)) (.o 21 (.mv (.t 4)) (.o 22 (.call 35 [.t 20, .t 21]) (.o 23 (.bin .neq (.t 19) (.t 22)) (.o 24 (.mv (.t 23)) (.g 25 24 false (.load 2 true (.t 3)) (.g 26 24 false (.call 31 [.t 25]) (.g 27 24 false (.not (.t 26)) (.o 28 (.pick (.t 24) (.c (.pv (.bool true))) (.t 27)) .nil))))))))))) (.cond (.t 28) (.seq (.reg 0 (.o 29 (.mv (.t 5)) (.o 30 (.load 2 true (.t 3)) (.o 31 (.mv (.t 4)) (.o 32 (.call 35 [.t 30, .t 31]) (.o 33 (.bin .eql (.t 29) (.t 32)) (.o 2 (.mv (.t 33)) .nil))))))) .ret) .skip)) (.seq (.reg 0 (.o 34 (.load 2 true (.t 3)) (.o 35 (.call 26 [.t 34]) (.o 36 (.call 25 [.t 35]) (.o 6 (.mv (.t 36)) .nil))))) (.seq (.seq (.reg 0 (.o 7 (.mv (.c (.pv (.int .i64 0)))) .nil)) (.block 0 (.loop (.seq (.seq (.reg 0 (.o 37 (.mv (.t 7)) (.o 38 (.mv (.t 6)) (.o 39 (.len (.t 38)) (.o 40 (.bin .lss (.t 37) (.t 39)) .nil))))) (.cond (.t 40) .skip (.exit 0))) (.seq (.block 1 (.seq (.reg 0 (.o 43 (.mv (.t 6)) (.o 44 (.mv (.t 7)) (.o 45 (.idx 1 (.t 43) (.t 44)) (.o 46 (.load 1 false (.t 45)) (.o 47 (.mv (.t 4)) (.o 48 (.bin .gtr (.t 46) (.t 47)) (.o 49 (.mv (.t 48)) (.g 50 49 true (.mv (.t 5)) (.g 51 49 true (.bin .eql (.t 50) (.c (.pv (.int .i64 (-1))))) (.g 52 49 true (.mv (.t 51)) (.g 53 52 false (.mv (.t 6)) (.g 54 52 false (.mv (.t 7)) (.g 55 52 false (.idx 1 (.t 53) (.t 54)) (.g 56 52 false (.load 1 false (.t 55)) (.g 57 52 false (.mv (.t 5)) (.g 58 52 false (.bin .lss (.t 56) (.t 57)) (.g 59 49 true (.pick (.t 52) (.c (.pv (.bool true))) (.t 58)) (.o 60 (.pick (.t 49) (.t 59) (.c (.pv (.bool false)))) .nil))))))))))))))))))) (.cond (.t 60) (.seq (.reg 0 (.o 2 (.mv (.c (.pv (.bool false)))) .nil)) .ret) .skip))) (.reg 0 (.o 41 (.mv (.t 7)) (.o 42 (.bin .add (.t 41) (.c (.pv (.int .i64 1)))) (.o 7 (.mv (.t 42)) .nil))))))))) (.seq (.reg 0 (.o 61 (.mv (.t 5)) (.o 62 (.bin .eql (.t 61) (.c (.pv (.int .i64 (-1))))) (.o 63 (.mv (.t 62)) (.g 64 63 false (.mv (.t 5)) (.g 65 63 false (.mv (.t 4)) (.g 66 63 false (.bin .gtr (.t 64) (.t 65)) (.g 67 63 false (.mv (.t 66)) (.g 68 67 true (.mv (.t 6)) (.g 69 67 true (.mv (.t 5)) (.g 70 67 true (.call 18 [.t 68, .t 69]) (.g 71 63 false (.pick (.t 67) (.t 70) (.c (.pv (.bool false)))) (.o 72 (.pick (.t 63) (.c (.pv (.bool true))) (.t 71)) (.o 2 (.mv (.t 72)) .nil)))))))))))))) .ret))))))), [.t 2])) := by kernel_rfl
theorem c_laws_FnNextKey (bs : List Int) (hb : isU8 bs) : PCon prog 11 [u8s bs] (fun p => p = .bool true) := by
 refine con_of_VS sl_laws_FnNextKey (by simp) (VS_seq (VS_r0 rfl (q_mv rfl (rg_nil (VS_seq (VS_seq (VS_r0 rfl (q_mv rfl (q_len_m rfl (q_gtr rfl rfl (rg_nil ?_)))))))))))
 refine VS_cond rfl (fun c0 => ?_) (fun c0 => ?_)
 ·try simp at c0
  refine VS_seq (VS_r0 rfl (q_mv rfl (rg_nil (VS_ret ?_))))
  exact Bd.now ⟨_, rfl, rfl⟩
 ·try simp at c0
  refine VS_skip (VS_seq (VS_r0 rfl (q_mv rfl (q_calle rfl (c_spec_DrawNextKey bs hb (by omega)) rfl trivial ?_))))
  rintro _ ⟨t, k, rfl, ha, qvk⟩
  refine q_mv rfl (q_ext rfl rfl (q_ext rfl rfl (q_alloc trivial (q_store rfl rfl rfl rfl rfl rfl ⟨rfl, rfl, by simp, rfl, by simp [isOne]⟩ rfl trivial (q_mv rfl (rg_nil (VS_seq ?_)))))))
  cases hv : validT t
  ·skip
   have hs := ha.small
   have hpl := prV_len (t := t)
   have hkl := keysV_len (t := t)
   have hkp : (keysR (prV t)).length = (prV t).length := List.length_map ..
   refine VS_r0 rfl (q_load_ra rfl rfl rfl rfl rfl (by (simp [setAt]; done)) rfl (q_mv rfl (q_callp (c_impl_NextKey t hs k) rfl trivial (q_mv rfl (rg_nil (VS_seq (VS_seq (VS_r0 rfl (q_mv rfl (q_load_ra rfl rfl rfl rfl rfl (by (simp [setAt]; done)) rfl (q_mv rfl (q_callp (c_spec_NextKey t hs k) rfl trivial (q_neq_v false rfl rfl (by simp) (q_mv rfl (q_t rfl ?_)))))))))))))))
   refine q_load_ra rfl rfl rfl rfl rfl (by (simp [setAt]; done)) rfl (q_t rfl (q_callp (x := .bool false) ((c_impl_ValidTree t hs).to (y := .bool false) (by rw [hv])) rfl trivial (q_t rfl (q_not rfl (q_pick_f rfl rfl (rg_nil ?_))))))
   refine VS_cond rfl (fun _ => ?_) (fun e => by cases e)
   refine VS_seq (VS_r0 rfl (q_mv rfl (q_load_ra rfl rfl rfl rfl rfl (by (simp [setAt]; done)) rfl (q_mv rfl (q_callp (c_spec_NextKey t hs k) rfl trivial (q_eql_v true rfl rfl (decide_eq_true rfl) (q_mv rfl (rg_nil (VS_ret ?_)))))))))
   exact Bd.now ⟨_, rfl, rfl⟩
  ·skip
   have hs := ha.small
   have hpl := prV_len (t := t)
   have hkl := keysV_len (t := t)
   have hkp : (keysR (prV t)).length = (prV t).length := List.length_map ..
   have hkg := keys_good hv
   have hnr := nxtK_rg hkg k
   refine VS_r0 rfl (q_load_ra rfl rfl rfl rfl rfl (by (simp [setAt]; done)) rfl (q_mv rfl (q_callp (c_impl_NextKey t hs k) rfl trivial (q_mv rfl (rg_nil (VS_seq (VS_seq (VS_r0 rfl (q_mv rfl (q_load_ra rfl rfl rfl rfl rfl (by (simp [setAt]; done)) rfl (q_mv rfl (q_callp (c_spec_NextKey t hs k) rfl trivial (q_neq_v false rfl rfl (by simp) (q_mv rfl (q_t rfl ?_)))))))))))))))
   refine q_load_ra rfl rfl rfl rfl rfl (by (simp [setAt]; done)) rfl (q_t rfl (q_callp (x := .bool true) ((c_impl_ValidTree t hs).to (y := .bool true) (by rw [hv])) rfl trivial (q_t rfl (q_not rfl (q_pick_f rfl rfl (rg_nil ?_))))))
   refine VS_cond rfl (fun e => by cases e) (fun _ => ?_)
   refine VS_skip (VS_seq (VS_r0 rfl (q_load_ra rfl rfl rfl rfl rfl (by (simp [setAt]; done)) rfl (q_callp (c_impl_PairsOf t hs) rfl trivial (q_callp (c_laws_keysOf (prV t) (by omega)) rfl trivial (q_mv rfl (rg_nil (VS_seq (VS_seq (VS_r0 rfl (q_mv rfl (rg_nil (VS_block ?_)))))))))))))
   refine VS_bd (Bd.keepL [(4, .pv (i64 k)), (5, .pv (i64 (nxtK (keysR (prV t)) k))), (6, .pv (ints (keysR (prV t)))), (7, .pv (i64 0))] ⟨rfl, rfl, rfl, rfl, trivial⟩ ?_)
   refine VS_loop (fun mz E S => ∃ i : Nat, mz = (keysR (prV t)).length - i ∧ (i ≤ (keysR (prV t)).length) ∧ E = env [(4, .pv (i64 k)), (5, .pv (i64 (nxtK (keysR (prV t)) k))), (6, .pv (ints (keysR (prV t)))), (7, .pv (i64 i))] ∧ S = [some ⟨25, 2, [.agg [.pv (i64 t.r), .pv (pgsP t.ps)]]⟩]) ⟨_, 0, rfl, (by omega), rfl, rfl⟩ ?_
   rintro mz _ _ ⟨i, hmeas, g0, rfl, rfl⟩
   refine VS_seq (VS_seq (VS_r0 rfl (q_mv rfl (q_mv rfl (q_len_m rfl (q_lss rfl rfl (rg_nil ?_)))))))
   refine VS_cond rfl (fun c2 => ?_) (fun c2 => ?_)
   ·try simp at c2
    refine VS_skip (VS_seq (VS_block (VS_seq (VS_r0 rfl (q_mv rfl (q_mv rfl (q_idx_m (f := fun k => i64 k) (xs := keysR (prV t)) (n := ((i : Nat) : Int)) rfl rfl (by omega) (by omega) (fun _ => rfl) ?_)))))))
    rw [Int.toNat_natCast (i)]
    refine q_load_c rfl rfl rfl (q_mv rfl (q_gtr rfl rfl (q_mv rfl ?_)))
    refine q_b rfl (fun g49 => ?_) (fun g49 => ?_)
    ·try simp at g49
     have hnn := nxtK_near hkg (k := k) (i := i) (by omega) (by omega)
     refine q_t rfl (q_mv rfl (q_t rfl (q_eql_v false rfl rfl (decide_eq_false hnn.1) (q_t rfl (q_mv rfl (q_t rfl (q_mv rfl (q_t rfl (q_mv rfl (q_t rfl (q_idx_m (f := fun k => i64 k) (xs := keysR (prV t)) (n := ((i : Nat) : Int)) rfl rfl (by omega) (by omega) (fun _ => rfl) ?_)))))))))))
     rw [Int.toNat_natCast (i)]
     refine q_t rfl (q_load_c rfl rfl rfl (q_t rfl (q_mv rfl (q_t rfl (q_lss_v false rfl rfl (decide_eq_false (by omega)) (q_t rfl (q_pick_f rfl rfl (q_pick_t rfl rfl (rg_nil ?_)))))))))
     refine VS_cond rfl (fun e => by cases e) (fun _ => ?_)
     refine VS_skip (VS_r0 rfl (q_mv rfl (q_add rfl rfl (inR64 (by omega)) (q_mv rfl (rg_nil ?_)))))
     refine Bd.keepL [(4, .pv (i64 k)), (5, .pv (i64 (nxtK (keysR (prV t)) k))), (6, .pv (ints (keysR (prV t)))), (7, .pv (i64 (i + 1)))] ⟨rfl, rfl, rfl, rfl, trivial⟩ ⟨_, ?_, i + 1, rfl, ?_, rfl, rfl⟩
     ·omega
     ·omega
    ·try simp at g49
     refine q_f rfl (q_f rfl (q_f rfl (q_u rfl (q_u rfl (q_u rfl (q_u rfl (q_u rfl (q_u rfl (q_f rfl (q_pick_f rfl rfl (rg_nil ?_)))))))))))
     refine VS_cond rfl (fun e => by cases e) (fun _ => ?_)
     refine VS_skip (VS_r0 rfl (q_mv rfl (q_add rfl rfl (inR64 (by omega)) (q_mv rfl (rg_nil ?_)))))
     refine Bd.keepL [(4, .pv (i64 k)), (5, .pv (i64 (nxtK (keysR (prV t)) k))), (6, .pv (ints (keysR (prV t)))), (7, .pv (i64 (i + 1)))] ⟨rfl, rfl, rfl, rfl, trivial⟩ ⟨_, ?_, i + 1, rfl, ?_, rfl, rfl⟩
     ·omega
     ·omega
   ·try simp at c2
    refine VS_exit (VS_seq (VS_r0 rfl (q_mv rfl (q_eql rfl rfl (q_mv rfl ?_)))))
    refine q_b rfl (fun g63 => ?_) (fun g63 => ?_)
    ·try simp at g63
     have hni := nxtK_is (K := keysR (prV t)) (k := k) (by exact g63)
     refine q_t rfl (q_mv rfl (q_t rfl (q_mv rfl (q_t rfl (q_gtr_v true rfl rfl (decide_eq_true hni.1) (q_t rfl (q_mv rfl (q_t rfl (q_mv rfl (q_t rfl (q_mv rfl (q_t rfl (q_callp (x := .bool true) ((c_laws_isIn (keysR (prV t)) (nxtK (keysR (prV t)) k) (by omega)).to (y := .bool true) (by rw [hni.2])) rfl trivial (q_t rfl (q_pick_t rfl rfl ?_)))))))))))))))
     refine q_pick_f rfl rfl (q_mv rfl (rg_nil (VS_ret ?_)))
     exact Bd.now ⟨_, rfl, rfl⟩
    ·try simp at g63
     refine q_f rfl (q_f rfl (q_f rfl (q_f rfl (q_u rfl (q_u rfl (q_u rfl (q_f rfl (q_pick_t rfl rfl (q_mv rfl (rg_nil (VS_ret ?_)))))))))))
     exact Bd.now ⟨_, rfl, rfl⟩
theorem sl_laws_FnNextKeyWalk : slimF prog 12 = some (56, (.seq (.reg 0 (.o 2 (.mv (.c (.pv (.bool false)))) .nil)) (.seq (.seq (.reg 0 (.o 9 (.mv (.t 0)) (.o 10 (.len (.t 9)) (.o 11 (.bin .gtr (.t 10) (.c (.pv (.int .i64 1048576)))) .nil)))) (.cond (.t 11) (.seq (.reg 0 (.o 2 (.mv (.c (.pv (.bool true)))) .nil)) .ret) .skip)) (.seq (.reg 0 (.o 13 (.mv (.t 0)) (.o 14 (.call 33 [.t 13]) (.o 12 (.mv (.t 14)) (.o 15 (.ext (.t 12) 0) (.o 16 (.ext (.t 12) 1) (.o 3 (.alloc 25 2 (.agg [.pv (.int .i64 0), .nils])) (.op ⟨none, none, .store 2 (.t 3) (.t 15)⟩ (.o 4 (.mv (.t 16)) .nil))))))))) (.seq (.reg 0 (.o 17 (.load 2 true (.t 3)) (.o 18 (.mv (.t 4)) (.o 19 (.call 34 [.t 17, .t 18]) (.o 5 (.mv (.t 19)) .nil))))) (.seq (.seq (.reg 0 (.o 20 (.mv (.t 5)) (.o 21 (.load 2 true (.t 3)) (.o 22 (.mv (.t 4)) (.o 23 (.call 35 [.t 21, .t 22]) (.o 24 (.bin .neq (.t 20) (.t 23)) (.o 25 (.mv (.t 24)) (.g 26 25 false (.load 2 true (.t 3)) (.g 27 25 false (.call 31 [.t 26]) (.g 28 25 false (.not (.t 27)) (.o 29 (.pick (.t 25) (.c (.pv (.bool true))) (.t 28)) .nil))))))))))) (.cond (.t 29) (.seq (.reg 0 (.o 30 (.mv (.t 5)) (.o 31 (.load 2 true (.t 3)) (.o 32 (.mv (.t 4)) (.o 33 (.call 35 [.t 31, .t 32]) (.o 34 (.bin .eql (.t 30) (.t 33)) (.o 2 (.mv (.t 34)) .nil))))))) .ret) .skip)) (.seq (.reg 0 (.o 35 (.load 2 true (.t 3)) (.o 36 (.call 26 [.t 35]) (.o 37 (.call 25 [.t 36]) (.o 6 (.mv (.t 37)) .nil))))) (.seq (.reg 0 (.o 7 (.mv (.c (.pv (.int .i64 (-1))))) .nil)) (.seq (.seq (.reg 0 (.o 8 (.mv (.c (.pv (.int .i64 0)))) .nil)) (.block 0 (.loop (.seq (.seq (.reg 0 (.o 38 (.mv (.t 8)) (.o 39 (.mv (.t 6)) (.o 40 (.len (.t 39)) (.o 41 (.bin .lss (.t 38) (.t 40)) .nil))))) (.cond (.t 41) .skip (.exit 0))) (.seq (.block 1 (.seq (.reg 0 (.o 44 (.load 2 true (.t 3)) (.o 45 (.mv (.t 7)) (.o 46 (.call 34 [.t 44, .t 45]) (.o 7 (.mv (.t 46)) .nil))))) (.seq (.reg 0 (.o 47 (.mv (.t 7)) (.o 48 (.mv (.t 6)) (.o 49 (.mv (.t 8)) (.o 50 (.idx 1 (.t 48) (.t 49)) (.o 51 (.load 1 false (.t 50)) (.o 52 (.bin .neq (.t 47) (.t 51)) .nil))))))) (.cond (.t 52) (.seq (.reg 0 (.o 2 (.mv (.c (.pv (.bool false)))) .nil)) .ret) .skip)))) (.reg 0 (.o 42 (.mv (.t 8)) (.o 43 (.bin .add (.t 42) (.c (.pv (.int .i64 1)))) (.o 8 (.mv (.t 43)) .nil))))))))) (.seq (.reg 0 (.o 53 (.load 2 true (.t 3)) (.o 54 (.call 34 [.t 53, .c (.pv (.int .i64 99))]) (.o 55 (.bin .eql (.t 54) (.c (.pv (.int .i64 (-1))))) (.o 2 (.mv (.t 55)) .nil))))) .ret)))))))), [.t 2])) := by kernel_rfl
theorem c_laws_FnNextKeyWalk (bs : List Int) (hb : isU8 bs) : PCon prog 12 [u8s bs] (fun p => p = .bool true) := by
 refine con_of_VS sl_laws_FnNextKeyWalk (by simp) (VS_seq (VS_r0 rfl (q_mv rfl (rg_nil (VS_seq (VS_seq (VS_r0 rfl (q_mv rfl (q_len_m rfl (q_gtr rfl rfl (rg_nil ?_)))))))))))
 refine VS_cond rfl (fun c0 => ?_) (fun c0 => ?_)
 ·try simp at c0
  refine VS_seq (VS_r0 rfl (q_mv rfl (rg_nil (VS_ret ?_))))
  exact Bd.now ⟨_, rfl, rfl⟩
 ·try simp at c0
  refine VS_skip (VS_seq (VS_r0 rfl (q_mv rfl (q_calle rfl (c_spec_DrawNextKey bs hb (by omega)) rfl trivial ?_))))
  rintro _ ⟨t, k, rfl, ha, qvk⟩
  refine q_mv rfl (q_ext rfl rfl (q_ext rfl rfl (q_alloc trivial (q_store rfl rfl rfl rfl rfl rfl ⟨rfl, rfl, by simp, rfl, by simp [isOne]⟩ rfl trivial (q_mv rfl (rg_nil (VS_seq ?_)))))))
  cases hv : validT t
  ·skip
   have hs := ha.small
   have hpl := prV_len (t := t)
   have hkl := keysV_len (t := t)
   have hkp : (keysR (prV t)).length = (prV t).length := List.length_map ..
   refine VS_r0 rfl (q_load_ra rfl rfl rfl rfl rfl (by (simp [setAt]; done)) rfl (q_mv rfl (q_callp (c_impl_NextKey t hs k) rfl trivial (q_mv rfl (rg_nil (VS_seq (VS_seq (VS_r0 rfl (q_mv rfl (q_load_ra rfl rfl rfl rfl rfl (by (simp [setAt]; done)) rfl (q_mv rfl (q_callp (c_spec_NextKey t hs k) rfl trivial (q_neq_v false rfl rfl (by simp) (q_mv rfl (q_t rfl ?_)))))))))))))))
   refine q_load_ra rfl rfl rfl rfl rfl (by (simp [setAt]; done)) rfl (q_t rfl (q_callp (x := .bool false) ((c_impl_ValidTree t hs).to (y := .bool false) (by rw [hv])) rfl trivial (q_t rfl (q_not rfl (q_pick_f rfl rfl (rg_nil ?_))))))
   refine VS_cond rfl (fun _ => ?_) (fun e => by cases e)
   refine VS_seq (VS_r0 rfl (q_mv rfl (q_load_ra rfl rfl rfl rfl rfl (by (simp [setAt]; done)) rfl (q_mv rfl (q_callp (c_spec_NextKey t hs k) rfl trivial (q_eql_v true rfl rfl (decide_eq_true rfl) (q_mv rfl (rg_nil (VS_ret ?_)))))))))
   exact Bd.now ⟨_, rfl, rfl⟩
  ·skip
   have hs := ha.small
   have hpl := prV_len (t := t)
   have hkl := keysV_len (t := t)
   have hkp : (keysR (prV t)).length = (prV t).length := List.length_map ..
   have hkg := keys_good hv
   refine VS_r0 rfl (q_load_ra rfl rfl rfl rfl rfl (by (simp [setAt]; done)) rfl (q_mv rfl (q_callp (c_impl_NextKey t hs k) rfl trivial (q_mv rfl (rg_nil (VS_seq (VS_seq (VS_r0 rfl (q_mv rfl (q_load_ra rfl rfl rfl rfl rfl (by (simp [setAt]; done)) rfl (q_mv rfl (q_callp (c_spec_NextKey t hs k) rfl trivial (q_neq_v false rfl rfl (by simp) (q_mv rfl (q_t rfl ?_)))))))))))))))
   refine q_load_ra rfl rfl rfl rfl rfl (by (simp [setAt]; done)) rfl (q_t rfl (q_callp (x := .bool true) ((c_impl_ValidTree t hs).to (y := .bool true) (by rw [hv])) rfl trivial (q_t rfl (q_not rfl (q_pick_f rfl rfl (rg_nil ?_))))))
   refine VS_cond rfl (fun e => by cases e) (fun _ => ?_)
   refine VS_skip (VS_seq (VS_r0 rfl (q_load_ra rfl rfl rfl rfl rfl (by (simp [setAt]; done)) rfl (q_callp (c_impl_PairsOf t hs) rfl trivial (q_callp (c_laws_keysOf (prV t) (by omega)) rfl trivial (q_mv rfl (rg_nil (VS_seq (VS_r0 rfl (q_mv rfl (rg_nil (VS_seq (VS_seq (VS_r0 rfl (q_mv rfl ?_)))))))))))))))
   refine rg_nil (VS_block ?_)
   refine VS_bd (Bd.keepL [(3, .ptr 0 0 0), (6, .pv (ints (keysR (prV t)))), (7, .pv (i64 (-1))), (8, .pv (i64 0))] ⟨rfl, rfl, rfl, rfl, trivial⟩ ?_)
   refine VS_loop (fun mz E S => ∃ i : Nat, ∃ x : Int, mz = (keysR (prV t)).length - i ∧ (i ≤ (keysR (prV t)).length) ∧ (x = befK (keysR (prV t)) i) ∧ E = env [(3, .ptr 0 0 0), (6, .pv (ints (keysR (prV t)))), (7, .pv (i64 x)), (8, .pv (i64 i))] ∧ S = [some ⟨25, 2, [.agg [.pv (i64 t.r), .pv (pgsP t.ps)]]⟩]) ⟨_, 0, -1, rfl, (by omega), rfl, rfl, rfl⟩ ?_
   rintro mz _ _ ⟨i, x, hmeas, g0, gx, rfl, rfl⟩
   refine VS_seq (VS_seq (VS_r0 rfl (q_mv rfl (q_mv rfl (q_len_m rfl (q_lss rfl rfl (rg_nil ?_)))))))
   refine VS_cond rfl (fun c2 => ?_) (fun c2 => ?_)
   ·try simp at c2
    refine VS_skip (VS_seq (VS_block (VS_seq (VS_r0 rfl (q_load_ra rfl rfl rfl rfl rfl (by (simp; done)) rfl (q_mv rfl (q_callp ((c_impl_NextKey t hs x).to (y := i64 (nth (keysR (prV t)) i)) (by rw [gx, nxtK_walk hkg (by omega)])) rfl trivial (q_mv rfl (rg_nil (VS_seq (VS_r0 rfl (q_mv rfl (q_mv rfl (q_mv rfl (q_idx_m (f := fun k => i64 k) (xs := keysR (prV t)) (n := ((i : Nat) : Int)) rfl rfl (by omega) (by omega) (fun _ => rfl) ?_)))))))))))))))
    rw [Int.toNat_natCast (i)]
    refine q_load_c rfl rfl rfl (q_neq_v false rfl rfl (by simp) (rg_nil ?_))
    refine VS_cond rfl (fun e => by cases e) (fun _ => ?_)
    refine VS_skip (VS_r0 rfl (q_mv rfl (q_add rfl rfl (inR64 (by omega)) (q_mv rfl (rg_nil ?_)))))
    refine Bd.keepL [(3, .ptr 0 0 0), (6, .pv (ints (keysR (prV t)))), (7, .pv (i64 (nth (keysR (prV t)) i))), (8, .pv (i64 (i + 1)))] ⟨rfl, rfl, rfl, rfl, trivial⟩ ⟨_, ?_, i + 1, nth (keysR (prV t)) i, rfl, ?_, ?_, rfl, rfl⟩
    ·omega
    ·omega
    ·rw [befK_succ]
   ·try simp at c2
    refine VS_exit (VS_seq (VS_r0 rfl (q_load_ra rfl rfl rfl rfl rfl (by (simp; done)) rfl (q_callp ((c_impl_NextKey t hs 99).to (y := i64 (-1)) (by rw [nxtK_end hkg])) rfl trivial (q_eql_v true rfl rfl (decide_eq_true rfl) (q_mv rfl (rg_nil (VS_ret ?_))))))))
    exact Bd.now ⟨_, rfl, rfl⟩
theorem sl_laws_FnNextKeyRank : slimF prog 13 = some (39, (.seq (.reg 0 (.o 2 (.mv (.c (.pv (.bool false)))) .nil)) (.seq (.seq (.reg 0 (.o 6 (.mv (.t 0)) (.o 7 (.len (.t 6)) (.o 8 (.bin .gtr (.t 7) (.c (.pv (.int .i64 1048576)))) .nil)))) (.cond (.t 8) (.seq (.reg 0 (.o 2 (.mv (.c (.pv (.bool true)))) .nil)) .ret) .skip)) (.seq (.reg 0 (.o 10 (.mv (.t 0)) (.o 11 (.call 33 [.t 10]) (.o 9 (.mv (.t 11)) (.o 12 (.ext (.t 9) 0) (.o 13 (.ext (.t 9) 1) (.o 3 (.alloc 25 2 (.agg [.pv (.int .i64 0), .nils])) (.op ⟨none, none, .store 2 (.t 3) (.t 12)⟩ (.o 4 (.mv (.t 13)) .nil))))))))) (.seq (.reg 0 (.o 14 (.load 2 true (.t 3)) (.o 15 (.mv (.t 4)) (.o 16 (.call 34 [.t 14, .t 15]) (.o 5 (.mv (.t 16)) .nil))))) (.seq (.seq (.reg 0 (.o 17 (.mv (.t 5)) (.o 18 (.load 2 true (.t 3)) (.o 19 (.mv (.t 4)) (.o 20 (.call 35 [.t 18, .t 19]) (.o 21 (.bin .neq (.t 17) (.t 20)) (.o 22 (.mv (.t 21)) (.g 23 22 false (.mv (.t 5)) (.g 24 22 false (.bin .lss (.t 23) (.c (.pv (.int .i64 0)))) (.o 25 (.pick (.t 22) (.c (.pv (.bool true))) (.t 24)) .nil)))))))))) (.cond (.t 25) (.seq (.reg 0 (.o 26 (.mv (.t 5)) (.o 27 (.load 2 true (.t 3)) (.o 28 (.mv (.t 4)) (.o 29 (.call 35 [.t 27, .t 28]) (.o 30 (.bin .eql (.t 26) (.t 29)) (.o 2 (.mv (.t 30)) .nil))))))) .ret) .skip)) (.seq (.reg 2 (.o 31 (.load 2 true (.t 3)) (.o 32 (.mv (.t 5)) (.o 34 (.load 2 true (.t 3)) (.o 35 (.mv (.t 4)) (.o 36 (.bin .add (.t 35) (.c (.pv (.int .i64 1)))) (.o 33 (.call 23 [.t 31, .t 32]) (.o 37 (.call 23 [.t 34, .t 36]) (.o 38 (.bin .eql (.t 33) (.t 37)) (.o 2 (.mv (.t 38)) .nil)))))))))) .ret))))), [.t 2])) := by kernel_rfl
theorem c_laws_FnNextKeyRank (bs : List Int) (hb : isU8 bs) : PCon prog 13 [u8s bs] (fun p => p = .bool true) := by
 refine con_of_VS sl_laws_FnNextKeyRank (by simp) (VS_seq (VS_r0 rfl (q_mv rfl (rg_nil (VS_seq (VS_seq (VS_r0 rfl (q_mv rfl (q_len_m rfl (q_gtr rfl rfl (rg_nil ?_)))))))))))
 refine VS_cond rfl (fun c0 => ?_) (fun c0 => ?_)
 ·try simp at c0
  refine VS_seq (VS_r0 rfl (q_mv rfl (rg_nil (VS_ret ?_))))
  exact Bd.now ⟨_, rfl, rfl⟩
 ·try simp at c0
  refine VS_skip (VS_seq (VS_r0 rfl (q_mv rfl (q_calle rfl (c_spec_DrawNextKey bs hb (by omega)) rfl trivial ?_))))
  rintro _ ⟨t, k, rfl, ha, qvk⟩
  refine q_mv rfl (q_ext rfl rfl (q_ext rfl rfl (q_alloc trivial (q_store rfl rfl rfl rfl rfl rfl ⟨rfl, rfl, by simp, rfl, by simp [isOne]⟩ rfl trivial (q_mv rfl (rg_nil (VS_seq ?_)))))))
  by_cases hz : nxtK (keysR (prV t)) k = -1
  ·skip
   have hs := ha.small
   have hpl := prV_len (t := t)
   have hkl := keysV_len (t := t)
   have hkp : (keysR (prV t)).length = (prV t).length := List.length_map ..
   refine VS_r0 rfl (q_load_ra rfl rfl rfl rfl rfl (by (simp [setAt]; done)) rfl (q_mv rfl (q_callp (c_impl_NextKey t hs k) rfl trivial (q_mv rfl (rg_nil (VS_seq (VS_seq (VS_r0 rfl (q_mv rfl (q_load_ra rfl rfl rfl rfl rfl (by (simp [setAt]; done)) rfl (q_mv rfl (q_callp (c_spec_NextKey t hs k) rfl trivial (q_neq_v false rfl rfl (by simp) (q_mv rfl (q_t rfl ?_)))))))))))))))
   refine q_mv rfl (q_t rfl (q_lss_v true rfl rfl (decide_eq_true (by omega)) (q_pick_f rfl rfl (rg_nil ?_))))
   refine VS_cond rfl (fun _ => ?_) (fun e => by cases e)
   refine VS_seq (VS_r0 rfl (q_mv rfl (q_load_ra rfl rfl rfl rfl rfl (by (simp [setAt]; done)) rfl (q_mv rfl (q_callp (c_spec_NextKey t hs k) rfl trivial (q_eql_v true rfl rfl (decide_eq_true rfl) (q_mv rfl (rg_nil (VS_ret ?_)))))))))
   exact Bd.now ⟨_, rfl, rfl⟩
  ·skip
   have hs := ha.small
   have hpl := prV_len (t := t)
   have hkl := keysV_len (t := t)
   have hkp : (keysR (prV t)).length = (prV t).length := List.length_map ..
   have hv := nxtV_valid hz
   have hkg := keys_good hv
   have hnr := nxtK_rg hkg k
   refine VS_r0 rfl (q_load_ra rfl rfl rfl rfl rfl (by (simp [setAt]; done)) rfl (q_mv rfl (q_callp (c_impl_NextKey t hs k) rfl trivial (q_mv rfl (rg_nil (VS_seq (VS_seq (VS_r0 rfl (q_mv rfl (q_load_ra rfl rfl rfl rfl rfl (by (simp [setAt]; done)) rfl (q_mv rfl (q_callp (c_spec_NextKey t hs k) rfl trivial (q_neq_v false rfl rfl (by simp) (q_mv rfl (q_t rfl ?_)))))))))))))))
   refine q_mv rfl (q_t rfl (q_lss_v false rfl rfl (decide_eq_false (by omega)) (q_pick_f rfl rfl (rg_nil ?_))))
   refine VS_cond rfl (fun e => by cases e) (fun _ => ?_)
   refine VS_skip (VS_seq (VS_r2 _ hmix (Sub.refl _) (q_load_ra rfl rfl rfl rfl rfl (by (simp [setAt]; done)) rfl (q_mv rfl (q_load_ra rfl rfl rfl rfl rfl (by (simp [setAt]; done)) rfl (q_mv rfl (q_add rfl rfl (inR64 (by omega)) (q_callp ((c_impl_RankOf t hs ((nxtK (keysR (prV t)) k))).to (y := i64 (((upTo (keysR (prV t)) k : Nat) : Int))) (by rw [if_pos hv, nxtK_rank hkg hz])) rfl (Sub.refl _) ?_))))))))
   refine q_callp ((c_impl_RankOf t hs (k + 1)).to (y := i64 (((upTo (keysR (prV t)) k : Nat) : Int))) (by rw [if_pos hv, show k + 1 - 1 = k by omega])) rfl (Sub.refl _) ?_
   refine q_eql_v true rfl rfl (decide_eq_true rfl) (q_mv rfl (rg_nil (VS_ret ?_)))
   exact Bd.now ⟨_, rfl, rfl⟩
end Go.V
