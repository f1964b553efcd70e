/- A part of the proofs about laws of the page tree (see the text that bears the law): a small language of steps, its rules, and what the functions of the program return. -/
import Derived.Test.YtfhalijoljgafaaWKbn
import Derived.Test.YtfhalijoljgafaaQM
import Derived.Test.YtfhalijoljgafaaWC
set_option linter.all false
set_option linter.unusedVariables false
set_option linter.unusedSimpArgs false
set_option maxHeartbeats 4000000
namespace Go.V
open Go.Proofs.Try (prog)
set_option maxRecDepth 100000
theorem sl_laws_FnPairsOfCount : slimF prog 9 = some (56, (.seq (.reg 0 (.o 2 (.mv (.c (.pv (.bool false)))) .nil)) (.seq (.seq (.reg 0 (.o 7 (.mv (.t 0)) (.o 8 (.len (.t 7)) (.o 9 (.bin .gtr (.t 8) (.c (.pv (.int .i64 1048576)))) .nil)))) (.cond (.t 9) (.seq (.reg 0 (.o 2 (.mv (.c (.pv (.bool true)))) .nil)) .ret) .skip)) (.seq (.reg 0 (.o 10 (.mv (.t 0)) (.o 11 (.call 31 [.t 10]) (.o 3 (.alloc 25 2 (.agg [.pv (.int .i64 0), .nils])) (.op ⟨none, none, .store 2 (.t 3) (.t 11)⟩ .nil))))) (.seq (.reg 0 (.o 12 (.load 2 true (.t 3)) (.o 13 (.call 26 [.t 12]) (.o 4 (.mv (.t 13)) .nil)))) (.seq (.seq (.reg 0 (.o 14 (.mv (.t 4)) (.o 15 (.load 2 true (.t 3)) (.o 16 (.call 33 [.t 15]) (.o 17 (.call 32 [.t 14, .t 16]) (.o 18 (.not (.t 17)) (.o 19 (.mv (.t 18)) (.g 20 19 false (.load 2 true (.t 3)) (.g 21 19 false (.call 16 [.t 20]) (.g 22 19 false (.not (.t 21)) (.o 23 (.pick (.t 19) (.c (.pv (.bool true))) (.t 22)) .nil))))))))))) (.cond (.t 23) (.seq (.reg 0 (.o 24 (.mv (.t 4)) (.o 25 (.load 2 true (.t 3)) (.o 26 (.call 33 [.t 25]) (.o 27 (.call 32 [.t 24, .t 26]) (.o 2 (.mv (.t 27)) .nil)))))) .ret) .skip)) (.seq (.reg 0 (.o 5 (.mv (.c (.pv (.int .i64 0)))) .nil)) (.seq (.seq (.reg 0 (.o 6 (.mv (.c (.pv (.int .i64 0)))) .nil)) (.block 0 (.loop (.seq (.seq (.reg 0 (.o 28 (.mv (.t 6)) (.o 29 (.fld 1 1 false (.t 3)) (.o 30 (.load 1 false (.t 29)) (.o 31 (.len (.t 30)) (.o 32 (.bin .lss (.t 28) (.t 31)) .nil)))))) (.cond (.t 32) .skip (.exit 0))) (.seq (.block 1 (.reg 0 (.o 35 (.mv (.t 5)) (.o 36 (.fld 1 1 false (.t 3)) (.o 37 (.load 1 false (.t 36)) (.o 38 (.mv (.t 6)) (.o 39 (.idx 3 (.t 37) (.t 38)) (.o 40 (.fld 2 1 false (.t 39)) (.o 41 (.load 1 false (.t 40)) (.o 42 (.len (.t 41)) (.o 43 (.bin .add (.t 35) (.t 42)) (.o 5 (.mv (.t 43)) .nil)))))))))))) (.reg 0 (.o 33 (.mv (.t 6)) (.o 34 (.bin .add (.t 33) (.c (.pv (.int .i64 1)))) (.o 6 (.mv (.t 34)) .nil))))))))) (.seq (.reg 0 (.o 44 (.mv (.t 5)) (.o 45 (.mv (.t 4)) (.o 46 (.len (.t 45)) (.o 47 (.bin .eql (.t 44) (.t 46)) (.o 48 (.mv (.t 47)) (.g 49 48 true (.mv (.t 5)) (.g 50 48 true (.load 2 true (.t 3)) (.g 51 48 true (.call 20 [.t 50]) (.g 52 48 true (.len (.t 51)) (.g 53 48 true (.bin .mul (.c (.pv (.int .i64 4))) (.t 52)) (.g 54 48 true (.bin .leq (.t 49) (.t 53)) (.o 55 (.pick (.t 48) (.t 54) (.c (.pv (.bool false)))) (.o 2 (.mv (.t 55)) .nil)))))))))))))) .ret))))))), [.t 2])) := by kernel_rfl
theorem c_laws_FnPairsOfCount (bs : List Int) (hb : isU8 bs) : PCon prog 9 [u8s bs] (fun p => p = .bool true) := by
  refine con_of_VS sl_laws_FnPairsOfCount (by simp) (VS_seq (VS_r0 rfl (q_mv rfl (rg_nil (VS_seq (VS_seq (VS_r0 rfl (q_mv rfl (q_len_m rfl (q_gtr rfl rfl (rg_nil ?_)))))))))))
  refine VS_cond rfl (fun c0 => ?_) (fun c0 => ?_)
  · try simp at c0
    refine VS_seq (VS_r0 rfl (q_mv rfl (rg_nil (VS_ret ?_))))
    exact Bd.now ⟨_, rfl, rfl⟩
  · try simp at c0
    refine VS_skip (VS_seq (VS_r0 rfl (q_mv rfl (q_calle rfl (c_spec_DrawPairsOf bs hb (by omega)) rfl trivial ?_))))
    rintro _ ⟨t, rfl, ha⟩
    refine q_alloc trivial (q_store rfl rfl rfl rfl rfl rfl ⟨rfl, rfl, by simp, rfl, by simp [isOne]⟩ rfl trivial (rg_nil (VS_seq ?_)))
    cases hv : validT t
    · skip
      have hs := ha.small
      have hll := lvV_len (t := t)
      have hpl := prV_len (t := t)
      refine VS_r0 rfl (q_load_ra rfl rfl rfl rfl rfl (by (simp [setAt]; done)) rfl (q_callp (c_impl_PairsOf t hs) rfl trivial (q_mv rfl (rg_nil (VS_seq (VS_seq (VS_r0 rfl (q_mv rfl (q_load_ra rfl rfl rfl rfl rfl (by (simp [setAt]; done)) rfl (q_callp (c_spec_PairsOf t hs) rfl trivial (q_callp (x := .bool true) ((c_laws_equalPairs _ _ (by omega) (by omega)).eqT (by rfl)) rfl trivial (q_not rfl (q_mv rfl (q_t rfl (q_load_ra rfl rfl rfl rfl rfl (by (simp [setAt]; done)) rfl ?_)))))))))))))))
      refine q_t rfl (q_callp (x := .bool false) ((c_impl_ValidTree t hs).to (y := .bool false) (by rw [hv])) rfl trivial (q_t rfl (q_not rfl (q_pick_f rfl rfl (rg_nil ?_)))))
      refine VS_cond rfl (fun _ => ?_) (fun e => by cases e)
      refine VS_seq (VS_r0 rfl (q_mv rfl (q_load_ra rfl rfl rfl rfl rfl (by (simp [setAt]; done)) rfl (q_callp (c_spec_PairsOf t hs) rfl trivial (q_callp (x := .bool true) ((c_laws_equalPairs _ _ (by omega) (by omega)).eqT (by rfl)) rfl trivial (q_mv rfl (rg_nil (VS_ret ?_))))))))
      exact Bd.now ⟨_, rfl, rfl⟩
    · skip
      have hs := ha.small
      have hll := lvV_len (t := t)
      have hpl := prV_len (t := t)
      have hvc := vals_count hv
      have hpb := prV_le4 hv
      have hm := ha.many
      refine VS_r0 rfl (q_load_ra rfl rfl rfl rfl rfl (by (simp [setAt]; done)) rfl (q_callp (c_impl_PairsOf t hs) rfl trivial (q_mv rfl (rg_nil (VS_seq (VS_seq (VS_r0 rfl (q_mv rfl (q_load_ra rfl rfl rfl rfl rfl (by (simp [setAt]; done)) rfl (q_callp (c_spec_PairsOf t hs) rfl trivial (q_callp (x := .bool true) ((c_laws_equalPairs _ _ (by omega) (by omega)).eqT (by rfl)) rfl trivial (q_not rfl (q_mv rfl (q_t rfl (q_load_ra rfl rfl rfl rfl rfl (by (simp [setAt]; done)) rfl ?_)))))))))))))))
      refine q_t rfl (q_callp (x := .bool true) ((c_impl_ValidTree t hs).to (y := .bool true) (by rw [hv])) rfl trivial (q_t rfl (q_not rfl (q_pick_f rfl rfl (rg_nil ?_)))))
      refine VS_cond rfl (fun e => by cases e) (fun _ => ?_)
      refine VS_skip (VS_seq (VS_r0 rfl (q_mv rfl (rg_nil (VS_seq (VS_seq (VS_r0 rfl (q_mv rfl (rg_nil (VS_block ?_))))))))))
      refine VS_bd (Bd.keepL [(3, .ptr 0 0 0), (4, .pv (prs (prV t))), (5, .pv (i64 0)), (6, .pv (i64 0))] ⟨rfl, rfl, rfl, rfl, trivial⟩ ?_)
      refine VS_loop (fun mz E S => ∃ i : Nat, ∃ c : Nat, mz = t.ps.length - i ∧ (i ≤ t.ps.length) ∧ (c = sumR (fun i => (nth t.ps i).vs.length) i) ∧ (c ≤ 4 * i) ∧ E = env [(3, .ptr 0 0 0), (4, .pv (prs (prV t))), (5, .pv (i64 c)), (6, .pv (i64 i))] ∧ S = [some ⟨25, 2, [.agg [.pv (i64 t.r), .pv (pgsP t.ps)]]⟩]) ⟨_, 0, 0, rfl, (by omega), rfl, (by omega), rfl, rfl⟩ ?_
      rintro mz _ _ ⟨i, c, hmeas, g0, g1, g2, rfl, rfl⟩
      refine VS_seq (VS_seq (VS_r0 rfl (q_mv rfl (q_fld_r rfl (q_load_r rfl rfl rfl rfl rfl rfl rfl (q_len_m rfl (q_lss rfl rfl (rg_nil ?_))))))))
      refine VS_cond rfl (fun c2 => ?_) (fun c2 => ?_)
      · try simp at c2
        have hsv := (valid_small hv (i := i) (by omega)).2.2
        have hsr := sumR_succ (f := fun i => (nth t.ps i).vs.length) (n := i)
        refine VS_skip (VS_seq (VS_block (VS_r0 rfl (q_mv rfl (q_fld_r rfl (q_load_r rfl rfl rfl rfl rfl rfl rfl (q_mv rfl (q_idx_m (f := pgP) (xs := t.ps) (n := (i : Int)) rfl rfl (by omega) (by omega) (fun _ => rfl) ?_))))))))
        rw [Int.toNat_natCast]
        refine q_fld_c rfl rfl (q_load_c rfl rfl rfl (q_len_m rfl (q_add rfl rfl (inR64 (by omega)) (q_mv rfl (rg_nil (VS_r0 rfl (q_mv rfl (q_add rfl rfl (inR64 (by omega)) (q_mv rfl (rg_nil ?_))))))))))
        refine Bd.keepL [(3, .ptr 0 0 0), (4, .pv (prs (prV t))), (5, .pv (i64 (c + (nth t.ps i).vs.length))), (6, .pv (i64 (i + 1)))] ⟨rfl, rfl, rfl, rfl, trivial⟩ ⟨_, ?_, i + 1, c + (nth t.ps i).vs.length, rfl, ?_, ?_, ?_, rfl, rfl⟩
        · omega
        · omega
        · rw [hsr, g1]
        · omega
      · try simp at c2
        refine VS_exit (VS_seq (VS_r0 rfl (q_mv rfl (q_mv rfl (q_len_m rfl (q_eql rfl rfl (q_mv rfl ?_)))))))
        refine q_b rfl (fun g48 => ?_) (fun g48 => ?_)
        · try simp at g48
          refine q_t rfl (q_mv rfl (q_t rfl (q_load_ra rfl rfl rfl rfl rfl (by (simp; done)) rfl (q_t rfl (q_callp (c_impl_LeavesOf t hs) rfl trivial (q_t rfl (q_len_m rfl (q_t rfl (q_mul rfl rfl (inR64 (by omega)) (q_t rfl (q_leq rfl rfl (q_pick_t rfl rfl (q_mv rfl (rg_nil (VS_ret ?_)))))))))))))))
          refine Bd.now ⟨_, rfl, ?_⟩
          have e : i = t.ps.length := by omega
          rw [e, hvc] at g1
          (simp; omega)
        · try simp at g48
          refine q_f rfl (q_f rfl (q_f rfl (q_f rfl (q_f rfl (q_f rfl (q_pick_f rfl rfl (q_mv rfl (rg_nil (VS_ret ?_)))))))))
          refine Bd.now ⟨_, rfl, ?_⟩
          have e : i = t.ps.length := by omega
          rw [e, hvc] at g1
          (exfalso; simp at *; omega)
theorem sl_laws_FnLeavesOf : slimF prog 5 = some (65, (.seq (.reg 0 (.o 2 (.mv (.c (.pv (.bool false)))) .nil)) (.seq (.seq (.reg 0 (.o 7 (.mv (.t 0)) (.o 8 (.len (.t 7)) (.o 9 (.bin .gtr (.t 8) (.c (.pv (.int .i64 1048576)))) .nil)))) (.cond (.t 9) (.seq (.reg 0 (.o 2 (.mv (.c (.pv (.bool true)))) .nil)) .ret) .skip)) (.seq (.reg 0 (.o 10 (.mv (.t 0)) (.o 11 (.call 19 [.t 10]) (.o 3 (.alloc 25 2 (.agg [.pv (.int .i64 0), .nils])) (.op ⟨none, none, .store 2 (.t 3) (.t 11)⟩ .nil))))) (.seq (.reg 0 (.o 12 (.load 2 true (.t 3)) (.o 13 (.call 20 [.t 12]) (.o 4 (.mv (.t 13)) .nil)))) (.seq (.seq (.reg 0 (.o 14 (.mv (.t 4)) (.o 15 (.load 2 true (.t 3)) (.o 16 (.call 22 [.t 15]) (.o 17 (.call 21 [.t 14, .t 16]) (.o 18 (.not (.t 17)) (.o 19 (.mv (.t 18)) (.g 20 19 false (.load 2 true (.t 3)) (.g 21 19 false (.call 16 [.t 20]) (.g 22 19 false (.not (.t 21)) (.o 23 (.pick (.t 19) (.c (.pv (.bool true))) (.t 22)) .nil))))))))))) (.cond (.t 23) (.seq (.reg 0 (.o 24 (.mv (.t 4)) (.o 25 (.load 2 true (.t 3)) (.o 26 (.call 22 [.t 25]) (.o 27 (.call 21 [.t 24, .t 26]) (.o 2 (.mv (.t 27)) .nil)))))) .ret) .skip)) (.seq (.reg 0 (.o 5 (.mv (.c (.pv (.int .i64 0)))) .nil)) (.seq (.seq (.reg 0 (.o 6 (.mv (.c (.pv (.int .i64 0)))) .nil)) (.block 0 (.loop (.seq (.seq (.reg 0 (.o 28 (.mv (.t 6)) (.o 29 (.fld 1 1 false (.t 3)) (.o 30 (.load 1 false (.t 29)) (.o 31 (.len (.t 30)) (.o 32 (.bin .lss (.t 28) (.t 31)) .nil)))))) (.cond (.t 32) .skip (.exit 0))) (.seq (.block 1 (.seq (.seq (.reg 0 (.o 35 (.fld 1 1 false (.t 3)) (.o 36 (.load 1 false (.t 35)) (.o 37 (.mv (.t 6)) (.o 38 (.idx 3 (.t 36) (.t 37)) (.o 39 (.fld 1 1 false (.t 38)) (.o 40 (.load 1 false (.t 39)) (.o 41 (.len (.t 40)) (.o 42 (.bin .eql (.t 41) (.c (.pv (.int .i64 0)))) .nil))))))))) (.cond (.t 42) (.reg 0 (.o 43 (.mv (.t 5)) (.o 44 (.bin .add (.t 43) (.c (.pv (.int .i64 1)))) (.o 5 (.mv (.t 44)) .nil)))) .skip)) (.seq (.reg 2 (.o 45 (.mv (.t 4)) (.o 46 (.mv (.t 6)) (.o 48 (.fld 1 1 false (.t 3)) (.o 49 (.load 1 false (.t 48)) (.o 50 (.mv (.t 6)) (.o 51 (.idx 3 (.t 49) (.t 50)) (.o 52 (.fld 1 1 false (.t 51)) (.o 53 (.load 1 false (.t 52)) (.o 54 (.len (.t 53)) (.o 55 (.bin .eql (.t 54) (.c (.pv (.int .i64 0)))) (.o 47 (.call 18 [.t 45, .t 46]) (.o 56 (.beq true (.t 47) (.t 55)) .nil))))))))))))) (.cond (.t 56) (.seq (.reg 0 (.o 2 (.mv (.c (.pv (.bool false)))) .nil)) .ret) .skip)))) (.reg 0 (.o 33 (.mv (.t 6)) (.o 34 (.bin .add (.t 33) (.c (.pv (.int .i64 1)))) (.o 6 (.mv (.t 34)) .nil))))))))) (.seq (.reg 0 (.o 57 (.mv (.t 4)) (.o 58 (.len (.t 57)) (.o 59 (.mv (.t 5)) (.o 60 (.bin .eql (.t 58) (.t 59)) (.o 61 (.mv (.t 60)) (.g 62 61 true (.mv (.t 5)) (.g 63 61 true (.bin .geq (.t 62) (.c (.pv (.int .i64 1)))) (.o 64 (.pick (.t 61) (.t 63) (.c (.pv (.bool false)))) (.o 2 (.mv (.t 64)) .nil)))))))))) .ret))))))), [.t 2])) := by kernel_rfl
theorem c_laws_FnLeavesOf (bs : List Int) (hb : isU8 bs) : PCon prog 5 [u8s bs] (fun p => p = .bool true) := by
  refine con_of_VS sl_laws_FnLeavesOf (by simp) (VS_seq (VS_r0 rfl (q_mv rfl (rg_nil (VS_seq (VS_seq (VS_r0 rfl (q_mv rfl (q_len_m rfl (q_gtr rfl rfl (rg_nil ?_)))))))))))
  refine VS_cond rfl (fun c0 => ?_) (fun c0 => ?_)
  · try simp at c0
    refine VS_seq (VS_r0 rfl (q_mv rfl (rg_nil (VS_ret ?_))))
    exact Bd.now ⟨_, rfl, rfl⟩
  · try simp at c0
    refine VS_skip (VS_seq (VS_r0 rfl (q_mv rfl (q_calle rfl (c_spec_DrawLeavesOf bs hb (by omega)) rfl trivial ?_))))
    rintro _ ⟨t, rfl, ha⟩
    refine q_alloc trivial (q_store rfl rfl rfl rfl rfl rfl ⟨rfl, rfl, by simp, rfl, by simp [isOne]⟩ rfl trivial (rg_nil (VS_seq ?_)))
    cases hv : validT t
    · skip
      have hs := ha.small
      have hll := lvV_len (t := t)
      have hpl := prV_len (t := t)
      refine VS_r0 rfl (q_load_ra rfl rfl rfl rfl rfl (by (simp [setAt]; done)) rfl (q_callp (c_impl_LeavesOf t hs) rfl trivial (q_mv rfl (rg_nil (VS_seq (VS_seq (VS_r0 rfl (q_mv rfl (q_load_ra rfl rfl rfl rfl rfl (by (simp [setAt]; done)) rfl (q_callp (c_spec_LeavesOf t hs) rfl trivial (q_callp (x := .bool true) ((c_laws_equalInts _ _ (by omega) (by omega)).eqT (by rfl)) rfl trivial (q_not rfl (q_mv rfl (q_t rfl (q_load_ra rfl rfl rfl rfl rfl (by (simp [setAt]; done)) rfl ?_)))))))))))))))
      refine q_t rfl (q_callp (x := .bool false) ((c_impl_ValidTree t hs).to (y := .bool false) (by rw [hv])) rfl trivial (q_t rfl (q_not rfl (q_pick_f rfl rfl (rg_nil ?_)))))
      refine VS_cond rfl (fun _ => ?_) (fun e => by cases e)
      refine VS_seq (VS_r0 rfl (q_mv rfl (q_load_ra rfl rfl rfl rfl rfl (by (simp [setAt]; done)) rfl (q_callp (c_spec_LeavesOf t hs) rfl trivial (q_callp (x := .bool true) ((c_laws_equalInts _ _ (by omega) (by omega)).eqT (by rfl)) rfl trivial (q_mv rfl (rg_nil (VS_ret ?_))))))))
      exact Bd.now ⟨_, rfl, rfl⟩
    · skip
      have hs := ha.small
      have hll := lvV_len (t := t)
      have hpl := prV_len (t := t)
      have hlc := leaf_count hv
      have hlp := lv_pos hv
      have hm := ha.many
      refine VS_r0 rfl (q_load_ra rfl rfl rfl rfl rfl (by (simp [setAt]; done)) rfl (q_callp (c_impl_LeavesOf t hs) rfl trivial (q_mv rfl (rg_nil (VS_seq (VS_seq (VS_r0 rfl (q_mv rfl (q_load_ra rfl rfl rfl rfl rfl (by (simp [setAt]; done)) rfl (q_callp (c_spec_LeavesOf t hs) rfl trivial (q_callp (x := .bool true) ((c_laws_equalInts _ _ (by omega) (by omega)).eqT (by rfl)) rfl trivial (q_not rfl (q_mv rfl (q_t rfl (q_load_ra rfl rfl rfl rfl rfl (by (simp [setAt]; done)) rfl ?_)))))))))))))))
      refine q_t rfl (q_callp (x := .bool true) ((c_impl_ValidTree t hs).to (y := .bool true) (by rw [hv])) rfl trivial (q_t rfl (q_not rfl (q_pick_f rfl rfl (rg_nil ?_)))))
      refine VS_cond rfl (fun e => by cases e) (fun _ => ?_)
      refine VS_skip (VS_seq (VS_r0 rfl (q_mv rfl (rg_nil (VS_seq (VS_seq (VS_r0 rfl (q_mv rfl (rg_nil (VS_block ?_))))))))))
      refine VS_bd (Bd.keepL [(3, .ptr 0 0 0), (4, .pv (ints (lvV t))), (5, .pv (i64 0)), (6, .pv (i64 0))] ⟨rfl, rfl, rfl, rfl, trivial⟩ ?_)
      refine VS_loop (fun mz E S => ∃ i : Nat, ∃ c : Nat, mz = t.ps.length - i ∧ (i ≤ t.ps.length) ∧ (c = sumR (fun i => if (nth t.ps i).cs.length = 0 then 1 else 0) i) ∧ (c ≤ i) ∧ E = env [(3, .ptr 0 0 0), (4, .pv (ints (lvV t))), (5, .pv (i64 c)), (6, .pv (i64 i))] ∧ S = [some ⟨25, 2, [.agg [.pv (i64 t.r), .pv (pgsP t.ps)]]⟩]) ⟨_, 0, 0, rfl, (by omega), rfl, (by omega), rfl, rfl⟩ ?_
      rintro mz _ _ ⟨i, c, hmeas, g0, g1, g2, rfl, rfl⟩
      refine VS_seq (VS_seq (VS_r0 rfl (q_mv rfl (q_fld_r rfl (q_load_r rfl rfl rfl rfl rfl rfl rfl (q_len_m rfl (q_lss rfl rfl (rg_nil ?_))))))))
      refine VS_cond rfl (fun c2 => ?_) (fun c2 => ?_)
      · try simp at c2
        have hsr := sumR_succ (f := fun i => if (nth t.ps i).cs.length = 0 then 1 else 0) (n := i)
        refine VS_skip (VS_seq (VS_block (VS_seq (VS_seq (VS_r0 rfl (q_fld_r rfl (q_load_r rfl rfl rfl rfl rfl rfl rfl (q_mv rfl (q_idx_m (f := pgP) (xs := t.ps) (n := (i : Int)) rfl rfl (by omega) (by omega) (fun _ => rfl) ?_)))))))))
        rw [Int.toNat_natCast]
        refine q_fld_c rfl rfl (q_load_c rfl rfl rfl (q_len_m rfl (q_eql rfl rfl (rg_nil ?_))))
        refine VS_cond rfl (fun c3 => ?_) (fun c3 => ?_)
        · try simp at c3
          refine VS_r0 rfl (q_mv rfl (q_add rfl rfl (inR64 (by omega)) (q_mv rfl (rg_nil (VS_seq (VS_r2 _ hmix (Sub.refl _) (q_mv rfl (q_mv rfl (q_fld_r rfl (q_load_r rfl rfl rfl rfl rfl rfl rfl (q_mv rfl (q_idx_m (f := pgP) (xs := t.ps) (n := (i : Int)) rfl rfl (by omega) (by omega) (fun _ => rfl) ?_))))))))))))
          rw [Int.toNat_natCast]
          refine q_fld_c rfl rfl (q_load_c rfl rfl rfl (q_len_m rfl (q_eql rfl rfl (q_callp ((c_laws_isIn (lvV t) (i : Int) (by omega)).to (y := .bool (decide ((nth t.ps i).cs.length = 0))) (by rw [leaf_mem hv (by omega)])) rfl (Sub.refl _) (q_beq rfl rfl (rg_nil ?_))))))
          refine VS_cond rfl (fun c4 => ?_) (fun c4 => ?_)
          · exfalso; first | (simp at c4; done) | (simp at *; omega) | simp_all
          · try simp at c4
            refine VS_skip (VS_r0 rfl (q_mv rfl (q_add rfl rfl (inR64 (by omega)) (q_mv rfl (rg_nil ?_)))))
            refine Bd.keepL [(3, .ptr 0 0 0), (4, .pv (ints (lvV t))), (5, .pv (i64 (c + 1))), (6, .pv (i64 (i + 1)))] ⟨rfl, rfl, rfl, rfl, trivial⟩ ⟨_, ?_, i + 1, c + 1, rfl, ?_, ?_, ?_, rfl, rfl⟩
            · omega
            · omega
            · rw [hsr, g1, if_pos (by (simp_all; done))]
            · omega
        · try simp at c3
          refine VS_skip (VS_seq (VS_r2 _ hmix (Sub.refl _) (q_mv rfl (q_mv rfl (q_fld_r rfl (q_load_r rfl rfl rfl rfl rfl rfl rfl (q_mv rfl (q_idx_m (f := pgP) (xs := t.ps) (n := (i : Int)) rfl rfl (by omega) (by omega) (fun _ => rfl) ?_))))))))
          rw [Int.toNat_natCast]
          refine q_fld_c rfl rfl (q_load_c rfl rfl rfl (q_len_m rfl (q_eql rfl rfl (q_callp ((c_laws_isIn (lvV t) (i : Int) (by omega)).to (y := .bool (decide ((nth t.ps i).cs.length = 0))) (by rw [leaf_mem hv (by omega)])) rfl (Sub.refl _) (q_beq rfl rfl (rg_nil ?_))))))
          refine VS_cond rfl (fun c4 => ?_) (fun c4 => ?_)
          · exfalso; first | (simp at c4; done) | (simp at *; omega) | simp_all
          · try simp at c4
            refine VS_skip (VS_r0 rfl (q_mv rfl (q_add rfl rfl (inR64 (by omega)) (q_mv rfl (rg_nil ?_)))))
            refine Bd.keepL [(3, .ptr 0 0 0), (4, .pv (ints (lvV t))), (5, .pv (i64 c)), (6, .pv (i64 (i + 1)))] ⟨rfl, rfl, rfl, rfl, trivial⟩ ⟨_, ?_, i + 1, c, rfl, ?_, ?_, ?_, rfl, rfl⟩
            · omega
            · omega
            · rw [hsr, g1, if_neg (by (simp_all; done))]; rfl
            · omega
      · try simp at c2
        refine VS_exit (VS_seq (VS_r0 rfl (q_mv rfl (q_len_m rfl (q_mv rfl (q_eql rfl rfl (q_mv rfl ?_)))))))
        refine q_b rfl (fun g61 => ?_) (fun g61 => ?_)
        · try simp at g61
          refine q_t rfl (q_mv rfl (q_t rfl (q_geq rfl rfl (q_pick_t rfl rfl (q_mv rfl (rg_nil (VS_ret ?_)))))))
          refine Bd.now ⟨_, rfl, ?_⟩
          have e : i = t.ps.length := by omega
          rw [e, hlc] at g1
          (simp; omega)
        · try simp at g61
          refine q_f rfl (q_f rfl (q_pick_f rfl rfl (q_mv rfl (rg_nil (VS_ret ?_)))))
          refine Bd.now ⟨_, rfl, ?_⟩
          have e : i = t.ps.length := by omega
          rw [e, hlc] at g1
          (exfalso; simp at *; omega)
end Go.V
