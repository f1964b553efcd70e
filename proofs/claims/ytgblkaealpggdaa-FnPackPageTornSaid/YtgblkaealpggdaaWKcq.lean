/- A part of the proofs about laws of the page tree (see the text that bears the law): a small language of steps, its rules, and what the functions of the program return. -/
import Derived.Test.YtgblkaealpggdaaWKcp
import Derived.Test.YtgblkaealpggdaaQR
set_option linter.all false
set_option linter.unusedVariables false
set_option linter.unusedSimpArgs false
set_option maxHeartbeats 4000000
namespace Go.V
open Go.Proofs.Try (prog)
set_option maxRecDepth 100000
theorem sl_slices_Equal_int : slimF prog 40 = some (26, (.seq (.reg 0 (.o 4 (.mv (.c (.pv (.bool false)))) .nil)) (.seq (.seq (.reg 0 (.o 6 (.mv (.t 0)) (.o 7 (.len (.t 6)) (.o 8 (.mv (.t 1)) (.o 9 (.len (.t 8)) (.o 10 (.bin .neq (.t 7) (.t 9)) .nil)))))) (.cond (.t 10) (.seq (.reg 0 (.o 4 (.mv (.c (.pv (.bool false)))) .nil)) .ret) .skip)) (.seq (.seq (.reg 0 (.o 11 (.mv (.t 0)) (.o 12 (.len (.t 11)) (.o 13 (.mv (.c (.pv (.int .i64 0)))) .nil)))) (.block 0 (.loop (.seq (.reg 0 (.o 14 (.bin .lss (.t 13) (.t 12)) .nil)) (.seq (.cond (.t 14) .skip (.exit 0)) (.seq (.block 1 (.seq (.reg 0 (.o 15 (.mv (.t 13)) (.o 5 (.mv (.t 15)) .nil))) (.seq (.reg 1 (.o 16 (.mv (.t 0)) (.o 17 (.mv (.t 5)) (.o 18 (.idx 1 (.t 16) (.t 17)) (.o 19 (.load 1 false (.t 18)) (.o 20 (.mv (.t 1)) (.o 21 (.mv (.t 5)) (.o 22 (.idx 1 (.t 20) (.t 21)) (.o 23 (.load 1 false (.t 22)) (.o 24 (.bin .neq (.t 19) (.t 23)) .nil)))))))))) (.cond (.t 24) (.seq (.reg 0 (.o 4 (.mv (.c (.pv (.bool false)))) .nil)) .ret) .skip)))) (.reg 0 (.o 25 (.bin .add (.t 13) (.c (.pv (.int .i64 1)))) (.o 13 (.mv (.t 25)) .nil))))))))) (.seq (.reg 0 (.o 4 (.mv (.c (.pv (.bool true)))) .nil)) .ret))), [.t 4])) := by kernel_rfl
theorem c_slices_Equal_int (xs ys : List Int) (hx : xs.length ≤ 1000000000) (hy : ys.length ≤ 1000000000) : PCon prog 40 [ints xs, ints ys] (fun p => p = .bool (decide (xs = ys))) := by
 refine con_of_VS sl_slices_Equal_int (by simp) (VS_seq (VS_r0 rfl (q_mv rfl (rg_nil (VS_seq (VS_seq (VS_r0 rfl (q_mv rfl (q_len_m rfl (q_mv rfl (q_len_m rfl (q_neq rfl rfl (rg_nil ?_)))))))))))))
 refine VS_cond rfl (fun c0 => ?_) (fun c0 => ?_)
 ·try simp at c0
  refine VS_seq (VS_r0 rfl (q_mv rfl (rg_nil (VS_ret ?_))))
  refine Bd.now ⟨_, rfl, congrArg PV.bool (decide_eq_false fun e => ?_).symm⟩
  subst e; omega
 ·try simp at c0
  have hle : xs.length = ys.length := by first | omega | (simp at c0; omega)
  refine VS_skip (VS_seq (VS_seq (VS_r0 rfl (q_mv rfl (q_len_m rfl (q_mv rfl (rg_nil (VS_block ?_))))))))
  refine VS_bd (Bd.keepL [(0, .pv (ints xs)), (1, .pv (ints ys)), (12, .pv (i64 xs.length)), (13, .pv (i64 0))] ⟨rfl, rfl, rfl, rfl, trivial⟩ ?_)
  refine VS_loop (fun mz E S => ∃ i : Nat, mz = xs.length - i ∧ (i ≤ xs.length) ∧ (∀ j, j < i → nth xs j = nth ys j) ∧ E = env [(0, .pv (ints xs)), (1, .pv (ints ys)), (12, .pv (i64 xs.length)), (13, .pv (i64 i))] ∧ S = []) ⟨_, 0, rfl, (by omega), (by omega), rfl, rfl⟩ ?_
  rintro mz _ _ ⟨i, hmeas, g0, g1, rfl, rfl⟩
  refine VS_seq (VS_r0 rfl (q_lss rfl rfl (rg_nil (VS_seq ?_))))
  refine VS_cond rfl (fun c1 => ?_) (fun c1 => ?_)
  ·try simp at c1
   refine VS_skip (VS_seq (VS_block (VS_seq (VS_r0 rfl (q_mv rfl (q_mv rfl (rg_nil (VS_seq (VS_r1 hmix rfl (q_mv rfl (q_mv rfl (q_idx_at (f := fun k => i64 k) (xs := xs) (m := i) rfl rfl (by omega) (fun _ => rfl) (q_load_c rfl rfl rfl (q_mv rfl (q_mv rfl ?_)))))))))))))))
   refine q_idx_at (f := fun k => i64 k) (xs := ys) (m := i) rfl rfl (by omega) (fun _ => rfl) (q_load_c rfl rfl rfl (q_neq rfl rfl (rg_nil ?_)))
   refine VS_cond rfl (fun c2 => ?_) (fun c2 => ?_)
   ·try simp at c2
    refine VS_seq (VS_r0 rfl (q_mv rfl (rg_nil (VS_ret ?_))))
    refine Bd.now ⟨_, rfl, congrArg PV.bool (decide_eq_false fun e => ?_).symm⟩
    subst e; simp_all
   ·try simp at c2
    refine VS_skip (VS_r0 rfl (q_add rfl rfl (inR64 (by omega)) (q_mv rfl (rg_nil ?_))))
    refine Bd.keepL [(0, .pv (ints xs)), (1, .pv (ints ys)), (12, .pv (i64 xs.length)), (13, .pv (i64 (i + 1)))] ⟨rfl, rfl, rfl, rfl, trivial⟩ ⟨_, ?_, i + 1, rfl, ?_, ?_, rfl, rfl⟩
    ·omega
    ·omega
    ·intro j hj
     by_cases e : j = i
     ·subst e; simp_all
     ·exact g1 j (by omega)
  ·try simp at c1
   refine VS_exit (VS_seq (VS_r0 rfl (q_mv rfl (rg_nil (VS_ret ?_)))))
   exact Bd.now ⟨_, rfl, congrArg PV.bool (decide_eq_true (list_ext_nth (by omega) fun j hj => g1 j (by omega))).symm⟩
theorem sl_impl_UnpackPage : slimF prog 15 = some (93, (.seq (.reg 0 (.o 2 (.alloc 25 3 (.agg [.nils, .nils, .nils])) (.o 3 (.mv (.c (.pv (.int .i64 0)))) (.o 4 (.mv (.c (.pv (.bool false)))) .nil)))) (.seq (.seq (.reg 0 (.o 11 (.mv (.t 0)) (.o 12 (.len (.t 11)) (.o 13 (.bin .eql (.t 12) (.c (.pv (.int .i64 0)))) (.o 14 (.mv (.t 13)) (.g 15 14 false (.mv (.t 0)) (.g 16 14 false (.idx 1 (.t 15) (.c (.pv (.int .i64 0)))) (.g 17 14 false (.load 1 false (.t 16)) (.g 18 14 false (.bin .lss (.t 17) (.c (.pv (.int .i64 0)))) (.o 19 (.pick (.t 14) (.c (.pv (.bool true))) (.t 18)) (.o 20 (.mv (.t 19)) (.g 21 20 false (.mv (.t 0)) (.g 22 20 false (.idx 1 (.t 21) (.c (.pv (.int .i64 0)))) (.g 23 20 false (.load 1 false (.t 22)) (.g 24 20 false (.bin .gtr (.t 23) (.c (.pv (.int .i64 9)))) (.o 25 (.pick (.t 20) (.c (.pv (.bool true))) (.t 24)) .nil)))))))))))))))) (.cond (.t 25) (.seq (.reg 0 (.o 26 (.build [.nils, .nils, .nils] []) (.op ⟨none, none, .store 3 (.t 2) (.t 26)⟩ (.o 3 (.mv (.c (.pv (.int .i64 0)))) (.o 4 (.mv (.c (.pv (.bool false)))) .nil))))) .ret) .skip)) (.seq (.reg 0 (.o 27 (.mv (.t 0)) (.o 28 (.idx 1 (.t 27) (.c (.pv (.int .i64 0)))) (.o 29 (.load 1 false (.t 28)) (.o 30 (.bin .quo (.t 29) (.c (.pv (.int .i64 2)))) (.o 5 (.mv (.t 30)) .nil)))))) (.seq (.reg 0 (.o 31 (.mv (.t 5)) (.o 32 (.bin .mul (.c (.pv (.int .i64 2))) (.t 31)) (.o 33 (.bin .add (.t 32) (.c (.pv (.int .i64 2)))) (.o 34 (.mv (.t 0)) (.o 35 (.idx 1 (.t 34) (.c (.pv (.int .i64 0)))) (.o 36 (.load 1 false (.t 35)) (.o 37 (.bin .rem (.t 36) (.c (.pv (.int .i64 2)))) (.o 38 (.bin .add (.t 33) (.t 37)) (.o 6 (.mv (.t 38)) .nil)))))))))) (.seq (.seq (.reg 0 (.o 39 (.mv (.t 0)) (.o 40 (.len (.t 39)) (.o 41 (.mv (.t 6)) (.o 42 (.bin .lss (.t 40) (.t 41)) .nil))))) (.cond (.t 42) (.seq (.reg 0 (.o 43 (.build [.nils, .nils, .nils] []) (.op ⟨none, none, .store 3 (.t 2) (.t 43)⟩ (.o 3 (.mv (.c (.pv (.int .i64 0)))) (.o 4 (.mv (.c (.pv (.bool false)))) .nil))))) .ret) .skip)) (.seq (.reg 0 (.o 44 (.mv (.t 0)) (.o 45 (.mv (.t 5)) (.o 46 (.bin .add (.c (.pv (.int .i64 1))) (.t 45)) (.o 47 (.mv (.t 6)) (.o 48 (.bin .sub (.t 47) (.c (.pv (.int .i64 1)))) (.o 49 (.slc 1 (.t 44) (some (.t 46)) (some (.t 48))) (.o 7 (.mv (.t 49)) .nil)))))))) (.seq (.reg 0 (.o 50 (.mv (.t 0)) (.o 51 (.mv (.t 5)) (.o 52 (.bin .add (.c (.pv (.int .i64 1))) (.t 51)) (.o 53 (.slc 1 (.t 50) (some (.c (.pv (.int .i64 1)))) (some (.t 52))) (.o 54 (.call 39 [.t 53]) (.o 55 (.build [.nils, .nils, .nils] [(0, (1, .t 54))]) (.o 8 (.alloc 25 3 (.agg [.nils, .nils, .nils])) (.op ⟨none, none, .store 3 (.t 8) (.t 55)⟩ .nil))))))))) (.seq (.seq (.reg 0 (.o 56 (.mv (.t 0)) (.o 57 (.idx 1 (.t 56) (.c (.pv (.int .i64 0)))) (.o 58 (.load 1 false (.t 57)) (.o 59 (.bin .rem (.t 58) (.c (.pv (.int .i64 2)))) (.o 60 (.bin .eql (.t 59) (.c (.pv (.int .i64 1)))) .nil)))))) (.cond (.t 60) (.reg 0 (.o 61 (.mv (.t 7)) (.o 62 (.call 39 [.t 61]) (.o 63 (.fld 1 1 false (.t 8)) (.op ⟨none, none, .store 1 (.t 63) (.t 62)⟩ .nil))))) (.seq (.reg 0 (.o 64 (.mv (.t 7)) (.o 65 (.len (.t 64)) (.o 66 (.mv (.c (.pv (.int .i64 0)))) .nil)))) (.block 0 (.loop (.seq (.reg 0 (.o 67 (.bin .lss (.t 66) (.t 65)) .nil)) (.seq (.cond (.t 67) .skip (.exit 0)) (.seq (.block 1 (.seq (.reg 0 (.o 68 (.idx 1 (.t 64) (.t 66)) (.o 69 (.load 1 false (.t 68)) (.o 10 (.mv (.t 69)) .nil)))) (.reg 0 (.o 70 (.fld 2 1 false (.t 8)) (.o 71 (.load 1 false (.t 70)) (.o 72 (.mv (.t 10)) (.o 73 (.bin .sub (.t 72) (.c (.pv (.int .i64 1000)))) (.o 74 (.lit 3 1 1 [.pv (.int .i64 0)] [(0, .t 73)]) (.o 75 (.app 3 1 8 (.t 71) (.t 74)) (.o 76 (.fld 2 1 false (.t 8)) (.op ⟨none, none, .store 1 (.t 76) (.t 75)⟩ .nil))))))))))) (.reg 0 (.o 77 (.bin .add (.t 66) (.c (.pv (.int .i64 1)))) (.o 66 (.mv (.t 77)) .nil))))))))))) (.seq (.seq (.reg 2 (.o 78 (.load 3 true (.t 8)) (.o 79 (.call 34 [.t 78]) (.o 80 (.not (.t 79)) (.o 81 (.mv (.t 80)) (.g 82 81 false (.load 3 true (.t 8)) (.g 84 81 false (.mv (.t 0)) (.g 85 81 false (.mv (.t 6)) (.g 86 81 false (.slc 1 (.t 84) none (some (.t 85))) (.g 83 81 false (.call 12 [.t 82]) (.g 87 81 false (.call 40 [.t 83, .t 86]) (.g 88 81 false (.not (.t 87)) (.o 89 (.pick (.t 81) (.c (.pv (.bool true))) (.t 88)) .nil))))))))))))) (.cond (.t 89) (.seq (.reg 0 (.o 90 (.build [.nils, .nils, .nils] []) (.op ⟨none, none, .store 3 (.t 2) (.t 90)⟩ (.o 3 (.mv (.c (.pv (.int .i64 0)))) (.o 4 (.mv (.c (.pv (.bool false)))) .nil))))) .ret) .skip)) (.seq (.reg 0 (.o 91 (.load 3 true (.t 8)) (.o 92 (.mv (.t 6)) (.op ⟨none, none, .store 3 (.t 2) (.t 91)⟩ (.o 3 (.mv (.t 92)) (.o 4 (.mv (.c (.pv (.bool true)))) .nil)))))) .ret))))))))), [.c 2 3, .t 3, .t 4])) := by kernel_rfl
theorem c_impl_UnpackPage_torn (X : List Int) (hl : X.length ≤ 1000) (h0 : 0 < X.length → 0 ≤ nth X 0 ∧ nth X 0 ≤ 9 ∧ (X.length : Int) < 2 * (nth X 0 / 2) + 2 + nth X 0 % 2) : PCon prog 15 [ints X] (fun p => p = .tup [pgP ⟨[], [], []⟩, i64 0, .bool false]) := by
 refine con_of_VS sl_impl_UnpackPage (by simp) (VS_seq (VS_r0 rfl (q_alloc trivial (q_mv rfl (q_mv rfl (rg_nil (VS_seq (VS_seq (VS_r0 rfl (q_mv rfl (q_len_m rfl (q_eql rfl rfl (q_mv rfl ?_)))))))))))))
 refine q_b rfl (fun g14 => ?_) (fun g14 => ?_)
 ·try simp at g14
  have hxp : 0 < X.length := by first | omega | exact List.length_pos_iff.2 (by assumption)
  have h1 := h0 hxp
  refine q_t rfl (q_mv rfl (q_t rfl (q_idx_at (f := fun k => i64 k) (xs := X) (m := 0) rfl rfl (by omega) (fun _ => rfl) (q_t rfl (q_load_c rfl rfl rfl (q_t rfl (q_lss_v false rfl rfl (decide_eq_false (by omega)) (q_pick_f rfl rfl (q_mv rfl (q_t rfl (q_mv rfl (q_t rfl (q_idx_at (f := fun k => i64 k) (xs := X) (m := 0) rfl rfl (by omega) (fun _ => rfl) (q_t rfl (q_load_c rfl rfl rfl ?_)))))))))))))))
  refine q_t rfl (q_gtr_v false rfl rfl (decide_eq_false (by omega)) (q_pick_f rfl rfl (rg_nil ?_)))
  refine VS_cond rfl (fun e => by cases e) (fun _ => ?_)
  refine VS_skip (VS_seq (VS_r0 rfl (q_mv rfl (q_idx_at (f := fun k => i64 k) (xs := X) (m := 0) rfl rfl (by omega) (fun _ => rfl) (q_load_c rfl rfl rfl (q_quo_to (nth X 0 / 2) rfl rfl ⟨by omega, by omega⟩ rfl (inR64 (by omega)) (q_mv rfl (rg_nil (VS_seq (VS_r0 rfl (q_mv rfl (q_mul_to (2 * (nth X 0 / 2)) rfl rfl rfl (inR64 (by omega)) (q_add rfl rfl (inR64 (by omega)) (q_mv rfl (q_idx_at (f := fun k => i64 k) (xs := X) (m := 0) rfl rfl (by omega) (fun _ => rfl) ?_)))))))))))))))
  refine q_load_c rfl rfl rfl (q_rem_to (nth X 0 % 2) rfl rfl ⟨by omega, by omega⟩ rfl (q_add rfl rfl (inR64 (by omega)) (q_mv rfl (rg_nil (VS_seq (VS_seq (VS_r0 rfl (q_mv rfl (q_len_m rfl (q_mv rfl (q_lss_v true rfl rfl (decide_eq_true (by omega)) (rg_nil ?_))))))))))))
  refine VS_cond rfl (fun _ => ?_) (fun e => by cases e)
  refine VS_seq (VS_r0 rfl (q_build rfl (q_store rfl rfl rfl rfl rfl rfl ⟨rfl, rfl, by simp, rfl, by simp [isOne]⟩ rfl trivial (q_mv rfl (q_mv rfl (rg_nil (VS_ret ?_)))))))
  exact Bd.now ⟨_, rfl, rfl⟩
 ·try simp at g14
  refine q_f rfl (q_f rfl (q_f rfl (q_f rfl (q_pick_t rfl rfl (q_mv rfl (q_f rfl (q_f rfl (q_f rfl (q_f rfl (q_pick_t rfl rfl (rg_nil ?_)))))))))))
  refine VS_cond rfl (fun _ => ?_) (fun e => by cases e)
  refine VS_seq (VS_r0 rfl (q_build rfl (q_store rfl rfl rfl rfl rfl rfl ⟨rfl, rfl, by simp, rfl, by simp [isOne]⟩ rfl trivial (q_mv rfl (q_mv rfl (rg_nil (VS_ret ?_)))))))
  exact Bd.now ⟨_, rfl, rfl⟩
end Go.V
