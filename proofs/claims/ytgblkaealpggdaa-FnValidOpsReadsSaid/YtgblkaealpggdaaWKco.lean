/- A part of the proofs about laws of the page tree (see the text that bears the law): a small language of steps, its rules, and what the functions of the program return. -/
import Derived.Test.YtgblkaealpggdaaWKcn
set_option linter.all false
set_option linter.unusedVariables false
set_option linter.unusedSimpArgs false
set_option maxHeartbeats 4000000
namespace Go.V
open Go.Proofs.Try (prog)
theorem zco (os : List Nat) : ∀ i, i < 0 → os[i]? = some i := fun i hi => absurd hi (Nat.not_lt_zero i)
set_option maxRecDepth 100000
theorem sl_laws_FnValidOps : slimF prog 5 = some (49, (.seq (.reg 0 (.o 2 (.mv (.c (.pv (.bool false)))) .nil)) (.seq (.seq (.reg 0 (.o 6 (.mv (.t 0)) (.o 7 (.len (.t 6)) (.o 8 (.bin .gtr (.t 7) (.c (.pv (.int .i64 1048576)))) .nil)))) (.cond (.t 8) (.seq (.reg 0 (.o 2 (.mv (.c (.pv (.bool true)))) .nil)) .ret) .skip)) (.seq (.reg 0 (.o 9 (.mv (.t 0)) (.o 10 (.call 16 [.t 9]) (.o 3 (.mv (.t 10)) .nil)))) (.seq (.reg 0 (.o 11 (.mv (.t 3)) (.o 12 (.call 17 [.t 11]) (.o 4 (.mv (.t 12)) .nil)))) (.seq (.seq (.reg 0 (.o 13 (.mv (.t 4)) (.o 14 (.mv (.t 3)) (.o 15 (.call 18 [.t 14]) (.o 16 (.beq true (.t 13) (.t 15)) (.o 17 (.mv (.t 16)) (.g 18 17 false (.mv (.t 4)) (.g 19 17 false (.not (.t 18)) (.o 20 (.pick (.t 17) (.c (.pv (.bool true))) (.t 19)) (.o 21 (.mv (.t 20)) (.g 22 21 false (.mv (.t 3)) (.g 23 21 false (.len (.t 22)) (.g 24 21 false (.bin .eql (.t 23) (.c (.pv (.int .i64 0)))) (.o 25 (.pick (.t 21) (.c (.pv (.bool true))) (.t 24)) .nil)))))))))))))) (.cond (.t 25) (.seq (.reg 0 (.o 26 (.mv (.t 4)) (.o 27 (.mv (.t 3)) (.o 28 (.call 18 [.t 27]) (.o 29 (.beq false (.t 26) (.t 28)) (.o 2 (.mv (.t 29)) .nil)))))) .ret) .skip)) (.seq (.reg 0 (.o 30 (.mv (.t 0)) (.o 31 (.len (.t 30)) (.o 32 (.mv (.t 3)) (.o 33 (.len (.t 32)) (.o 34 (.bin .rem (.t 31) (.t 33)) (.o 5 (.mv (.t 34)) .nil))))))) (.seq (.reg 2 (.o 35 (.lit 36 3 0 [.pv (.int .i64 0), .pv (.int .i64 0), .pv (.int .i64 0)] []) (.o 36 (.mv (.t 3)) (.o 37 (.mv (.t 5)) (.o 38 (.slc 3 (.t 36) none (some (.t 37))) (.o 40 (.mv (.t 3)) (.o 41 (.mv (.t 5)) (.o 42 (.bin .add (.t 41) (.c (.pv (.int .i64 1)))) (.o 43 (.slc 3 (.t 40) (some (.t 42)) none) (.o 39 (.app 36 3 24 (.t 35) (.t 38)) (.o 44 (.app 36 3 24 (.t 39) (.t 43)) (.o 45 (.call 17 [.t 44]) (.o 46 (.mv (.t 45)) (.g 47 46 true (.call 17 [.c .nils]) (.o 48 (.pick (.t 46) (.t 47) (.c (.pv (.bool false)))) (.o 2 (.mv (.t 48)) .nil)))))))))))))))) .ret)))))), [.t 2])) := by kernel_rfl
theorem c_laws_FnValidOps (bs : List Int) (hb : isU8 bs) : PCon prog 5 [u8s bs] (fun p => p = .bool true) := by
 refine con_of_VS sl_laws_FnValidOps (by simp) (VS_seq (VS_r0 rfl (q_mv rfl (rg_nil (VS_seq (VS_seq (VS_r0 rfl (q_mv rfl (q_len_m rfl (q_gtr rfl rfl (rg_nil ?_)))))))))))
 refine VS_cond rfl (fun c0 => ?_) (fun c0 => ?_)
 ·try simp at c0
  refine VS_seq (VS_r0 rfl (q_mv rfl (rg_nil (VS_ret ?_))))
  exact Bd.now ⟨_, rfl, rfl⟩
 ·try simp at c0
  refine VS_skip (VS_seq (VS_r0 rfl (q_mv rfl (q_calle rfl (c_spec_DrawValidOps bs hb (by omega)) rfl trivial ?_))))
  rintro _ ⟨xs, rfl, hx⟩
  refine q_mv rfl (rg_nil (VS_seq ?_))
  cases hv : okOps xs
  ·skip
   refine VS_r0 rfl (q_mv rfl (q_callp (x := .bool false) ((c_impl_ValidOps xs (by omega)).to (y := .bool false) (by rw [hv])) rfl trivial (q_mv rfl (rg_nil (VS_seq (VS_seq (VS_r0 rfl (q_mv rfl (q_mv rfl (q_callp (x := .bool false) ((c_spec_ValidOps xs (by omega)).to (y := .bool false) (by rw [hv])) rfl trivial (q_beq_v false rfl rfl (by simp) (q_mv rfl (q_t rfl (q_mv rfl (q_t rfl ?_)))))))))))))))
   refine q_not rfl (q_pick_f rfl rfl (q_mv rfl (q_f rfl (q_f rfl (q_f rfl (q_pick_t rfl rfl (rg_nil ?_)))))))
   refine VS_cond rfl (fun _ => ?_) (fun e => by cases e)
   refine VS_seq (VS_r0 rfl (q_mv rfl (q_mv rfl (q_callp (x := .bool false) ((c_spec_ValidOps xs (by omega)).to (y := .bool false) (by rw [hv])) rfl trivial (q_beq_v true rfl rfl (by simp) (q_mv rfl (rg_nil (VS_ret ?_))))))))
   exact Bd.now ⟨_, rfl, rfl⟩
  ·skip
   refine VS_r0 rfl (q_mv rfl (q_callp (x := .bool true) ((c_impl_ValidOps xs (by omega)).to (y := .bool true) (by rw [hv])) rfl trivial (q_mv rfl (rg_nil (VS_seq (VS_seq (VS_r0 rfl (q_mv rfl (q_mv rfl (q_callp (x := .bool true) ((c_spec_ValidOps xs (by omega)).to (y := .bool true) (by rw [hv])) rfl trivial (q_beq_v false rfl rfl (by simp) (q_mv rfl (q_t rfl (q_mv rfl (q_t rfl ?_)))))))))))))))
   refine q_not rfl (q_pick_f rfl rfl (q_mv rfl (q_t rfl (q_mv rfl (q_t rfl (q_len_m rfl (q_t rfl (q_eql rfl rfl (q_pick_f rfl rfl (rg_nil ?_))))))))))
   refine VS_cond rfl (fun c1 => ?_) (fun c1 => ?_)
   ·try simp at c1
    refine VS_seq (VS_r0 rfl (q_mv rfl (q_mv rfl (q_callp (x := .bool true) ((c_spec_ValidOps xs (by omega)).to (y := .bool true) (by rw [hv])) rfl trivial (q_beq_v true rfl rfl (by simp) (q_mv rfl (rg_nil (VS_ret ?_))))))))
    exact Bd.now ⟨_, rfl, rfl⟩
   ·try simp at c1
    have hxp : 0 < xs.length := by first | omega | exact List.length_pos_iff.2 (by assumption)
    have hK : (bs.length % xs.length) < xs.length := Nat.mod_lt _ hxp
    refine VS_skip (VS_seq (VS_r0 rfl (q_mv rfl (q_len_m rfl (q_mv rfl (q_len_m rfl (q_rem_to (((bs.length % xs.length) : Nat) : Int) rfl rfl ⟨by omega, by omega⟩ (by simp) (q_mv rfl (rg_nil (VS_seq (VS_r2 [] hmix Sub.nil (q_lit0 (q_mv rfl (q_mv rfl (q_slc_m (xs := xs) (f := opP) 0 (bs.length % xs.length) rfl rfl rfl ⟨rfl, by omega, by omega, by omega⟩ (fun _ => rfl) ?_)))))))))))))))
    refine q_mv rfl (q_mv rfl (q_add rfl rfl (inR64 (by omega)) (q_slc_m (xs := xs) (f := opP) ((bs.length % xs.length) + 1) xs.length rfl rfl rfl ⟨by omega, by simp, by omega, by omega⟩ (fun _ => rfl) (q_app_zm (ys := (xs.take (bs.length % xs.length)).drop 0) (f := fun k => .pv (opP k)) rfl (elems_O _) (cell_O _) ⟨by simp; omega, by simp; omega⟩ Sub.nil (q_app_dm (xs := (xs.take (bs.length % xs.length)).drop 0) (ys := (xs.take xs.length).drop ((bs.length % xs.length) + 1)) (f := fun k => .pv (opP k)) rfl (elems_O _) (cell_O _) rfl ⟨by simp; omega, by simp; omega⟩ Sub.nil ?_)))))
    refine q_calll (x := .bool true) rfl ((c_impl_ValidOps ((xs.take (bs.length % xs.length)).drop 0 ++ (xs.take xs.length).drop ((bs.length % xs.length) + 1)) (by simp; omega)).to (y := .bool true) (by rw [List.drop_zero, List.take_length, ops_cut hv hK])) (by (repeat' (first | exact toRs_nil | refine toRs_cons ?_ ?_ | rfl | exact toR_I rfl | exact toR_P rfl | exact toR_G rfl | exact toR_O rfl | refine toR_agg2 ?_ ?_ | refine toR_agg3 ?_ ?_ ?_))) rfl Sub.nil ?_
    refine q_mv rfl (q_t rfl (q_callp (x := .bool true) ((c_impl_ValidOps [] (by simp)).to (y := .bool true) rfl) rfl Sub.nil (q_pick_t rfl rfl (q_mv rfl (rg_nil (VS_ret ?_))))))
    exact Bd.now ⟨_, rfl, rfl⟩
theorem sl_laws_FnValidOpsReads : slimF prog 6 = some (49, (.seq (.reg 0 (.o 2 (.mv (.c (.pv (.bool false)))) .nil)) (.seq (.seq (.reg 0 (.o 7 (.mv (.t 0)) (.o 8 (.len (.t 7)) (.o 9 (.bin .gtr (.t 8) (.c (.pv (.int .i64 1048576)))) .nil)))) (.cond (.t 9) (.seq (.reg 0 (.o 2 (.mv (.c (.pv (.bool true)))) .nil)) .ret) .skip)) (.seq (.reg 0 (.o 10 (.mv (.t 0)) (.o 11 (.call 16 [.t 10]) (.o 3 (.mv (.t 11)) .nil)))) (.seq (.reg 0 (.o 12 (.mv (.t 3)) (.o 13 (.call 17 [.t 12]) (.o 4 (.mv (.t 13)) .nil)))) (.seq (.seq (.reg 0 (.o 14 (.mv (.t 4)) (.o 15 (.mv (.t 3)) (.o 16 (.call 18 [.t 15]) (.o 17 (.beq true (.t 14) (.t 16)) (.o 18 (.mv (.t 17)) (.g 19 18 false (.mv (.t 4)) (.g 20 18 false (.not (.t 19)) (.o 21 (.pick (.t 18) (.c (.pv (.bool true))) (.t 20)) .nil))))))))) (.cond (.t 21) (.seq (.reg 0 (.o 22 (.mv (.t 4)) (.o 23 (.mv (.t 3)) (.o 24 (.call 18 [.t 23]) (.o 25 (.beq false (.t 22) (.t 24)) (.o 2 (.mv (.t 25)) .nil)))))) .ret) .skip)) (.seq (.reg 0 (.o 26 (.lit 36 3 0 [.pv (.int .i64 0), .pv (.int .i64 0), .pv (.int .i64 0)] []) (.o 5 (.mv (.t 26)) .nil))) (.seq (.seq (.reg 0 (.o 6 (.mv (.c (.pv (.int .i64 0)))) .nil)) (.block 0 (.loop (.seq (.seq (.reg 0 (.o 27 (.mv (.t 6)) (.o 28 (.mv (.t 3)) (.o 29 (.len (.t 28)) (.o 30 (.bin .lss (.t 27) (.t 29)) .nil))))) (.cond (.t 30) .skip (.exit 0))) (.seq (.block 1 (.reg 0 (.o 33 (.mv (.t 5)) (.o 34 (.mv (.t 3)) (.o 35 (.mv (.t 6)) (.o 36 (.idx 3 (.t 34) (.t 35)) (.o 37 (.fld 1 1 false (.t 36)) (.o 38 (.load 1 false (.t 37)) (.o 39 (.build [.pv (.int .i64 0), .pv (.int .i64 0), .pv (.int .i64 0)] [(1, (1, .t 38))]) (.o 40 (.lit 36 3 1 [.pv (.int .i64 0), .pv (.int .i64 0), .pv (.int .i64 0)] [(0, .t 39)]) (.o 41 (.app 36 3 24 (.t 33) (.t 40)) (.o 5 (.mv (.t 41)) .nil)))))))))))) (.reg 0 (.o 31 (.mv (.t 6)) (.o 32 (.bin .add (.t 31) (.c (.pv (.int .i64 1)))) (.o 6 (.mv (.t 32)) .nil))))))))) (.seq (.reg 0 (.o 42 (.mv (.t 5)) (.o 43 (.call 17 [.t 42]) (.o 44 (.mv (.t 43)) (.g 45 44 true (.mv (.t 3)) (.g 46 44 true (.len (.t 45)) (.g 47 44 true (.bin .leq (.t 46) (.c (.pv (.int .i64 4)))) (.o 48 (.pick (.t 44) (.t 47) (.c (.pv (.bool false)))) (.o 2 (.mv (.t 48)) .nil))))))))) .ret))))))), [.t 2])) := by kernel_rfl
theorem c_laws_FnValidOpsReads (bs : List Int) (hb : isU8 bs) : PCon prog 6 [u8s bs] (fun p => p = .bool true) := by
 refine con_of_VS sl_laws_FnValidOpsReads (by simp) (VS_seq (VS_r0 rfl (q_mv rfl (rg_nil (VS_seq (VS_seq (VS_r0 rfl (q_mv rfl (q_len_m rfl (q_gtr rfl rfl (rg_nil ?_)))))))))))
 refine VS_cond rfl (fun c0 => ?_) (fun c0 => ?_)
 ·try simp at c0
  refine VS_seq (VS_r0 rfl (q_mv rfl (rg_nil (VS_ret ?_))))
  exact Bd.now ⟨_, rfl, rfl⟩
 ·try simp at c0
  refine VS_skip (VS_seq (VS_r0 rfl (q_mv rfl (q_calle rfl (c_spec_DrawValidOps bs hb (by omega)) rfl trivial ?_))))
  rintro _ ⟨xs, rfl, hx⟩
  refine q_mv rfl (rg_nil (VS_seq ?_))
  cases hv : okOps xs
  ·skip
   refine VS_r0 rfl (q_mv rfl (q_callp (x := .bool false) ((c_impl_ValidOps xs (by omega)).to (y := .bool false) (by rw [hv])) rfl trivial (q_mv rfl (rg_nil (VS_seq (VS_seq (VS_r0 rfl (q_mv rfl (q_mv rfl (q_callp (x := .bool false) ((c_spec_ValidOps xs (by omega)).to (y := .bool false) (by rw [hv])) rfl trivial (q_beq_v false rfl rfl (by simp) (q_mv rfl (q_t rfl (q_mv rfl (q_t rfl ?_)))))))))))))))
   refine q_not rfl (q_pick_f rfl rfl (rg_nil ?_))
   refine VS_cond rfl (fun _ => ?_) (fun e => by cases e)
   refine VS_seq (VS_r0 rfl (q_mv rfl (q_mv rfl (q_callp (x := .bool false) ((c_spec_ValidOps xs (by omega)).to (y := .bool false) (by rw [hv])) rfl trivial (q_beq_v true rfl rfl (by simp) (q_mv rfl (rg_nil (VS_ret ?_))))))))
   exact Bd.now ⟨_, rfl, rfl⟩
  ·skip
   have hx4 := ops_len hv
   refine VS_r0 rfl (q_mv rfl (q_callp (x := .bool true) ((c_impl_ValidOps xs (by omega)).to (y := .bool true) (by rw [hv])) rfl trivial (q_mv rfl (rg_nil (VS_seq (VS_seq (VS_r0 rfl (q_mv rfl (q_mv rfl (q_callp (x := .bool true) ((c_spec_ValidOps xs (by omega)).to (y := .bool true) (by rw [hv])) rfl trivial (q_beq_v false rfl rfl (by simp) (q_mv rfl (q_t rfl (q_mv rfl (q_t rfl ?_)))))))))))))))
   refine q_not rfl (q_pick_f rfl rfl (rg_nil ?_))
   refine VS_cond rfl (fun e => by cases e) (fun _ => ?_)
   refine VS_skip (VS_seq (VS_r0 rfl (q_lit0 (q_mv rfl (rg_nil (VS_seq (VS_seq (VS_r0 rfl (q_mv rfl (rg_nil (VS_block ?_)))))))))))
   refine VS_bd (Bd.pad ?_)
   refine VS_bd (Bd.keepL [(3, .pv (ops xs)), (5, ownD 0 (dO ([]))), (6, .pv (i64 0))] ⟨rfl, rfl, rfl, trivial⟩ ?_)
   refine VS_loop (fun mz E S => ∃ i : Nat, ∃ ys : List Op3, mz = xs.length - i ∧ (i ≤ xs.length) ∧ (ys = (xs.take i).map readO) ∧ (ys.length = i) ∧ E = env [(3, .pv (ops xs)), (5, ownD 0 (dO ys)), (6, .pv (i64 i))] ∧ S = [obD 36 3 (dO ys)]) ⟨_, 0, [], rfl, (by omega), rfl, rfl, rfl, rfl⟩ ?_
   rintro mz _ _ ⟨i, ys, hmeas, g0, g1, g2, rfl, rfl⟩
   refine VS_seq (VS_seq (VS_r0 rfl (q_mv rfl (q_mv rfl (q_len_m rfl (q_lss rfl rfl (rg_nil ?_)))))))
   refine VS_cond rfl (fun c2 => ?_) (fun c2 => ?_)
   ·try simp at c2
    refine VS_skip (VS_seq (VS_block (VS_r0 rfl (q_mv rfl (q_mv rfl (q_mv rfl (q_idx_m (f := opP) (xs := xs) (n := (i : Int)) rfl rfl (by omega) (by omega) (fun _ => rfl) ?_)))))))
    rw [Int.toNat_natCast]
    refine q_fld_c rfl rfl (q_load_c rfl rfl rfl (q_build rfl (q_lit (xs := [opP (readO (nth xs i))]) rfl rfl rfl rfl (q_app_dm (xs := ys) (ys := [readO (nth xs i)]) (f := fun k => .pv (opP k)) rfl rfl rfl rfl ⟨by simp; omega, by simp; omega⟩ trivial (q_mv rfl (rg_nil (VS_r0 rfl (q_mv rfl (q_add rfl rfl (inR64 (by omega)) (q_mv rfl (rg_nil ?_)))))))))))
    refine Bd.renL [1] (zco _) (by simp) [(3, .pv (ops xs)), (5, ownD 0 (dO (ys ++ [readO (nth xs i)]))), (6, .pv (i64 (i + 1)))] ⟨rfl, inv_own rfl, rfl, trivial⟩ (l1 (obD_mO _)) ⟨_, ?_, i + 1, ys ++ [readO (nth xs i)], rfl, ?_, ?_, ?_, rfl, rfl⟩
    ·omega
    ·omega
    ·rw [take_succ_nth (by omega), g1]; simp
    ·simp; omega
   ·try simp at c2
    refine VS_exit (VS_seq (VS_r0 rfl (q_mv rfl ?_)))
    refine q_calll (x := .bool true) rfl ((c_impl_ValidOps ys (by omega)).to (y := .bool true) (by rw [show ys = xs.map readO by rw [g1, List.take_of_length_le (by omega)], ops_reads hv])) (by (repeat' (first | exact toRs_nil | refine toRs_cons ?_ ?_ | rfl | exact toR_I rfl | exact toR_P rfl | exact toR_G rfl | exact toR_O rfl | refine toR_agg2 ?_ ?_ | refine toR_agg3 ?_ ?_ ?_))) rfl trivial ?_
    refine q_mv rfl (q_t rfl (q_mv rfl (q_t rfl (q_len_m rfl (q_t rfl (q_leq_v true rfl rfl (decide_eq_true (by omega)) (q_pick_t rfl rfl (q_mv rfl (rg_nil (VS_ret ?_))))))))))
    exact Bd.now ⟨_, rfl, rfl⟩
end Go.V
