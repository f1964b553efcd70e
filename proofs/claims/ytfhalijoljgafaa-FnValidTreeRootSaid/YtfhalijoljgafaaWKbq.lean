/- A part of the proofs about laws of the page tree (see the text that bears the law): a small language of steps, its rules, and what the functions of the program return. -/
import Derived.Test.YtfhalijoljgafaaWKbn
import Derived.Test.YtfhalijoljgafaaQM
import Derived.Test.YtfhalijoljgafaaWC
set_option linter.all false
set_option linter.unusedVariables false
set_option linter.unusedSimpArgs false
set_option maxHeartbeats 4000000
namespace Go.V
open Go.Proofs.Try (prog)
theorem zbq (os : List Nat) : ∀ i, i < 0 → os[i]? = some i := fun i hi => absurd hi (Nat.not_lt_zero i)
set_option maxRecDepth 100000
theorem sl_laws_FnLeavesOfPairs : slimF prog 10 = some (66, (.seq (.reg 0 (.o 2 (.mv (.c (.pv (.bool false)))) .nil)) (.seq (.seq (.reg 0 (.o 7 (.mv (.t 0)) (.o 8 (.len (.t 7)) (.o 9 (.bin .gtr (.t 8) (.c (.pv (.int .i64 1048576)))) .nil)))) (.cond (.t 9) (.seq (.reg 0 (.o 2 (.mv (.c (.pv (.bool true)))) .nil)) .ret) .skip)) (.seq (.reg 0 (.o 10 (.mv (.t 0)) (.o 11 (.call 19 [.t 10]) (.o 3 (.alloc 25 2 (.agg [.pv (.int .i64 0), .nils])) (.op ⟨none, none, .store 2 (.t 3) (.t 11)⟩ .nil))))) (.seq (.reg 0 (.o 12 (.load 2 true (.t 3)) (.o 13 (.call 20 [.t 12]) (.o 4 (.mv (.t 13)) .nil)))) (.seq (.seq (.reg 0 (.o 14 (.mv (.t 4)) (.o 15 (.load 2 true (.t 3)) (.o 16 (.call 22 [.t 15]) (.o 17 (.call 21 [.t 14, .t 16]) (.o 18 (.not (.t 17)) (.o 19 (.mv (.t 18)) (.g 20 19 false (.load 2 true (.t 3)) (.g 21 19 false (.call 16 [.t 20]) (.g 22 19 false (.not (.t 21)) (.o 23 (.pick (.t 19) (.c (.pv (.bool true))) (.t 22)) .nil))))))))))) (.cond (.t 23) (.seq (.reg 0 (.o 24 (.mv (.t 4)) (.o 25 (.load 2 true (.t 3)) (.o 26 (.call 22 [.t 25]) (.o 27 (.call 21 [.t 24, .t 26]) (.o 2 (.mv (.t 27)) .nil)))))) .ret) .skip)) (.seq (.reg 0 (.o 28 (.lit 3 1 0 [.pv (.int .i64 0)] []) (.o 5 (.mv (.t 28)) .nil))) (.seq (.seq (.reg 0 (.o 6 (.mv (.c (.pv (.int .i64 0)))) .nil)) (.block 0 (.loop (.seq (.seq (.reg 0 (.o 29 (.mv (.t 6)) (.o 30 (.mv (.t 4)) (.o 31 (.len (.t 30)) (.o 32 (.bin .lss (.t 29) (.t 31)) .nil))))) (.cond (.t 32) .skip (.exit 0))) (.seq (.block 1 (.seq (.seq (.reg 1 (.o 35 (.mv (.t 4)) (.o 36 (.mv (.t 6)) (.o 37 (.idx 1 (.t 35) (.t 36)) (.o 38 (.load 1 false (.t 37)) (.o 39 (.bin .lss (.t 38) (.c (.pv (.int .i64 0)))) (.o 40 (.mv (.t 39)) (.g 41 40 false (.mv (.t 4)) (.g 42 40 false (.mv (.t 6)) (.g 43 40 false (.idx 1 (.t 41) (.t 42)) (.g 44 40 false (.load 1 false (.t 43)) (.g 45 40 false (.fld 1 1 false (.t 3)) (.g 46 40 false (.load 1 false (.t 45)) (.g 47 40 false (.len (.t 46)) (.g 48 40 false (.bin .geq (.t 44) (.t 47)) (.o 49 (.pick (.t 40) (.c (.pv (.bool true))) (.t 48)) .nil)))))))))))))))) (.cond (.t 49) (.seq (.reg 0 (.o 2 (.mv (.c (.pv (.bool false)))) .nil)) .ret) .skip)) (.reg 2 (.o 50 (.mv (.t 5)) (.o 51 (.fld 1 1 false (.t 3)) (.o 52 (.load 1 false (.t 51)) (.o 53 (.mv (.t 4)) (.o 54 (.mv (.t 6)) (.o 55 (.idx 1 (.t 53) (.t 54)) (.o 56 (.load 1 false (.t 55)) (.o 57 (.idx 3 (.t 52) (.t 56)) (.o 58 (.fld 0 1 false (.t 57)) (.o 59 (.load 1 false (.t 58)) (.o 60 (.app 3 1 8 (.t 50) (.t 59)) (.o 5 (.mv (.t 60)) .nil))))))))))))))) (.reg 0 (.o 33 (.mv (.t 6)) (.o 34 (.bin .add (.t 33) (.c (.pv (.int .i64 1)))) (.o 6 (.mv (.t 34)) .nil))))))))) (.seq (.reg 0 (.o 61 (.load 2 true (.t 3)) (.o 62 (.call 26 [.t 61]) (.o 63 (.call 34 [.t 62]) (.o 64 (.mv (.t 5)) (.o 65 (.call 21 [.t 63, .t 64]) (.o 2 (.mv (.t 65)) .nil))))))) .ret))))))), [.t 2])) := by kernel_rfl
theorem c_laws_FnLeavesOfPairs (bs : List Int) (hb : isU8 bs) : PCon prog 10 [u8s bs] (fun p => p = .bool true) := by
  refine con_of_VS sl_laws_FnLeavesOfPairs (by simp) (VS_seq (VS_r0 rfl (q_mv rfl (rg_nil (VS_seq (VS_seq (VS_r0 rfl (q_mv rfl (q_len_m rfl (q_gtr rfl rfl (rg_nil ?_)))))))))))
  refine VS_cond rfl (fun c0 => ?_) (fun c0 => ?_)
  · try simp at c0
    refine VS_seq (VS_r0 rfl (q_mv rfl (rg_nil (VS_ret ?_))))
    exact Bd.now ⟨_, rfl, rfl⟩
  · try simp at c0
    refine VS_skip (VS_seq (VS_r0 rfl (q_mv rfl (q_calle rfl (c_spec_DrawLeavesOf bs hb (by omega)) rfl trivial ?_))))
    rintro _ ⟨t, rfl, ha⟩
    refine q_alloc trivial (q_store rfl rfl rfl rfl rfl rfl ⟨rfl, rfl, by simp, rfl, by simp [isOne]⟩ rfl trivial (rg_nil (VS_seq ?_)))
    cases hv : validT t
    · skip
      have hs := ha.small
      have hll := lvV_len (t := t)
      have hpl := prV_len (t := t)
      refine VS_r0 rfl (q_load_ra rfl rfl rfl rfl rfl (by (simp [setAt]; done)) rfl (q_callp (c_impl_LeavesOf t hs) rfl trivial (q_mv rfl (rg_nil (VS_seq (VS_seq (VS_r0 rfl (q_mv rfl (q_load_ra rfl rfl rfl rfl rfl (by (simp [setAt]; done)) rfl (q_callp (c_spec_LeavesOf t hs) rfl trivial (q_callp (x := .bool true) ((c_laws_equalInts _ _ (by omega) (by omega)).eqT (by rfl)) rfl trivial (q_not rfl (q_mv rfl (q_t rfl (q_load_ra rfl rfl rfl rfl rfl (by (simp [setAt]; done)) rfl ?_)))))))))))))))
      refine q_t rfl (q_callp (x := .bool false) ((c_impl_ValidTree t hs).to (y := .bool false) (by rw [hv])) rfl trivial (q_t rfl (q_not rfl (q_pick_f rfl rfl (rg_nil ?_)))))
      refine VS_cond rfl (fun _ => ?_) (fun e => by cases e)
      refine VS_seq (VS_r0 rfl (q_mv rfl (q_load_ra rfl rfl rfl rfl rfl (by (simp [setAt]; done)) rfl (q_callp (c_spec_LeavesOf t hs) rfl trivial (q_callp (x := .bool true) ((c_laws_equalInts _ _ (by omega) (by omega)).eqT (by rfl)) rfl trivial (q_mv rfl (rg_nil (VS_ret ?_))))))))
      exact Bd.now ⟨_, rfl, rfl⟩
    · skip
      have hs := ha.small
      have hll := lvV_len (t := t)
      have hpl := prV_len (t := t)
      refine VS_r0 rfl (q_load_ra rfl rfl rfl rfl rfl (by (simp [setAt]; done)) rfl (q_callp (c_impl_LeavesOf t hs) rfl trivial (q_mv rfl (rg_nil (VS_seq (VS_seq (VS_r0 rfl (q_mv rfl (q_load_ra rfl rfl rfl rfl rfl (by (simp [setAt]; done)) rfl (q_callp (c_spec_LeavesOf t hs) rfl trivial (q_callp (x := .bool true) ((c_laws_equalInts _ _ (by omega) (by omega)).eqT (by rfl)) rfl trivial (q_not rfl (q_mv rfl (q_t rfl (q_load_ra rfl rfl rfl rfl rfl (by (simp [setAt]; done)) rfl ?_)))))))))))))))
      refine q_t rfl (q_callp (x := .bool true) ((c_impl_ValidTree t hs).to (y := .bool true) (by rw [hv])) rfl trivial (q_t rfl (q_not rfl (q_pick_f rfl rfl (rg_nil ?_)))))
      refine VS_cond rfl (fun e => by cases e) (fun _ => ?_)
      refine VS_skip (VS_seq (VS_r0 rfl (q_lit0 (q_mv rfl (rg_nil (VS_seq (VS_seq (VS_r0 rfl (q_mv rfl (rg_nil (VS_block ?_)))))))))))
      refine VS_bd (Bd.pad ?_)
      refine VS_bd (Bd.keepL [(3, .ptr 0 0 0), (4, .pv (ints (lvV t))), (5, ownD 1 (dI ([]))), (6, .pv (i64 0))] ⟨rfl, rfl, rfl, rfl, trivial⟩ ?_)
      refine VS_loop (fun mz E S => ∃ j : Nat, ∃ ks : List Int, mz = (lvV t).length - j ∧ (j ≤ (lvV t).length) ∧ (ks = ((lvV t).take j).flatMap fun i => (pg t i).ks) ∧ (ks.length ≤ 4 * j) ∧ E = env [(3, .ptr 0 0 0), (4, .pv (ints (lvV t))), (5, ownD 1 (dI ks)), (6, .pv (i64 j))] ∧ S = [some ⟨25, 2, [.agg [.pv (i64 t.r), .pv (pgsP t.ps)]]⟩, obD 3 1 (dI ks)]) ⟨_, 0, [], rfl, (by omega), rfl, (by simp), rfl, rfl⟩ ?_
      rintro mz _ _ ⟨j, ks, hmeas, g0, g1, g2, rfl, rfl⟩
      refine VS_seq (VS_seq (VS_r0 rfl (q_mv rfl (q_mv rfl (q_len_m rfl (q_lss rfl rfl (rg_nil ?_)))))))
      refine VS_cond rfl (fun c2 => ?_) (fun c2 => ?_)
      · try simp at c2
        have hat := lvV_at (t := t) (j := j) (by omega)
        have hat2 := hat.1
        have hks : (nth t.ps (nth (lvV t) j).toNat).ks.length ≤ 4 := hat.2.2
        refine VS_skip (VS_seq (VS_block (VS_seq (VS_seq (VS_r1 hmix rfl (q_mv rfl (q_mv rfl (q_idx_m (f := fun k => i64 k) (xs := lvV t) (n := (j : Int)) rfl rfl (by omega) (by omega) (fun _ => rfl) (q_load_c rfl rfl rfl (q_lss rfl rfl (q_mv rfl ?_)))))))))))
        refine q_b rfl (fun g40 => ?_) (fun g40 => ?_)
        · try simp at g40
          refine q_t rfl (q_mv rfl (q_t rfl (q_mv rfl (q_t rfl (q_idx_m (f := fun k => i64 k) (xs := lvV t) (n := (j : Int)) rfl rfl (by omega) (by omega) (fun _ => rfl) (q_t rfl (q_load_c rfl rfl rfl (q_t rfl (q_fld_r rfl (q_t rfl (q_load_r rfl rfl rfl rfl rfl rfl rfl (q_t rfl (q_len_m rfl (q_t rfl (q_geq rfl rfl ?_)))))))))))))))
          refine q_pick_f rfl rfl (rg_nil ?_)
          refine VS_cond rfl (fun c3 => ?_) (fun c3 => ?_)
          · exfalso; simp at c3; omega
          · try simp at c3
            refine VS_skip (VS_r2 [some ⟨25, 2, [.agg [.pv (i64 t.r), .pv (pgsP t.ps)]]⟩] hmix (SubL.sub (by repeat constructor)) (q_mv rfl (q_fld_r rfl (q_load_r rfl rfl rfl rfl rfl rfl rfl (q_mv rfl (q_mv rfl (q_idx_m (f := fun k => i64 k) (xs := lvV t) (n := (j : Int)) rfl rfl (by omega) (by omega) (fun _ => rfl) (q_load_c rfl rfl rfl (q_idx_m (f := pgP) (xs := t.ps) (n := nth (lvV t) j) rfl rfl (by omega) (by omega) (fun _ => rfl) (q_fld_c rfl rfl (q_load_c rfl rfl rfl (q_app_dm (xs := ks) (ys := (nth t.ps (nth (lvV t) j).toNat).ks) (f := fun k => .pv (i64 k)) rfl (elems_I _) (cell_I _) rfl ⟨by omega, by omega⟩ (Sub.app _ _) (q_mv rfl (rg_nil (VS_r0 rfl ?_)))))))))))))))
            refine q_mv rfl (q_add rfl rfl (inR64 (by omega)) (q_mv rfl (rg_nil ?_)))
            refine Bd.renL [0, 2] (zbq _) (by simp) [(3, .ptr 0 0 0), (4, .pv (ints (lvV t))), (5, ownD 1 (dI (ks ++ (nth t.ps (nth (lvV t) j).toNat).ks))), (6, .pv (i64 (j + 1)))] ⟨rfl, rfl, inv_own rfl, rfl, trivial⟩ (l2 rfl (obD_mI _)) ⟨_, ?_, j + 1, ks ++ (nth t.ps (nth (lvV t) j).toNat).ks, rfl, ?_, ?_, ?_, rfl, rfl⟩
            · omega
            · omega
            · rw [flat_take (by omega), g1]
            · simp; omega
        · exfalso; first | (simp at g40; done) | omega | (simp_all; done) | (simp_all; omega)
      · try simp at c2
        refine VS_exit (VS_seq (VS_r0 rfl (q_load_ra rfl rfl rfl rfl rfl (by (simp; done)) rfl (q_callp (c_impl_PairsOf t hs) rfl trivial (q_callp (c_laws_keysOf (prV t) (by omega)) rfl trivial (q_mv rfl ?_))))))
        refine q_calll (x := .bool true) rfl ((c_laws_equalInts (keysR (prV t)) ks (by simp; omega) (by omega)).eqT (by rw [keys_flat, g1, show j = (lvV t).length by omega, List.take_length])) (by (repeat' (first | exact toRs_nil | refine toRs_cons ?_ ?_ | rfl | exact toR_I rfl | exact toR_P rfl | exact toR_G rfl | refine toR_agg2 ?_ ?_ | refine toR_agg3 ?_ ?_ ?_))) rfl trivial ?_
        refine q_mv rfl (rg_nil (VS_ret ?_))
        exact Bd.now ⟨_, rfl, rfl⟩
theorem sl_laws_FnValidTreeRoot : slimF prog 4 = some (65, (.seq (.reg 0 (.o 2 (.mv (.c (.pv (.bool false)))) .nil)) (.seq (.seq (.reg 0 (.o 8 (.mv (.t 0)) (.o 9 (.len (.t 8)) (.o 10 (.bin .gtr (.t 9) (.c (.pv (.int .i64 1048576)))) .nil)))) (.cond (.t 10) (.seq (.reg 0 (.o 2 (.mv (.c (.pv (.bool true)))) .nil)) .ret) .skip)) (.seq (.reg 0 (.o 11 (.mv (.t 0)) (.o 12 (.call 15 [.t 11]) (.o 3 (.alloc 25 2 (.agg [.pv (.int .i64 0), .nils])) (.op ⟨none, none, .store 2 (.t 3) (.t 12)⟩ .nil))))) (.seq (.reg 0 (.o 13 (.load 2 true (.t 3)) (.o 14 (.call 16 [.t 13]) (.o 4 (.mv (.t 14)) .nil)))) (.seq (.seq (.reg 0 (.o 15 (.mv (.t 4)) (.o 16 (.load 2 true (.t 3)) (.o 17 (.call 17 [.t 16]) (.o 18 (.beq true (.t 15) (.t 17)) (.o 19 (.mv (.t 18)) (.g 20 19 false (.mv (.t 4)) (.g 21 19 false (.not (.t 20)) (.o 22 (.pick (.t 19) (.c (.pv (.bool true))) (.t 21)) .nil))))))))) (.cond (.t 22) (.seq (.reg 0 (.o 23 (.mv (.t 4)) (.o 24 (.load 2 true (.t 3)) (.o 25 (.call 17 [.t 24]) (.o 26 (.beq false (.t 23) (.t 25)) (.o 2 (.mv (.t 26)) .nil)))))) .ret) .skip)) (.seq (.reg 0 (.o 27 (.lit 3 1 0 [.pv (.int .i64 0)] []) (.o 5 (.mv (.t 27)) .nil))) (.seq (.seq (.reg 0 (.o 6 (.mv (.c (.pv (.int .i64 0)))) .nil)) (.block 0 (.loop (.seq (.seq (.reg 0 (.o 28 (.mv (.t 6)) (.o 29 (.fld 1 1 false (.t 3)) (.o 30 (.load 1 false (.t 29)) (.o 31 (.len (.t 30)) (.o 32 (.bin .lss (.t 28) (.t 31)) .nil)))))) (.cond (.t 32) .skip (.exit 0))) (.seq (.block 1 (.reg 0 (.o 35 (.mv (.t 5)) (.o 36 (.fld 1 1 false (.t 3)) (.o 37 (.load 1 false (.t 36)) (.o 38 (.mv (.t 6)) (.o 39 (.idx 3 (.t 37) (.t 38)) (.o 40 (.fld 1 1 false (.t 39)) (.o 41 (.load 1 false (.t 40)) (.o 42 (.app 3 1 8 (.t 35) (.t 41)) (.o 5 (.mv (.t 42)) .nil))))))))))) (.reg 0 (.o 33 (.mv (.t 6)) (.o 34 (.bin .add (.t 33) (.c (.pv (.int .i64 1)))) (.o 6 (.mv (.t 34)) .nil))))))))) (.seq (.seq (.reg 0 (.o 7 (.mv (.c (.pv (.int .i64 0)))) .nil)) (.block 2 (.loop (.seq (.seq (.reg 0 (.o 43 (.mv (.t 7)) (.o 44 (.fld 1 1 false (.t 3)) (.o 45 (.load 1 false (.t 44)) (.o 46 (.len (.t 45)) (.o 47 (.bin .lss (.t 43) (.t 46)) .nil)))))) (.cond (.t 47) .skip (.exit 2))) (.seq (.block 3 (.seq (.reg 2 (.o 50 (.mv (.t 5)) (.o 51 (.mv (.t 7)) (.o 53 (.mv (.t 7)) (.o 54 (.fld 0 1 false (.t 3)) (.o 55 (.load 1 false (.t 54)) (.o 56 (.bin .neq (.t 53) (.t 55)) (.o 52 (.call 18 [.t 50, .t 51]) (.o 57 (.beq true (.t 52) (.t 56)) .nil))))))))) (.cond (.t 57) (.seq (.reg 0 (.o 2 (.mv (.c (.pv (.bool false)))) .nil)) .ret) .skip))) (.reg 0 (.o 48 (.mv (.t 7)) (.o 49 (.bin .add (.t 48) (.c (.pv (.int .i64 1)))) (.o 7 (.mv (.t 49)) .nil))))))))) (.seq (.reg 0 (.o 58 (.mv (.t 5)) (.o 59 (.len (.t 58)) (.o 60 (.fld 1 1 false (.t 3)) (.o 61 (.load 1 false (.t 60)) (.o 62 (.len (.t 61)) (.o 63 (.bin .sub (.t 62) (.c (.pv (.int .i64 1)))) (.o 64 (.bin .eql (.t 59) (.t 63)) (.o 2 (.mv (.t 64)) .nil))))))))) .ret)))))))), [.t 2])) := by kernel_rfl
theorem c_laws_FnValidTreeRoot (bs : List Int) (hb : isU8 bs) : PCon prog 4 [u8s bs] (fun p => p = .bool true) := by
  refine con_of_VS sl_laws_FnValidTreeRoot (by simp) (VS_seq (VS_r0 rfl (q_mv rfl (rg_nil (VS_seq (VS_seq (VS_r0 rfl (q_mv rfl (q_len_m rfl (q_gtr rfl rfl (rg_nil ?_)))))))))))
  refine VS_cond rfl (fun c0 => ?_) (fun c0 => ?_)
  · try simp at c0
    refine VS_seq (VS_r0 rfl (q_mv rfl (rg_nil (VS_ret ?_))))
    exact Bd.now ⟨_, rfl, rfl⟩
  · try simp at c0
    refine VS_skip (VS_seq (VS_r0 rfl (q_mv rfl (q_calle rfl (c_spec_DrawValidTree bs hb (by omega)) rfl trivial ?_))))
    rintro _ ⟨t, rfl, ha⟩
    refine q_alloc trivial (q_store rfl rfl rfl rfl rfl rfl ⟨rfl, rfl, by simp, rfl, by simp [isOne]⟩ rfl trivial (rg_nil (VS_seq ?_)))
    cases hv : validT t
    · skip
      have hs := ha.small
      refine VS_r0 rfl (q_load_ra rfl rfl rfl rfl rfl (by (simp [setAt]; done)) rfl (q_callp (x := .bool false) ((c_impl_ValidTree t hs).to (y := .bool false) (by rw [hv])) rfl trivial (q_mv rfl (rg_nil (VS_seq (VS_seq (VS_r0 rfl (q_mv rfl (q_load_ra rfl rfl rfl rfl rfl (by (simp [setAt]; done)) rfl (q_callp (x := .bool false) ((c_spec_ValidTree t hs).to (y := .bool false) (by rw [hv])) rfl trivial (q_beq_v false rfl rfl (rfl) (q_mv rfl (q_t rfl (q_mv rfl (q_t rfl ?_)))))))))))))))
      refine q_not rfl (q_pick_f rfl rfl (rg_nil ?_))
      refine VS_cond rfl (fun _ => ?_) (fun e => by cases e)
      refine VS_seq (VS_r0 rfl (q_mv rfl (q_load_ra rfl rfl rfl rfl rfl (by (simp [setAt]; done)) rfl (q_callp (x := .bool false) ((c_spec_ValidTree t hs).to (y := .bool false) (by rw [hv])) rfl trivial (q_beq_v true rfl rfl (rfl) (q_mv rfl (rg_nil (VS_ret ?_))))))))
      exact Bd.now ⟨_, rfl, rfl⟩
    · skip
      have hs := ha.small
      have hak := all_kids hv
      have hm := ha.many
      have h1l := (valid_ok hv).1
      refine VS_r0 rfl (q_load_ra rfl rfl rfl rfl rfl (by (simp [setAt]; done)) rfl (q_callp (x := .bool true) ((c_impl_ValidTree t hs).to (y := .bool true) (by rw [hv])) rfl trivial (q_mv rfl (rg_nil (VS_seq (VS_seq (VS_r0 rfl (q_mv rfl (q_load_ra rfl rfl rfl rfl rfl (by (simp [setAt]; done)) rfl (q_callp (x := .bool true) ((c_spec_ValidTree t hs).to (y := .bool true) (by rw [hv])) rfl trivial (q_beq_v false rfl rfl (rfl) (q_mv rfl (q_t rfl (q_mv rfl (q_t rfl ?_)))))))))))))))
      refine q_not rfl (q_pick_f rfl rfl (rg_nil ?_))
      refine VS_cond rfl (fun e => by cases e) (fun _ => ?_)
      refine VS_skip (VS_seq (VS_r0 rfl (q_lit0 (q_mv rfl (rg_nil (VS_seq (VS_seq (VS_r0 rfl (q_mv rfl (rg_nil (VS_block ?_)))))))))))
      refine VS_bd (Bd.pad ?_)
      refine VS_bd (Bd.keepL [(3, .ptr 0 0 0), (5, ownD 1 (dI ([]))), (6, .pv (i64 0))] ⟨rfl, rfl, rfl, trivial⟩ ?_)
      refine VS_loop (fun mz E S => ∃ i : Nat, ∃ ks : List Int, mz = t.ps.length - i ∧ (i ≤ t.ps.length) ∧ (ks = kidsTo t i) ∧ (ks.length ≤ 5 * i) ∧ E = env [(3, .ptr 0 0 0), (5, ownD 1 (dI ks)), (6, .pv (i64 i))] ∧ S = [some ⟨25, 2, [.agg [.pv (i64 t.r), .pv (pgsP t.ps)]]⟩, obD 3 1 (dI ks)]) ⟨_, 0, [], rfl, (by omega), rfl, (by simp), rfl, rfl⟩ ?_
      rintro mz _ _ ⟨i, ks, hmeas, g0, g1, g2, rfl, rfl⟩
      refine VS_seq (VS_seq (VS_r0 rfl (q_mv rfl (q_fld_r rfl (q_load_r rfl rfl rfl rfl rfl rfl rfl (q_len_m rfl (q_lss rfl rfl (rg_nil ?_))))))))
      refine VS_cond rfl (fun c2 => ?_) (fun c2 => ?_)
      · try simp at c2
        have hsc := (valid_small hv (i := i) (by omega)).2.1
        refine VS_skip (VS_seq (VS_block (VS_r0 rfl (q_mv rfl (q_fld_r rfl (q_load_r rfl rfl rfl rfl rfl rfl rfl (q_mv rfl (q_idx_m (f := pgP) (xs := t.ps) (n := (i : Int)) rfl rfl (by omega) (by omega) (fun _ => rfl) ?_))))))))
        rw [Int.toNat_natCast]
        refine q_fld_c rfl rfl (q_load_c rfl rfl rfl (q_app_dm (xs := ks) (ys := (nth t.ps i).cs) (f := fun k => .pv (i64 k)) rfl (elems_I _) (cell_I _) rfl ⟨by omega, by omega⟩ trivial (q_mv rfl (rg_nil (VS_r0 rfl (q_mv rfl (q_add rfl rfl (inR64 (by omega)) (q_mv rfl (rg_nil ?_)))))))))
        refine Bd.renL [0, 2] (zbq _) (by simp) [(3, .ptr 0 0 0), (5, ownD 1 (dI (ks ++ (nth t.ps i).cs))), (6, .pv (i64 (i + 1)))] ⟨rfl, inv_own rfl, rfl, trivial⟩ (l2 rfl (obD_mI _)) ⟨_, ?_, i + 1, ks ++ (nth t.ps i).cs, rfl, ?_, ?_, ?_, rfl, rfl⟩
        · omega
        · omega
        · rw [kidsTo_succ (by omega), g1]
        · simp; omega
      · try simp at c2
        refine VS_exit (VS_seq (VS_seq (VS_r0 rfl (q_mv rfl (rg_nil (VS_block ?_))))))
        have hK : ks = kidsTo t t.ps.length := by rw [g1, show i = t.ps.length by omega]
        refine VS_bd (Bd.keepL [(3, .ptr 0 0 0), (5, ownD 1 (dI ks)), (7, .pv (i64 0))] ⟨rfl, rfl, rfl, trivial⟩ ?_)
        refine VS_loop (fun mz E S => ∃ q : Nat, mz = t.ps.length - q ∧ (q ≤ t.ps.length) ∧ E = env [(3, .ptr 0 0 0), (5, ownD 1 (dI ks)), (7, .pv (i64 q))] ∧ S = [some ⟨25, 2, [.agg [.pv (i64 t.r), .pv (pgsP t.ps)]]⟩, obD 3 1 (dI ks)]) ⟨_, 0, rfl, (by omega), rfl, rfl⟩ ?_
        rintro mz _ _ ⟨q, hmeas, k0, rfl, rfl⟩
        refine VS_seq (VS_seq (VS_r0 rfl (q_mv rfl (q_fld_r rfl (q_load_r rfl rfl rfl rfl rfl rfl rfl (q_len_m rfl (q_lss rfl rfl (rg_nil ?_))))))))
        refine VS_cond rfl (fun c3 => ?_) (fun c3 => ?_)
        · try simp at c3
          refine VS_skip (VS_seq (VS_block (VS_seq (VS_r2 _ hmix (Sub.refl _) (q_mv rfl (q_mv rfl (q_mv rfl (q_fld_r rfl (q_load_r rfl rfl rfl rfl rfl rfl rfl (q_neq rfl rfl ?_))))))))))
          refine q_calll rfl ((c_laws_isIn ks (q : Int) (by omega)).to (y := .bool (!decide ((q : Int) = t.r))) (by rw [hK, hak.2 q (by omega)])) (by (repeat' (first | exact toRs_nil | refine toRs_cons ?_ ?_ | rfl | exact toR_I rfl | exact toR_P rfl | exact toR_G rfl | refine toR_agg2 ?_ ?_ | refine toR_agg3 ?_ ?_ ?_))) rfl (Sub.refl _) ?_
          refine q_beq rfl rfl (rg_nil ?_)
          refine VS_cond rfl (fun c4 => ?_) (fun c4 => ?_)
          · exfalso; simp at c4
          · try simp at c4
            refine VS_skip (VS_r0 rfl (q_mv rfl (q_add rfl rfl (inR64 (by omega)) (q_mv rfl (rg_nil ?_)))))
            refine Bd.keepL [(3, .ptr 0 0 0), (5, ownD 1 (dI ks)), (7, .pv (i64 (q + 1)))] ⟨rfl, rfl, rfl, trivial⟩ ⟨_, ?_, q + 1, rfl, ?_, rfl, rfl⟩
            · omega
            · omega
        · try simp at c3
          refine VS_exit (VS_seq (VS_r0 rfl (q_mv rfl (q_len_dm rfl (q_fld_r rfl (q_load_r rfl rfl rfl rfl rfl rfl rfl (q_len_m rfl (q_sub rfl rfl (inR64 (by omega)) (q_eql rfl rfl (q_mv rfl (rg_nil (VS_ret ?_))))))))))))
          refine Bd.now ⟨_, rfl, ?_⟩
          have h9 := hak.1
          rw [← hK] at h9
          exact congrArg PV.bool (decide_eq_true (by omega))
end Go.V
