/- A part of the proofs about laws of the page tree (see the text that bears the law): a small language of steps, its rules, and what the functions of the program return. -/
import Derived.Test.YtanckppjkbfbfaaWKcg
import Derived.Test.YtanckppjkbfbfaaWC
set_option linter.all false
set_option linter.unusedVariables false
set_option linter.unusedSimpArgs false
set_option maxHeartbeats 4000000
namespace Go.V
open Go.Proofs.Try (prog)
theorem zcj (os : List Nat) : ∀ i, i < 0 → os[i]? = some i := fun i hi => absurd hi (Nat.not_lt_zero i)
set_option maxRecDepth 100000
theorem sl_laws_FnScanKeys : slimF prog 8 = some (87, (.seq (.reg 0 (.o 2 (.mv (.c (.pv (.bool false)))) .nil)) (.seq (.seq (.reg 0 (.o 11 (.mv (.t 0)) (.o 12 (.len (.t 11)) (.o 13 (.bin .gtr (.t 12) (.c (.pv (.int .i64 1048576)))) .nil)))) (.cond (.t 13) (.seq (.reg 0 (.o 2 (.mv (.c (.pv (.bool true)))) .nil)) .ret) .skip)) (.seq (.reg 0 (.o 15 (.mv (.t 0)) (.o 16 (.call 27 [.t 15]) (.o 14 (.mv (.t 16)) (.o 17 (.ext (.t 14) 0) (.o 18 (.ext (.t 14) 1) (.o 19 (.ext (.t 14) 2) (.o 20 (.ext (.t 14) 3) (.o 3 (.alloc 25 2 (.agg [.pv (.int .i64 0), .nils])) (.op ⟨none, none, .store 2 (.t 3) (.t 17)⟩ (.o 4 (.mv (.t 18)) (.o 5 (.mv (.t 19)) (.o 6 (.mv (.t 20)) .nil))))))))))))) (.seq (.reg 0 (.o 21 (.load 2 true (.t 3)) (.o 22 (.mv (.t 4)) (.o 23 (.mv (.t 5)) (.o 24 (.mv (.t 6)) (.o 25 (.call 28 [.t 21, .t 22, .t 23, .t 24]) (.o 7 (.mv (.t 25)) .nil))))))) (.seq (.seq (.reg 0 (.o 26 (.mv (.t 7)) (.o 27 (.load 2 true (.t 3)) (.o 28 (.mv (.t 4)) (.o 29 (.mv (.t 5)) (.o 30 (.mv (.t 6)) (.o 31 (.call 30 [.t 27, .t 28, .t 29, .t 30]) (.o 32 (.call 29 [.t 26, .t 31]) (.o 33 (.not (.t 32)) (.o 34 (.mv (.t 33)) (.g 35 34 false (.load 2 true (.t 3)) (.g 36 34 false (.call 31 [.t 35]) (.g 37 34 false (.not (.t 36)) (.o 38 (.pick (.t 34) (.c (.pv (.bool true))) (.t 37)) .nil)))))))))))))) (.cond (.t 38) (.seq (.reg 0 (.o 39 (.mv (.t 7)) (.o 40 (.load 2 true (.t 3)) (.o 41 (.mv (.t 4)) (.o 42 (.mv (.t 5)) (.o 43 (.mv (.t 6)) (.o 44 (.call 30 [.t 40, .t 41, .t 42, .t 43]) (.o 45 (.call 29 [.t 39, .t 44]) (.o 2 (.mv (.t 45)) .nil))))))))) .ret) .skip)) (.seq (.reg 0 (.o 46 (.lit 47 2 0 [.pv (.int .i64 0), .pv (.int .i64 0)] []) (.o 8 (.mv (.t 46)) .nil))) (.seq (.reg 0 (.o 47 (.load 2 true (.t 3)) (.o 48 (.call 26 [.t 47]) (.o 9 (.mv (.t 48)) .nil)))) (.seq (.seq (.reg 0 (.o 10 (.mv (.c (.pv (.int .i64 0)))) .nil)) (.block 0 (.loop (.seq (.seq (.reg 0 (.o 49 (.mv (.t 10)) (.o 50 (.mv (.t 9)) (.o 51 (.len (.t 50)) (.o 52 (.bin .lss (.t 49) (.t 51)) .nil))))) (.cond (.t 52) .skip (.exit 0))) (.seq (.block 1 (.seq (.reg 0 (.o 55 (.mv (.t 9)) (.o 56 (.mv (.t 10)) (.o 57 (.idx 2 (.t 55) (.t 56)) (.o 58 (.fld 0 1 false (.t 57)) (.o 59 (.load 1 false (.t 58)) (.o 60 (.mv (.t 4)) (.o 61 (.bin .geq (.t 59) (.t 60)) (.o 62 (.mv (.t 61)) (.g 63 62 true (.mv (.t 9)) (.g 64 62 true (.mv (.t 10)) (.g 65 62 true (.idx 2 (.t 63) (.t 64)) (.g 66 62 true (.fld 0 1 false (.t 65)) (.g 67 62 true (.load 1 false (.t 66)) (.g 68 62 true (.mv (.t 5)) (.g 69 62 true (.bin .lss (.t 67) (.t 68)) (.o 70 (.pick (.t 62) (.t 69) (.c (.pv (.bool false)))) .nil))))))))))))))))) (.cond (.t 70) (.reg 0 (.o 71 (.mv (.t 8)) (.o 72 (.mv (.t 9)) (.o 73 (.mv (.t 10)) (.o 74 (.idx 2 (.t 72) (.t 73)) (.o 75 (.load 2 true (.t 74)) (.o 76 (.lit 47 2 1 [.pv (.int .i64 0), .pv (.int .i64 0)] [(0, .t 75)]) (.o 77 (.app 47 2 16 (.t 71) (.t 76)) (.o 8 (.mv (.t 77)) .nil))))))))) .skip))) (.reg 0 (.o 53 (.mv (.t 10)) (.o 54 (.bin .add (.t 53) (.c (.pv (.int .i64 1)))) (.o 10 (.mv (.t 54)) .nil))))))))) (.seq (.reg 0 (.o 78 (.mv (.t 7)) (.o 79 (.mv (.t 8)) (.o 80 (.mv (.t 6)) (.o 81 (.mv (.t 8)) (.o 82 (.len (.t 81)) (.o 83 (.mn (.t 80) (.t 82)) (.o 84 (.mx (.c (.pv (.int .i64 0))) (.t 83)) (.o 85 (.slc 2 (.t 79) none (some (.t 84))) (.o 86 (.call 29 [.t 78, .t 85]) (.o 2 (.mv (.t 86)) .nil))))))))))) .ret)))))))), [.t 2])) := by kernel_rfl
theorem c_laws_FnScanKeys (bs : List Int) (hb : isU8 bs) : PCon prog 8 [u8s bs] (fun p => p = .bool true) := by
 refine con_of_VS sl_laws_FnScanKeys (by simp) (VS_seq (VS_r0 rfl (q_mv rfl (rg_nil (VS_seq (VS_seq (VS_r0 rfl (q_mv rfl (q_len_m rfl (q_gtr rfl rfl (rg_nil ?_)))))))))))
 refine VS_cond rfl (fun c0 => ?_) (fun c0 => ?_)
 ·try simp at c0
  refine VS_seq (VS_r0 rfl (q_mv rfl (rg_nil (VS_ret ?_))))
  exact Bd.now ⟨_, rfl, rfl⟩
 ·try simp at c0
  refine VS_skip (VS_seq (VS_r0 rfl (q_mv rfl (q_calle rfl (c_spec_DrawScanKeys bs hb (by omega)) rfl trivial ?_))))
  rintro _ ⟨t, a, b, m, rfl, ha, qva, qvb, qvm⟩
  refine q_mv rfl (q_ext rfl rfl (q_ext rfl rfl (q_ext rfl rfl (q_ext rfl rfl (q_alloc trivial (q_store rfl rfl rfl rfl rfl rfl ⟨rfl, rfl, by simp, rfl, by simp [isOne]⟩ rfl trivial (q_mv rfl (q_mv rfl (q_mv rfl (rg_nil (VS_seq ?_)))))))))))
  cases hv : validT t
  ·skip
   have hs := ha.small
   have hpl := prV_len (t := t)
   have hkl := keysV_len (t := t)
   have hkp : (keysR (prV t)).length = (prV t).length := List.length_map ..
   have hsl := scn_len (L := prV t) (a := a) (b := b) (m := m)
   refine VS_r0 rfl (q_load_ra rfl rfl rfl rfl rfl (by (simp [setAt]; done)) rfl (q_mv rfl (q_mv rfl (q_mv rfl (q_callp (c_impl_ScanKeys t hs a b m) rfl trivial (q_mv rfl (rg_nil (VS_seq (VS_seq (VS_r0 rfl (q_mv rfl (q_load_ra rfl rfl rfl rfl rfl (by (simp [setAt]; done)) rfl (q_mv rfl (q_mv rfl (q_mv rfl ?_)))))))))))))))
   refine q_callp (c_spec_ScanKeys t hs a b m) rfl trivial (q_callp (x := .bool true) ((c_laws_equalPairs _ _ (by omega) (by omega)).eqT (by rfl)) rfl trivial (q_not rfl (q_mv rfl (q_t rfl (q_load_ra rfl rfl rfl rfl rfl (by (simp [setAt]; done)) rfl (q_t rfl (q_callp (x := .bool false) ((c_impl_ValidTree t hs).to (y := .bool false) (by rw [hv])) rfl trivial (q_t rfl (q_not rfl (q_pick_f rfl rfl (rg_nil ?_)))))))))))
   refine VS_cond rfl (fun _ => ?_) (fun e => by cases e)
   refine VS_seq (VS_r0 rfl (q_mv rfl (q_load_ra rfl rfl rfl rfl rfl (by (simp [setAt]; done)) rfl (q_mv rfl (q_mv rfl (q_mv rfl (q_callp (c_spec_ScanKeys t hs a b m) rfl trivial (q_callp (x := .bool true) ((c_laws_equalPairs _ _ (by omega) (by omega)).eqT (by rfl)) rfl trivial (q_mv rfl (rg_nil (VS_ret ?_)))))))))))
   exact Bd.now ⟨_, rfl, rfl⟩
  ·skip
   have hs := ha.small
   have hpl := prV_len (t := t)
   have hkl := keysV_len (t := t)
   have hkp : (keysR (prV t)).length = (prV t).length := List.length_map ..
   have hsl := scn_len (L := prV t) (a := a) (b := b) (m := m)
   have hfl := scnL_len (L := prV t) (a := a) (b := b)
   refine VS_r0 rfl (q_load_ra rfl rfl rfl rfl rfl (by (simp [setAt]; done)) rfl (q_mv rfl (q_mv rfl (q_mv rfl (q_callp (c_impl_ScanKeys t hs a b m) rfl trivial (q_mv rfl (rg_nil (VS_seq (VS_seq (VS_r0 rfl (q_mv rfl (q_load_ra rfl rfl rfl rfl rfl (by (simp [setAt]; done)) rfl (q_mv rfl (q_mv rfl (q_mv rfl ?_)))))))))))))))
   refine q_callp (c_spec_ScanKeys t hs a b m) rfl trivial (q_callp (x := .bool true) ((c_laws_equalPairs _ _ (by omega) (by omega)).eqT (by rfl)) rfl trivial (q_not rfl (q_mv rfl (q_t rfl (q_load_ra rfl rfl rfl rfl rfl (by (simp [setAt]; done)) rfl (q_t rfl (q_callp (x := .bool true) ((c_impl_ValidTree t hs).to (y := .bool true) (by rw [hv])) rfl trivial (q_t rfl (q_not rfl (q_pick_f rfl rfl (rg_nil ?_)))))))))))
   refine VS_cond rfl (fun e => by cases e) (fun _ => ?_)
   refine VS_skip (VS_seq (VS_r0 rfl (q_lit0 (q_mv rfl (rg_nil (VS_seq (VS_r0 rfl (q_load_ra rfl rfl rfl rfl rfl (by (simp [setAt]; done)) rfl (q_callp (c_impl_PairsOf t hs) rfl trivial (q_mv rfl (rg_nil (VS_seq (VS_seq (VS_r0 rfl (q_mv rfl ?_)))))))))))))))
   refine rg_nil (VS_block ?_)
   refine VS_bd (Bd.pad ?_)
   refine VS_bd (Bd.keepL [(4, .pv (i64 a)), (5, .pv (i64 b)), (6, .pv (i64 m)), (7, .pv (prs (scn (prV t) a b m))), (8, ownD 1 (dP ([]))), (9, .pv (prs (prV t))), (10, .pv (i64 0))] ⟨rfl, rfl, rfl, rfl, rfl, rfl, rfl, trivial⟩ ?_)
   refine VS_loop (fun mz E S => ∃ i : Nat, ∃ xs : List (Int × Int), mz = (prV t).length - i ∧ (i ≤ (prV t).length) ∧ (xs = scnL ((prV t).take i) a b) ∧ (xs.length ≤ i) ∧ E = env [(4, .pv (i64 a)), (5, .pv (i64 b)), (6, .pv (i64 m)), (7, .pv (prs (scn (prV t) a b m))), (8, ownD 1 (dP xs)), (9, .pv (prs (prV t))), (10, .pv (i64 i))] ∧ S = [some ⟨25, 2, [.agg [.pv (i64 t.r), .pv (pgsP t.ps)]]⟩, obD 47 2 (dP xs)]) ⟨_, 0, [], rfl, (by omega), rfl, (by simp), rfl, rfl⟩ ?_
   rintro mz _ _ ⟨i, xs, hmeas, g0, g1, g2, rfl, rfl⟩
   refine VS_seq (VS_seq (VS_r0 rfl (q_mv rfl (q_mv rfl (q_len_m rfl (q_lss rfl rfl (rg_nil ?_)))))))
   refine VS_cond rfl (fun c2 => ?_) (fun c2 => ?_)
   ·try simp at c2
    refine VS_skip (VS_seq (VS_block (VS_seq (VS_r0 rfl (q_mv rfl (q_mv rfl (q_idx_m (f := pairP) (xs := prV t) (n := (i : Int)) rfl rfl (by omega) (by omega) (fun _ => rfl) ?_)))))))
    rw [Int.toNat_natCast]
    refine q_fld_c rfl rfl (q_load_c rfl rfl rfl (q_mv rfl (q_geq rfl rfl (q_mv rfl ?_))))
    refine q_b rfl (fun g62 => ?_) (fun g62 => ?_)
    ·try simp at g62
     refine q_t rfl (q_mv rfl (q_t rfl (q_mv rfl (q_t rfl (q_idx_m (f := pairP) (xs := prV t) (n := (i : Int)) rfl rfl (by omega) (by omega) (fun _ => rfl) ?_)))))
     rw [Int.toNat_natCast]
     refine q_t rfl (q_fld_c rfl rfl (q_t rfl (q_load_c rfl rfl rfl (q_t rfl (q_mv rfl (q_t rfl (q_lss rfl rfl (q_pick_t rfl rfl (rg_nil ?_)))))))))
     refine VS_cond rfl (fun c3 => ?_) (fun c3 => ?_)
     ·try simp at c3
      refine VS_r0 rfl (q_mv rfl (q_mv rfl (q_mv rfl (q_idx_m (f := pairP) (xs := prV t) (n := (i : Int)) rfl rfl (by omega) (by omega) (fun _ => rfl) ?_))))
      rw [Int.toNat_natCast]
      refine q_load_c rfl rfl rfl (q_lit (xs := [pairP (nth (prV t) i)]) rfl rfl rfl rfl (q_app_dm (xs := xs) (ys := [nth (prV t) i]) (f := fun k => .pv (pairP k)) rfl rfl rfl rfl ⟨by simp; omega, by simp; omega⟩ trivial (q_mv rfl (rg_nil (VS_r0 rfl (q_mv rfl (q_add rfl rfl (inR64 (by omega)) (q_mv rfl (rg_nil ?_)))))))))
      refine Bd.renL [0, 2] (zcj _) (by simp) [(4, .pv (i64 a)), (5, .pv (i64 b)), (6, .pv (i64 m)), (7, .pv (prs (scn (prV t) a b m))), (8, ownD 1 (dP (xs ++ [nth (prV t) i]))), (9, .pv (prs (prV t))), (10, .pv (i64 (i + 1)))] ⟨rfl, rfl, rfl, rfl, inv_own rfl, rfl, rfl, trivial⟩ (l2 rfl (obD_mP _)) ⟨_, ?_, i + 1, xs ++ [nth (prV t) i], rfl, ?_, ?_, ?_, rfl, rfl⟩
      ·omega
      ·omega
      ·rw [scnL_yes (by omega) (by omega) (by omega), g1]
      ·rw [List.length_append, List.length_singleton]; omega
     ·try simp at c3
      refine VS_skip (VS_r0 rfl (q_mv rfl (q_add rfl rfl (inR64 (by omega)) (q_mv rfl (rg_nil ?_)))))
      refine Bd.renL [0, 1] (zcj _) (by simp) [(4, .pv (i64 a)), (5, .pv (i64 b)), (6, .pv (i64 m)), (7, .pv (prs (scn (prV t) a b m))), (8, ownD 1 (dP xs)), (9, .pv (prs (prV t))), (10, .pv (i64 (i + 1)))] ⟨rfl, rfl, rfl, rfl, inv_own rfl, rfl, rfl, trivial⟩ (l2 rfl (obD_mP _)) ⟨_, ?_, i + 1, xs, rfl, ?_, ?_, ?_, rfl, rfl⟩
      ·omega
      ·omega
      ·rw [scnL_no (by omega) (by omega), g1]
      ·omega
    ·try simp at g62
     refine q_f rfl (q_f rfl (q_f rfl (q_f rfl (q_f rfl (q_f rfl (q_f rfl (q_pick_f rfl rfl (rg_nil ?_))))))))
     refine VS_cond rfl (fun e => by cases e) (fun _ => ?_)
     refine VS_skip (VS_r0 rfl (q_mv rfl (q_add rfl rfl (inR64 (by omega)) (q_mv rfl (rg_nil ?_)))))
     refine Bd.renL [0, 1] (zcj _) (by simp) [(4, .pv (i64 a)), (5, .pv (i64 b)), (6, .pv (i64 m)), (7, .pv (prs (scn (prV t) a b m))), (8, ownD 1 (dP xs)), (9, .pv (prs (prV t))), (10, .pv (i64 (i + 1)))] ⟨rfl, rfl, rfl, rfl, inv_own rfl, rfl, rfl, trivial⟩ (l2 rfl (obD_mP _)) ⟨_, ?_, i + 1, xs, rfl, ?_, ?_, ?_, rfl, rfl⟩
     ·omega
     ·omega
     ·rw [scnL_no (by omega) (by omega), g1]
     ·omega
   ·try simp at c2
    refine VS_exit (VS_seq ?_)
    refine VS_bd (Bd.pure 8 1 47 2 (xs := dP xs) rfl rfl (toPVs_dP _) ?_)
    have e1 : xs = scnL (prV t) a b := by rw [g1, List.take_of_length_le (by omega)]
    refine VS_r0 rfl (q_mv rfl (q_mv rfl (q_mv rfl (q_mv rfl (q_len_m rfl (q_mn rfl rfl (q_mx rfl rfl (q_slc_m (xs := xs) (f := pairP) 0 (max 0 (min m (xs.length : Int))).toNat rfl rfl rfl ⟨rfl, by omega, by omega, by omega⟩ (fun _ => rfl) (q_callp (x := .bool true) ((c_laws_equalPairs (scn (prV t) a b m) ((xs.take (max 0 (min m (xs.length : Int))).toNat).drop 0) (by omega) (by rw [List.drop_zero, List.length_take]; omega)).eqT (by rw [List.drop_zero, scn_cut e1])) rfl trivial (q_mv rfl (rg_nil (VS_ret ?_))))))))))))
    exact Bd.now ⟨_, rfl, rfl⟩
theorem sl_laws_FnScanKeysMany : slimF prog 9 = some (65, (.seq (.reg 0 (.o 2 (.mv (.c (.pv (.bool false)))) .nil)) (.seq (.seq (.reg 0 (.o 8 (.mv (.t 0)) (.o 9 (.len (.t 8)) (.o 10 (.bin .gtr (.t 9) (.c (.pv (.int .i64 1048576)))) .nil)))) (.cond (.t 10) (.seq (.reg 0 (.o 2 (.mv (.c (.pv (.bool true)))) .nil)) .ret) .skip)) (.seq (.reg 0 (.o 12 (.mv (.t 0)) (.o 13 (.call 27 [.t 12]) (.o 11 (.mv (.t 13)) (.o 14 (.ext (.t 11) 0) (.o 15 (.ext (.t 11) 1) (.o 16 (.ext (.t 11) 2) (.o 17 (.ext (.t 11) 3) (.o 3 (.alloc 25 2 (.agg [.pv (.int .i64 0), .nils])) (.op ⟨none, none, .store 2 (.t 3) (.t 14)⟩ (.o 4 (.mv (.t 15)) (.o 5 (.mv (.t 16)) (.o 6 (.mv (.t 17)) .nil))))))))))))) (.seq (.reg 0 (.o 18 (.load 2 true (.t 3)) (.o 19 (.mv (.t 4)) (.o 20 (.mv (.t 5)) (.o 21 (.mv (.t 6)) (.o 22 (.call 28 [.t 18, .t 19, .t 20, .t 21]) (.o 7 (.mv (.t 22)) .nil))))))) (.seq (.seq (.reg 0 (.o 23 (.mv (.t 7)) (.o 24 (.load 2 true (.t 3)) (.o 25 (.mv (.t 4)) (.o 26 (.mv (.t 5)) (.o 27 (.mv (.t 6)) (.o 28 (.call 30 [.t 24, .t 25, .t 26, .t 27]) (.o 29 (.call 29 [.t 23, .t 28]) (.o 30 (.not (.t 29)) (.o 31 (.mv (.t 30)) (.g 32 31 false (.mv (.t 7)) (.g 33 31 false (.len (.t 32)) (.g 34 31 false (.bin .eql (.t 33) (.c (.pv (.int .i64 0)))) (.o 35 (.pick (.t 31) (.c (.pv (.bool true))) (.t 34)) .nil)))))))))))))) (.cond (.t 35) (.seq (.reg 0 (.o 36 (.mv (.t 7)) (.o 37 (.load 2 true (.t 3)) (.o 38 (.mv (.t 4)) (.o 39 (.mv (.t 5)) (.o 40 (.mv (.t 6)) (.o 41 (.call 30 [.t 37, .t 38, .t 39, .t 40]) (.o 42 (.call 29 [.t 36, .t 41]) (.o 2 (.mv (.t 42)) .nil))))))))) .ret) .skip)) (.seq (.reg 2 (.o 43 (.load 2 true (.t 3)) (.o 44 (.mv (.t 4)) (.o 45 (.mv (.t 5)) (.o 46 (.mv (.t 7)) (.o 47 (.len (.t 46)) (.o 48 (.bin .sub (.t 47) (.c (.pv (.int .i64 1)))) (.o 50 (.mv (.t 7)) (.o 51 (.mv (.t 7)) (.o 52 (.len (.t 51)) (.o 53 (.bin .sub (.t 52) (.c (.pv (.int .i64 1)))) (.o 54 (.slc 2 (.t 50) none (some (.t 53))) (.o 49 (.call 28 [.t 43, .t 44, .t 45, .t 48]) (.o 55 (.call 29 [.t 49, .t 54]) (.o 56 (.mv (.t 55)) (.g 57 56 true (.load 2 true (.t 3)) (.g 58 56 true (.mv (.t 5)) (.g 59 56 true (.mv (.t 5)) (.g 60 56 true (.mv (.t 6)) (.g 61 56 true (.call 28 [.t 57, .t 58, .t 59, .t 60]) (.g 62 56 true (.len (.t 61)) (.g 63 56 true (.bin .eql (.t 62) (.c (.pv (.int .i64 0)))) (.o 64 (.pick (.t 56) (.t 63) (.c (.pv (.bool false)))) (.o 2 (.mv (.t 64)) .nil)))))))))))))))))))))))) .ret))))), [.t 2])) := by kernel_rfl
theorem c_laws_FnScanKeysMany (bs : List Int) (hb : isU8 bs) : PCon prog 9 [u8s bs] (fun p => p = .bool true) := by
 refine con_of_VS sl_laws_FnScanKeysMany (by simp) (VS_seq (VS_r0 rfl (q_mv rfl (rg_nil (VS_seq (VS_seq (VS_r0 rfl (q_mv rfl (q_len_m rfl (q_gtr rfl rfl (rg_nil ?_)))))))))))
 refine VS_cond rfl (fun c0 => ?_) (fun c0 => ?_)
 ·try simp at c0
  refine VS_seq (VS_r0 rfl (q_mv rfl (rg_nil (VS_ret ?_))))
  exact Bd.now ⟨_, rfl, rfl⟩
 ·try simp at c0
  refine VS_skip (VS_seq (VS_r0 rfl (q_mv rfl (q_calle rfl (c_spec_DrawScanKeys bs hb (by omega)) rfl trivial ?_))))
  rintro _ ⟨t, a, b, m, rfl, ha, qva, qvb, qvm⟩
  refine q_mv rfl (q_ext rfl rfl (q_ext rfl rfl (q_ext rfl rfl (q_ext rfl rfl (q_alloc trivial (q_store rfl rfl rfl rfl rfl rfl ⟨rfl, rfl, by simp, rfl, by simp [isOne]⟩ rfl trivial (q_mv rfl (q_mv rfl (q_mv rfl (rg_nil (VS_seq ?_)))))))))))
  by_cases hz : (scn (prV t) a b m).length = 0
  ·skip
   have hs := ha.small
   have hpl := prV_len (t := t)
   have hkl := keysV_len (t := t)
   have hkp : (keysR (prV t)).length = (prV t).length := List.length_map ..
   have hsl := scn_len (L := prV t) (a := a) (b := b) (m := m)
   refine VS_r0 rfl (q_load_ra rfl rfl rfl rfl rfl (by (simp [setAt]; done)) rfl (q_mv rfl (q_mv rfl (q_mv rfl (q_callp (c_impl_ScanKeys t hs a b m) rfl trivial (q_mv rfl (rg_nil (VS_seq (VS_seq (VS_r0 rfl (q_mv rfl (q_load_ra rfl rfl rfl rfl rfl (by (simp [setAt]; done)) rfl (q_mv rfl (q_mv rfl (q_mv rfl ?_)))))))))))))))
   refine q_callp (c_spec_ScanKeys t hs a b m) rfl trivial (q_callp (x := .bool true) ((c_laws_equalPairs _ _ (by omega) (by omega)).eqT (by rfl)) rfl trivial (q_not rfl (q_mv rfl (q_t rfl (q_mv rfl (q_t rfl (q_len_m rfl (q_t rfl (q_eql_v true rfl rfl (decide_eq_true (by omega)) (q_pick_f rfl rfl (rg_nil ?_)))))))))))
   refine VS_cond rfl (fun _ => ?_) (fun e => by cases e)
   refine VS_seq (VS_r0 rfl (q_mv rfl (q_load_ra rfl rfl rfl rfl rfl (by (simp [setAt]; done)) rfl (q_mv rfl (q_mv rfl (q_mv rfl (q_callp (c_spec_ScanKeys t hs a b m) rfl trivial (q_callp (x := .bool true) ((c_laws_equalPairs _ _ (by omega) (by omega)).eqT (by rfl)) rfl trivial (q_mv rfl (rg_nil (VS_ret ?_)))))))))))
   exact Bd.now ⟨_, rfl, rfl⟩
  ·skip
   have hs := ha.small
   have hpl := prV_len (t := t)
   have hkl := keysV_len (t := t)
   have hkp : (keysR (prV t)).length = (prV t).length := List.length_map ..
   have hsl := scn_len (L := prV t) (a := a) (b := b) (m := m)
   have hle := scn_less (L := prV t) (a := a) (b := b) (m := m) ((scn (prV t) a b m).length - 1) (by omega)
   refine VS_r0 rfl (q_load_ra rfl rfl rfl rfl rfl (by (simp [setAt]; done)) rfl (q_mv rfl (q_mv rfl (q_mv rfl (q_callp (c_impl_ScanKeys t hs a b m) rfl trivial (q_mv rfl (rg_nil (VS_seq (VS_seq (VS_r0 rfl (q_mv rfl (q_load_ra rfl rfl rfl rfl rfl (by (simp [setAt]; done)) rfl (q_mv rfl (q_mv rfl (q_mv rfl ?_)))))))))))))))
   refine q_callp (c_spec_ScanKeys t hs a b m) rfl trivial (q_callp (x := .bool true) ((c_laws_equalPairs _ _ (by omega) (by omega)).eqT (by rfl)) rfl trivial (q_not rfl (q_mv rfl (q_t rfl (q_mv rfl (q_t rfl (q_len_m rfl (q_t rfl (q_eql_v false rfl rfl (decide_eq_false (by omega)) (q_pick_f rfl rfl (rg_nil ?_)))))))))))
   refine VS_cond rfl (fun e => by cases e) (fun _ => ?_)
   refine VS_skip (VS_seq (VS_r2 _ hmix (Sub.refl _) (q_load_ra rfl rfl rfl rfl rfl (by (simp [setAt]; done)) rfl (q_mv rfl (q_mv rfl (q_mv rfl (q_len_m rfl (q_sub_to (((scn (prV t) a b m).length - 1 : Nat) : Int) rfl rfl (by omega) (inR64 (by omega)) (q_mv rfl (q_mv rfl (q_len_m rfl (q_sub_to (((scn (prV t) a b m).length - 1 : Nat) : Int) rfl rfl (by omega) (inR64 (by omega)) (q_slc_m (xs := (scn (prV t) a b m)) (f := pairP) 0 ((scn (prV t) a b m).length - 1) rfl rfl rfl ⟨rfl, by omega, by omega, by omega⟩ (fun _ => rfl) (q_callp ((c_impl_ScanKeys t hs a b ((((scn (prV t) a b m).length - 1) : Nat) : Int)).to (y := prs ((scn (prV t) a b m).take ((scn (prV t) a b m).length - 1))) (by rw [hle])) rfl (Sub.refl _) (q_callp (x := .bool true) ((c_laws_equalPairs ((scn (prV t) a b m).take ((scn (prV t) a b m).length - 1)) (((scn (prV t) a b m).take ((scn (prV t) a b m).length - 1)).drop 0) (by rw [List.length_take]; omega) (by rw [List.drop_zero, List.length_take]; omega)).eqT (by rw [List.drop_zero])) rfl (Sub.refl _) ?_)))))))))))))))
   refine q_mv rfl (q_t rfl (q_load_ra rfl rfl rfl rfl rfl (by (simp [setAt]; done)) rfl (q_t rfl (q_mv rfl (q_t rfl (q_mv rfl (q_t rfl (q_mv rfl (q_t rfl (q_callp ((c_impl_ScanKeys t hs b b m).to (y := prs []) (by rw [scn_none])) rfl (Sub.refl _) (q_t rfl (q_len_m rfl (q_t rfl (q_eql_v true rfl rfl (decide_eq_true rfl) (q_pick_t rfl rfl ?_)))))))))))))))
   refine q_mv rfl (rg_nil (VS_ret ?_))
   exact Bd.now ⟨_, rfl, rfl⟩
theorem sl_laws_FnScanKeysAll : slimF prog 10 = some (63, (.seq (.reg 0 (.o 2 (.mv (.c (.pv (.bool false)))) .nil)) (.seq (.seq (.reg 0 (.o 11 (.mv (.t 0)) (.o 12 (.len (.t 11)) (.o 13 (.bin .gtr (.t 12) (.c (.pv (.int .i64 1048576)))) .nil)))) (.cond (.t 13) (.seq (.reg 0 (.o 2 (.mv (.c (.pv (.bool true)))) .nil)) .ret) .skip)) (.seq (.reg 0 (.o 15 (.mv (.t 0)) (.o 16 (.call 27 [.t 15]) (.o 14 (.mv (.t 16)) (.o 17 (.ext (.t 14) 0) (.o 18 (.ext (.t 14) 1) (.o 19 (.ext (.t 14) 2) (.o 20 (.ext (.t 14) 3) (.o 3 (.alloc 25 2 (.agg [.pv (.int .i64 0), .nils])) (.op ⟨none, none, .store 2 (.t 3) (.t 17)⟩ (.o 4 (.mv (.t 18)) (.o 5 (.mv (.t 19)) (.o 6 (.mv (.t 20)) .nil))))))))))))) (.seq (.reg 0 (.o 21 (.load 2 true (.t 3)) (.o 22 (.mv (.t 4)) (.o 23 (.mv (.t 5)) (.o 24 (.mv (.t 6)) (.o 25 (.call 28 [.t 21, .t 22, .t 23, .t 24]) (.o 7 (.mv (.t 25)) .nil))))))) (.seq (.seq (.reg 0 (.o 26 (.mv (.t 7)) (.o 27 (.load 2 true (.t 3)) (.o 28 (.mv (.t 4)) (.o 29 (.mv (.t 5)) (.o 30 (.mv (.t 6)) (.o 31 (.call 30 [.t 27, .t 28, .t 29, .t 30]) (.o 32 (.call 29 [.t 26, .t 31]) (.o 33 (.not (.t 32)) (.o 34 (.mv (.t 33)) (.g 35 34 false (.load 2 true (.t 3)) (.g 36 34 false (.call 31 [.t 35]) (.g 37 34 false (.not (.t 36)) (.o 38 (.pick (.t 34) (.c (.pv (.bool true))) (.t 37)) .nil)))))))))))))) (.cond (.t 38) (.seq (.reg 0 (.o 39 (.mv (.t 7)) (.o 40 (.load 2 true (.t 3)) (.o 41 (.mv (.t 4)) (.o 42 (.mv (.t 5)) (.o 43 (.mv (.t 6)) (.o 44 (.call 30 [.t 40, .t 41, .t 42, .t 43]) (.o 45 (.call 29 [.t 39, .t 44]) (.o 2 (.mv (.t 45)) .nil))))))))) .ret) .skip)) (.seq (.reg 0 (.o 46 (.load 2 true (.t 3)) (.o 47 (.call 28 [.t 46, .c (.pv (.int .i64 0)), .c (.pv (.int .i64 100)), .c (.pv (.int .i64 1000))]) (.o 8 (.mv (.t 47)) .nil)))) (.seq (.reg 0 (.o 48 (.load 2 true (.t 3)) (.o 49 (.call 28 [.t 48, .c (.pv (.int .i64 0)), .c (.pv (.int .i64 50)), .c (.pv (.int .i64 1000))]) (.o 9 (.mv (.t 49)) .nil)))) (.seq (.reg 0 (.o 50 (.load 2 true (.t 3)) (.o 51 (.call 28 [.t 50, .c (.pv (.int .i64 50)), .c (.pv (.int .i64 100)), .c (.pv (.int .i64 1000))]) (.o 10 (.mv (.t 51)) .nil)))) (.seq (.reg 0 (.o 52 (.mv (.t 8)) (.o 53 (.load 2 true (.t 3)) (.o 54 (.call 26 [.t 53]) (.o 55 (.call 29 [.t 52, .t 54]) (.o 56 (.mv (.t 55)) (.g 57 56 true (.mv (.t 9)) (.g 58 56 true (.mv (.t 10)) (.g 59 56 true (.call 32 [.t 57, .t 58]) (.g 60 56 true (.mv (.t 8)) (.g 61 56 true (.call 29 [.t 59, .t 60]) (.o 62 (.pick (.t 56) (.t 61) (.c (.pv (.bool false)))) (.o 2 (.mv (.t 62)) .nil))))))))))))) .ret)))))))), [.t 2])) := by kernel_rfl
theorem c_laws_FnScanKeysAll (bs : List Int) (hb : isU8 bs) : PCon prog 10 [u8s bs] (fun p => p = .bool true) := by
 refine con_of_VS sl_laws_FnScanKeysAll (by simp) (VS_seq (VS_r0 rfl (q_mv rfl (rg_nil (VS_seq (VS_seq (VS_r0 rfl (q_mv rfl (q_len_m rfl (q_gtr rfl rfl (rg_nil ?_)))))))))))
 refine VS_cond rfl (fun c0 => ?_) (fun c0 => ?_)
 ·try simp at c0
  refine VS_seq (VS_r0 rfl (q_mv rfl (rg_nil (VS_ret ?_))))
  exact Bd.now ⟨_, rfl, rfl⟩
 ·try simp at c0
  refine VS_skip (VS_seq (VS_r0 rfl (q_mv rfl (q_calle rfl (c_spec_DrawScanKeys bs hb (by omega)) rfl trivial ?_))))
  rintro _ ⟨t, a, b, m, rfl, ha, qva, qvb, qvm⟩
  refine q_mv rfl (q_ext rfl rfl (q_ext rfl rfl (q_ext rfl rfl (q_ext rfl rfl (q_alloc trivial (q_store rfl rfl rfl rfl rfl rfl ⟨rfl, rfl, by simp, rfl, by simp [isOne]⟩ rfl trivial (q_mv rfl (q_mv rfl (q_mv rfl (rg_nil (VS_seq ?_)))))))))))
  cases hv : validT t
  ·skip
   have hs := ha.small
   have hpl := prV_len (t := t)
   have hkl := keysV_len (t := t)
   have hkp : (keysR (prV t)).length = (prV t).length := List.length_map ..
   have hsl := scn_len (L := prV t) (a := a) (b := b) (m := m)
   refine VS_r0 rfl (q_load_ra rfl rfl rfl rfl rfl (by (simp [setAt]; done)) rfl (q_mv rfl (q_mv rfl (q_mv rfl (q_callp (c_impl_ScanKeys t hs a b m) rfl trivial (q_mv rfl (rg_nil (VS_seq (VS_seq (VS_r0 rfl (q_mv rfl (q_load_ra rfl rfl rfl rfl rfl (by (simp [setAt]; done)) rfl (q_mv rfl (q_mv rfl (q_mv rfl ?_)))))))))))))))
   refine q_callp (c_spec_ScanKeys t hs a b m) rfl trivial (q_callp (x := .bool true) ((c_laws_equalPairs _ _ (by omega) (by omega)).eqT (by rfl)) rfl trivial (q_not rfl (q_mv rfl (q_t rfl (q_load_ra rfl rfl rfl rfl rfl (by (simp [setAt]; done)) rfl (q_t rfl (q_callp (x := .bool false) ((c_impl_ValidTree t hs).to (y := .bool false) (by rw [hv])) rfl trivial (q_t rfl (q_not rfl (q_pick_f rfl rfl (rg_nil ?_)))))))))))
   refine VS_cond rfl (fun _ => ?_) (fun e => by cases e)
   refine VS_seq (VS_r0 rfl (q_mv rfl (q_load_ra rfl rfl rfl rfl rfl (by (simp [setAt]; done)) rfl (q_mv rfl (q_mv rfl (q_mv rfl (q_callp (c_spec_ScanKeys t hs a b m) rfl trivial (q_callp (x := .bool true) ((c_laws_equalPairs _ _ (by omega) (by omega)).eqT (by rfl)) rfl trivial (q_mv rfl (rg_nil (VS_ret ?_)))))))))))
   exact Bd.now ⟨_, rfl, rfl⟩
  ·skip
   have hs := ha.small
   have hpl := prV_len (t := t)
   have hkl := keysV_len (t := t)
   have hkp : (keysR (prV t)).length = (prV t).length := List.length_map ..
   have hsl := scn_len (L := prV t) (a := a) (b := b) (m := m)
   have hkg := keys_good hv
   have h1 := scn_len (L := prV t) (a := 0) (b := 50) (m := 1000)
   have h2 := scn_len (L := prV t) (a := 50) (b := 100) (m := 1000)
   refine VS_r0 rfl (q_load_ra rfl rfl rfl rfl rfl (by (simp [setAt]; done)) rfl (q_mv rfl (q_mv rfl (q_mv rfl (q_callp (c_impl_ScanKeys t hs a b m) rfl trivial (q_mv rfl (rg_nil (VS_seq (VS_seq (VS_r0 rfl (q_mv rfl (q_load_ra rfl rfl rfl rfl rfl (by (simp [setAt]; done)) rfl (q_mv rfl (q_mv rfl (q_mv rfl ?_)))))))))))))))
   refine q_callp (c_spec_ScanKeys t hs a b m) rfl trivial (q_callp (x := .bool true) ((c_laws_equalPairs _ _ (by omega) (by omega)).eqT (by rfl)) rfl trivial (q_not rfl (q_mv rfl (q_t rfl (q_load_ra rfl rfl rfl rfl rfl (by (simp [setAt]; done)) rfl (q_t rfl (q_callp (x := .bool true) ((c_impl_ValidTree t hs).to (y := .bool true) (by rw [hv])) rfl trivial (q_t rfl (q_not rfl (q_pick_f rfl rfl (rg_nil ?_)))))))))))
   refine VS_cond rfl (fun e => by cases e) (fun _ => ?_)
   refine VS_skip (VS_seq (VS_r0 rfl (q_load_ra rfl rfl rfl rfl rfl (by (simp [setAt]; done)) rfl (q_callp ((c_impl_ScanKeys t hs 0 100 1000).to (y := prs (prV t)) (by rw [scn_all hkg hpl])) rfl trivial (q_mv rfl (rg_nil (VS_seq (VS_r0 rfl (q_load_ra rfl rfl rfl rfl rfl (by (simp [setAt]; done)) rfl (q_callp (c_impl_ScanKeys t hs 0 50 1000) rfl trivial (q_mv rfl (rg_nil (VS_seq (VS_r0 rfl (q_load_ra rfl rfl rfl rfl rfl (by (simp [setAt]; done)) rfl ?_)))))))))))))))
   refine q_callp (c_impl_ScanKeys t hs 50 100 1000) rfl trivial (q_mv rfl (rg_nil (VS_seq (VS_r0 rfl (q_mv rfl (q_load_ra rfl rfl rfl rfl rfl (by (simp [setAt]; done)) rfl (q_callp (c_impl_PairsOf t hs) rfl trivial (q_callp (x := .bool true) ((c_laws_equalPairs _ _ (by omega) (by omega)).eqT (by rfl)) rfl trivial (q_mv rfl (q_t rfl (q_mv rfl (q_t rfl (q_mv rfl (q_t rfl (q_callp ((c_laws_join (scn (prV t) 0 50 1000) (scn (prV t) 50 100 1000) (by omega) (by omega)).to (y := prs (prV t)) (by rw [scn_two hkg hpl])) rfl trivial ?_)))))))))))))))
   refine q_t rfl (q_mv rfl (q_t rfl (q_callp (x := .bool true) ((c_laws_equalPairs _ _ (by omega) (by omega)).eqT (by rfl)) rfl trivial (q_pick_t rfl rfl (q_mv rfl (rg_nil (VS_ret ?_)))))))
   exact Bd.now ⟨_, rfl, rfl⟩
end Go.V
