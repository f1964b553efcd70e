/- A part of the proofs about laws of the page tree (see the text that bears the law): a small language of steps, its rules, and what the functions of the program return. -/
import Derived.Test.YtgblkaealpggdaaWA
import Derived.Test.YtgblkaealpggdaaLD
set_option linter.all false
set_option linter.unusedVariables false
set_option linter.unusedSimpArgs false
set_option maxHeartbeats 4000000
namespace Go.V
open Go.Proofs.Try (prog)
set_option maxRecDepth 100000
theorem sl_spec_cutKid : slimF prog 114 = some (32, (.seq (.reg 0 (.o 2 (.box 88 2 (.t 0)) (.o 4 (.alloc 88 2 (.agg [.nils, .nils])) .nil))) (.seq (.reg 2 (.o 7 (.fld 0 1 false (.t 2)) (.o 8 (.load 1 false (.t 7)) (.o 9 (.mv (.t 1)) (.o 10 (.bin .sub (.t 9) (.c (.pv (.int .i64 1)))) (.o 11 (.slc 1 (.t 8) none (some (.t 10))) (.o 13 (.fld 0 1 false (.t 2)) (.o 14 (.load 1 false (.t 13)) (.o 15 (.mv (.t 1)) (.o 16 (.slc 1 (.t 14) (some (.t 15)) none) (.o 12 (.call 83 [.t 11]) (.o 17 (.app 3 1 8 (.t 12) (.t 16)) (.o 5 (.mv (.t 17)) .nil))))))))))))) (.seq (.reg 2 (.o 18 (.fld 1 1 false (.t 2)) (.o 19 (.load 1 false (.t 18)) (.o 20 (.mv (.t 1)) (.o 21 (.slc 1 (.t 19) none (some (.t 20))) (.o 23 (.fld 1 1 false (.t 2)) (.o 24 (.load 1 false (.t 23)) (.o 25 (.mv (.t 1)) (.o 26 (.bin .add (.t 25) (.c (.pv (.int .i64 1)))) (.o 27 (.slc 1 (.t 24) (some (.t 26)) none) (.o 22 (.call 83 [.t 21]) (.o 28 (.app 3 1 8 (.t 22) (.t 27)) (.o 6 (.mv (.t 28)) .nil))))))))))))) (.seq (.reg 0 (.o 29 (.mv (.t 5)) (.o 30 (.mv (.t 6)) (.o 31 (.build [.nils, .nils] [(0, (1, .t 29)), (1, (1, .t 30))]) (.op ⟨none, none, .store 2 (.t 4) (.t 31)⟩ .nil))))) .ret))), [.c 4 2])) := by kernel_rfl
theorem c_spec_cutKid (ks cs : List Int) (m : Nat) (h0 : 1 ≤ m) (h1 : m ≤ ks.length) (h2 : cs.length = ks.length + 1) (hk : ks.length ≤ 100000000) : PCon prog 114 [innP ks cs, i64 m] (fun p => p = innP (ks.take (m - 1) ++ ks.drop m) (cs.take m ++ cs.drop (m + 1))) := by
 refine con_of_VS sl_spec_cutKid (by simp) (VS_seq (VS_r0 rfl (q_box rfl rfl rfl trivial (q_alloc trivial (rg_nil (VS_seq (VS_r2 [some ⟨88, 2, [.pv (innP ks cs)]⟩] hmix (SubL.sub (by repeat constructor)) (q_fld_r rfl (q_load_r rfl rfl rfl rfl rfl rfl rfl (q_mv rfl (q_sub rfl rfl (inR64 (by omega)) (q_slc_m (xs := ks) (f := fun k => i64 k) 0 (m - 1) rfl rfl rfl ⟨rfl, by omega, by omega, by omega⟩ (fun _ => rfl) (q_fld_r rfl (q_load_r rfl rfl rfl rfl rfl rfl rfl (q_mv rfl ?_)))))))))))))))
 refine q_slc_m (xs := ks) (f := fun k => i64 k) m ks.length rfl rfl rfl ⟨rfl, by simp, by omega, by omega⟩ (fun _ => rfl) (q_new rfl (c_spec_copyInts ((ks.take (m - 1)).drop 0) (by simp; omega)) (flat_I _) (by rfl) (Sub.app _ _) (q_app_dm (xs := (ks.take (m - 1)).drop 0) (ys := (ks.take ks.length).drop m) (f := fun k => .pv (i64 k)) rfl (elems_I _) (cell_I _) rfl ⟨by simp; omega, by simp; omega⟩ (Sub.app _ _) (q_mv rfl (rg_nil ?_))))
 refine VS_bd (Bd.pure 5 3 3 1 (xs := dI ((ks.take (m - 1)).drop 0 ++ (ks.take ks.length).drop m)) rfl rfl (toPVs_dI _) ?_)
 refine VS_seq (VS_r2 [some ⟨88, 2, [.pv (innP ks cs)]⟩] hmix (SubL.sub (by repeat constructor)) (q_fld_r rfl (q_load_r rfl rfl rfl rfl rfl rfl rfl (q_mv rfl (q_slc_m (xs := cs) (f := fun k => i64 k) 0 m rfl rfl rfl ⟨rfl, by omega, by omega, by omega⟩ (fun _ => rfl) (q_fld_r rfl (q_load_r rfl rfl rfl rfl rfl rfl rfl (q_mv rfl (q_add rfl rfl (inR64 (by omega)) (q_slc_m (xs := cs) (f := fun k => i64 k) (m + 1) cs.length rfl rfl rfl ⟨by omega, by simp, by omega, by omega⟩ (fun _ => rfl) (q_new rfl (c_spec_copyInts ((cs.take m).drop 0) (by simp; omega)) (flat_I _) (by rfl) (Sub.app _ _) (q_app_dm (xs := (cs.take m).drop 0) (ys := (cs.take cs.length).drop (m + 1)) (f := fun k => .pv (i64 k)) rfl (elems_I _) (cell_I _) rfl ⟨by simp; omega, by simp; omega⟩ (Sub.app _ _) (q_mv rfl (rg_nil ?_))))))))))))))
 refine VS_bd (Bd.pure 6 5 3 1 (xs := dI ((cs.take m).drop 0 ++ (cs.take cs.length).drop (m + 1))) rfl rfl (toPVs_dI _) ?_)
 refine VS_seq (VS_r0 rfl (q_mv rfl (q_mv rfl (q_build rfl (q_store rfl rfl rfl rfl rfl rfl ⟨rfl, rfl, by simp, rfl, by simp [isOne]⟩ rfl trivial (rg_nil (VS_ret ?_)))))))
 refine Bd.now ⟨_, rfl, ?_⟩
 simp
end Go.V

set_option maxHeartbeats 4000000
namespace Go.V
open Go.Proofs.Try (prog)
set_option maxRecDepth 100000
end Go.V

set_option maxHeartbeats 4000000
namespace Go.V
open Go.Proofs.Try (prog)
theorem zi (os : List Nat) : ∀ i, i < 0 → os[i]? = some i := fun i hi => absurd hi (Nat.not_lt_zero i)
set_option maxRecDepth 100000
theorem sl_spec_keysOf : slimF prog 79 = some (21, (.seq (.reg 0 (.o 2 (.mv (.c .nils)) .nil)) (.seq (.reg 0 (.o 5 (.lit 3 1 0 [.pv (.int .i64 0)] []) (.o 3 (.mv (.t 5)) .nil))) (.seq (.seq (.reg 0 (.o 4 (.mv (.c (.pv (.int .i64 0)))) .nil)) (.block 0 (.loop (.seq (.seq (.reg 0 (.o 6 (.mv (.t 4)) (.o 7 (.mv (.t 0)) (.o 8 (.len (.t 7)) (.o 9 (.bin .lss (.t 6) (.t 8)) .nil))))) (.cond (.t 9) .skip (.exit 0))) (.seq (.block 1 (.reg 0 (.o 12 (.mv (.t 3)) (.o 13 (.mv (.t 0)) (.o 14 (.mv (.t 4)) (.o 15 (.idx 2 (.t 13) (.t 14)) (.o 16 (.fld 0 1 false (.t 15)) (.o 17 (.load 1 false (.t 16)) (.o 18 (.lit 3 1 1 [.pv (.int .i64 0)] [(0, .t 17)]) (.o 19 (.app 3 1 8 (.t 12) (.t 18)) (.o 3 (.mv (.t 19)) .nil))))))))))) (.reg 0 (.o 10 (.mv (.t 4)) (.o 11 (.bin .add (.t 10) (.c (.pv (.int .i64 1)))) (.o 4 (.mv (.t 11)) .nil))))))))) (.seq (.reg 0 (.o 20 (.mv (.t 3)) (.o 2 (.mv (.t 20)) .nil))) .ret))), [.t 2])) := by kernel_rfl
theorem c_spec_keysOf (xs : List (Int × Int)) (hl : xs.length ≤ 100000000) : PCon prog 79 [prs xs] (fun p => p = ints (keysR xs)) := by
 refine con_of_VS sl_spec_keysOf (by simp) (VS_seq (VS_r0 rfl (q_mv rfl (rg_nil (VS_seq (VS_r0 rfl (q_lit0 (q_mv rfl (rg_nil (VS_seq (VS_seq (VS_r0 rfl (q_mv rfl (rg_nil (VS_block ?_)))))))))))))))
 refine VS_bd (Bd.pad ?_)
 refine VS_bd (Bd.keepL [(0, .pv (prs xs)), (3, ownD 0 (dI ([]))), (4, .pv (i64 0))] ⟨rfl, rfl, rfl, trivial⟩ ?_)
 refine VS_loop (fun mz E S => ∃ i : Nat, ∃ ys : List Int, mz = xs.length - i ∧ (i ≤ xs.length) ∧ (ys = keysR (xs.take i)) ∧ (ys.length = i) ∧ E = env [(0, .pv (prs xs)), (3, ownD 0 (dI ys)), (4, .pv (i64 i))] ∧ S = [obD 3 1 (dI ys)]) ⟨_, 0, [], rfl, (by omega), rfl, rfl, rfl, rfl⟩ ?_
 rintro mz _ _ ⟨i, ys, hmeas, g0, g1, g2, rfl, rfl⟩
 refine VS_seq (VS_seq (VS_r0 rfl (q_mv rfl (q_mv rfl (q_len_m rfl (q_lss rfl rfl (rg_nil ?_)))))))
 refine VS_cond rfl (fun c0 => ?_) (fun c0 => ?_)
 ·try simp at c0
  refine VS_skip (VS_seq (VS_block (VS_r0 rfl (q_mv rfl (q_mv rfl (q_mv rfl (q_idx_c _ rfl rfl (by omega) (fun _ => rfl) (q_fld_c rfl rfl (q_load_c rfl rfl rfl (q_lit rfl rfl rfl rfl (q_app_dm (xs := ys) (ys := [(nth xs i).1]) (f := fun k => .pv (i64 k)) rfl rfl rfl rfl ⟨by simp; omega, by simp; omega⟩ trivial (q_mv rfl (rg_nil (VS_r0 rfl (q_mv rfl ?_)))))))))))))))
  refine q_add rfl rfl (inR64 (by omega)) (q_mv rfl (rg_nil ?_))
  refine Bd.renL [1] (zi _) (by simp) [(0, .pv (prs xs)), (3, ownD 0 (dI (ys ++ [(nth xs i).1]))), (4, .pv (i64 (i + 1)))] ⟨rfl, inv_own rfl, rfl, trivial⟩ (l1 (obD_mI _)) ⟨_, ?_, i + 1, ys ++ [(nth xs i).1], rfl, ?_, ?_, ?_, rfl, rfl⟩
  ·omega
  ·omega
  ·rw [g1, take_succ_nth (by omega)]; simp
  ·simp; omega
 ·try simp at c0
  refine VS_exit (VS_seq (VS_r0 rfl (q_mv rfl (q_mv rfl (rg_nil (VS_ret ?_))))))
  have e : i = xs.length := by omega
  subst e
  rw [List.take_length] at g1
  subst g1
  refine Bd.pureB 2 0 3 1 (xs := dI (keysR xs)) rfl rfl (toPVs_dI _) ?_
  exact Bd.now ⟨_, rfl, rfl⟩
theorem sl_spec_copyRow : slimF prog 104 = some (6, (.seq (.reg 0 (.o 2 (.mv (.c .nils)) .nil)) (.seq (.reg 0 (.o 3 (.lit 81 2 0 [.pv (.int .i64 0), .pv (.int .i64 0)] []) (.o 4 (.mv (.t 0)) (.o 5 (.app 81 2 16 (.t 3) (.t 4)) (.o 2 (.mv (.t 5)) .nil))))) .ret), [.t 2])) := by kernel_rfl
theorem c_spec_copyRow (xs : List (Int × Int)) (hl : xs.length ≤ 100000000) : NewS prog 104 81 2 [prs xs] (dP xs) := by
 refine callS_of_VS sl_spec_copyRow (by simp) (VS_seq (VS_r0 rfl (q_mv rfl (rg_nil (VS_seq (VS_r0 rfl (q_lit0 (q_mv rfl (q_app_zm (ys := xs) (f := fun k => .pv (pairP k)) rfl (elems_P xs) (cell_P xs) ⟨by omega, by omega⟩ trivial (q_mv rfl (rg_nil (VS_ret ?_))))))))))))
 exact Bd.now ⟨ownD 0 (dP xs), by cases xs <;> rfl, rfl, rfl⟩
theorem sl_spec_validRow : slimF prog 63 = some (25, (.seq (.reg 0 (.o 2 (.mv (.c (.pv (.bool false)))) .nil)) (.seq (.seq (.reg 0 (.o 3 (.mv (.c (.pv (.int .i64 0)))) .nil)) (.block 0 (.loop (.seq (.seq (.reg 0 (.o 4 (.mv (.t 3)) (.o 5 (.mv (.t 0)) (.o 6 (.len (.t 5)) (.o 7 (.bin .lss (.t 4) (.t 6)) .nil))))) (.cond (.t 7) .skip (.exit 0))) (.seq (.block 1 (.seq (.reg 0 (.o 10 (.mv (.t 0)) (.o 11 (.mv (.t 3)) (.o 12 (.idx 2 (.t 10) (.t 11)) (.o 13 (.fld 1 1 false (.t 12)) (.o 14 (.load 1 false (.t 13)) (.o 15 (.call 50 [.t 14, .c (.pv (.int .i64 (-1000))), .c (.pv (.int .i64 1000))]) (.o 16 (.not (.t 15)) .nil)))))))) (.cond (.t 16) (.seq (.reg 0 (.o 2 (.mv (.c (.pv (.bool false)))) .nil)) .ret) .skip))) (.reg 0 (.o 8 (.mv (.t 3)) (.o 9 (.bin .add (.t 8) (.c (.pv (.int .i64 1)))) (.o 3 (.mv (.t 9)) .nil))))))))) (.seq (.reg 0 (.o 17 (.mv (.t 0)) (.o 18 (.len (.t 17)) (.o 19 (.bin .leq (.t 18) (.c (.pv (.int .i64 24)))) (.o 20 (.mv (.t 19)) (.g 21 20 true (.mv (.t 0)) (.g 22 20 true (.call 79 [.t 21]) (.g 23 20 true (.call 69 [.t 22]) (.o 24 (.pick (.t 20) (.t 23) (.c (.pv (.bool false)))) (.o 2 (.mv (.t 24)) .nil)))))))))) .ret)), [.t 2])) := by kernel_rfl
theorem c_spec_validRow (xs : List (Int × Int)) (hl : xs.length ≤ 100000000) : PCon prog 63 [prs xs] (fun p => p = .bool (goodR xs)) := by
 refine con_of_VS sl_spec_validRow (by simp) (VS_seq (VS_r0 rfl (q_mv rfl (rg_nil (VS_seq (VS_seq (VS_r0 rfl (q_mv rfl (rg_nil (VS_block ?_))))))))))
 refine VS_bd (Bd.keepL [(0, .pv (prs xs)), (2, .pv (.bool false)), (3, .pv (i64 0))] ⟨rfl, rfl, rfl, trivial⟩ ?_)
 refine VS_loop (fun mz E S => ∃ i : Nat, mz = xs.length - i ∧ (i ≤ xs.length) ∧ (∀ j, j < i → (decide (-1000 ≤ (nth xs j).2) && decide ((nth xs j).2 ≤ 1000)) = true) ∧ E = env [(0, .pv (prs xs)), (2, .pv (.bool false)), (3, .pv (i64 i))] ∧ S = []) ⟨_, 0, rfl, (by omega), (by omega), rfl, rfl⟩ ?_
 rintro mz _ _ ⟨i, hmeas, g0, g1, rfl, rfl⟩
 refine VS_seq (VS_seq (VS_r0 rfl (q_mv rfl (q_mv rfl (q_len_m rfl (q_lss rfl rfl (rg_nil ?_)))))))
 refine VS_cond rfl (fun c0 => ?_) (fun c0 => ?_)
 ·try simp at c0
  refine VS_skip (VS_seq (VS_block (VS_seq (VS_r0 rfl (q_mv rfl (q_mv rfl (q_idx_c _ rfl rfl (by omega) (fun _ => rfl) (q_fld_c rfl rfl (q_load_c rfl rfl rfl (q_callp (c_spec_inRange _ _ _) rfl trivial (q_not rfl (rg_nil ?_))))))))))))
  refine VS_cond rfl (fun c1 => ?_) (fun c1 => ?_)
  ·try simp at c1
   refine VS_seq (VS_r0 rfl (q_mv rfl (rg_nil (VS_ret ?_))))
   refine Bd.now ⟨_, rfl, congrArg PV.bool ?_⟩
   rw [goodR, okVals_false i (by omega) (by simp; omega)]; rfl
  ·try simp at c1
   refine VS_skip (VS_r0 rfl (q_mv rfl (q_add rfl rfl (inR64 (by omega)) (q_mv rfl (rg_nil ?_)))))
   refine Bd.keepL [(0, .pv (prs xs)), (2, .pv (.bool false)), (3, .pv (i64 (i + 1)))] ⟨rfl, rfl, rfl, trivial⟩ ⟨_, ?_, i + 1, rfl, ?_, ?_, rfl, rfl⟩
   ·omega
   ·omega
   ·intro j hj
    by_cases e : j = i
    ·subst e; simp_all
    ·exact g1 j (by omega)
 ·try simp at c0
  refine VS_exit (VS_seq (VS_r0 rfl (q_mv rfl (q_len_m rfl (q_leq rfl rfl (q_mv rfl ?_))))))
  refine q_b rfl (fun g20 => ?_) (fun g20 => ?_)
  ·try simp at g20
   refine q_t rfl (q_mv rfl (q_t rfl (q_callp (c_spec_keysOf xs hl) rfl trivial (q_t rfl (q_callp (c_spec_validKeys (keysR xs) (by simp; omega)) rfl trivial (q_pick_t rfl rfl (q_mv rfl (rg_nil (VS_ret ?_)))))))))
   refine Bd.now ⟨_, rfl, congrArg PV.bool ?_⟩
   rw [goodR, okVals_true fun j hj => g1 j (by omega)]
   (simp; intros; omega)
  ·try simp at g20
   refine q_f rfl (q_f rfl (q_f rfl (q_pick_f rfl rfl (q_mv rfl (rg_nil (VS_ret ?_))))))
   refine Bd.now ⟨_, rfl, congrArg PV.bool ?_⟩
   rw [goodR, okVals_true fun j hj => g1 j (by omega)]
   (simp; intros; omega)
end Go.V

set_option maxHeartbeats 4000000
namespace Go.V
open Go.Proofs.Try (prog)
theorem zj (os : List Nat) : ∀ i, i < 0 → os[i]? = some i := fun i hi => absurd hi (Nat.not_lt_zero i)
set_option maxRecDepth 100000
theorem sl_spec_put : slimF prog 96 = some (40, (.seq (.reg 0 (.o 3 (.box 81 2 (.t 1)) (.o 4 (.mv (.c .nils)) .nil))) (.seq (.reg 2 (.o 7 (.mv (.t 0)) (.o 9 (.fld 0 1 false (.t 3)) (.o 10 (.load 1 false (.t 9)) (.o 8 (.call 79 [.t 7]) (.o 11 (.call 103 [.t 8, .t 10]) (.o 5 (.mv (.t 11)) .nil))))))) (.seq (.reg 2 (.o 12 (.mv (.t 0)) (.o 13 (.mv (.t 5)) (.o 14 (.slc 2 (.t 12) none (some (.t 13))) (.o 16 (.load 2 true (.t 3)) (.o 17 (.lit 81 2 1 [.pv (.int .i64 0), .pv (.int .i64 0)] [(0, .t 16)]) (.o 15 (.call 104 [.t 14]) (.o 18 (.app 81 2 16 (.t 15) (.t 17)) (.o 6 (.mv (.t 18)) .nil))))))))) (.seq (.seq (.reg 1 (.o 19 (.mv (.t 5)) (.o 20 (.mv (.t 0)) (.o 21 (.len (.t 20)) (.o 22 (.bin .lss (.t 19) (.t 21)) (.o 23 (.mv (.t 22)) (.g 24 23 true (.mv (.t 0)) (.g 25 23 true (.mv (.t 5)) (.g 26 23 true (.idx 2 (.t 24) (.t 25)) (.g 27 23 true (.fld 0 1 false (.t 26)) (.g 28 23 true (.load 1 false (.t 27)) (.g 29 23 true (.fld 0 1 false (.t 3)) (.g 30 23 true (.load 1 false (.t 29)) (.g 31 23 true (.bin .eql (.t 28) (.t 30)) (.o 32 (.pick (.t 23) (.t 31) (.c (.pv (.bool false)))) .nil))))))))))))))) (.cond (.t 32) (.reg 0 (.o 33 (.mv (.t 5)) (.o 34 (.bin .add (.t 33) (.c (.pv (.int .i64 1)))) (.o 5 (.mv (.t 34)) .nil)))) .skip)) (.seq (.reg 0 (.o 35 (.mv (.t 6)) (.o 36 (.mv (.t 0)) (.o 37 (.mv (.t 5)) (.o 38 (.slc 2 (.t 36) (some (.t 37)) none) (.o 39 (.app 81 2 16 (.t 35) (.t 38)) (.o 4 (.mv (.t 39)) .nil))))))) .ret)))), [.t 4])) := by kernel_rfl
theorem c_spec_put (xs : List (Int × Int)) (a b : Int) (hl : xs.length ≤ 1000000) : NewS prog 96 81 2 [prs xs, pairP (a, b)] (dP (putR xs (a, b))) := by
 refine callS_of_VS sl_spec_put (by simp) (VS_seq (VS_r0 rfl (q_box rfl rfl rfl trivial (q_mv rfl (rg_nil (VS_seq (VS_r2 [some ⟨81, 2, [.pv (pairP (a, b))]⟩] hmix (SubL.sub (by repeat constructor)) (q_mv rfl (q_fld_r rfl (q_load_r rfl rfl rfl rfl rfl rfl rfl (q_callp (c_spec_keysOf xs (by omega)) rfl (Sub.refl _) (q_callp ((c_spec_below (keysR xs) a (by simp; omega)).to (y := i64 (atR xs a)) rfl) rfl (Sub.refl _) (q_mv rfl (rg_nil (VS_seq ?_)))))))))))))))
 have hat := atR_le xs a
 refine VS_r2 [some ⟨81, 2, [.pv (pairP (a, b))]⟩] hmix (SubL.sub (by repeat constructor)) (q_mv rfl (q_mv rfl (q_slc_m (xs := xs) (f := pairP) 0 (atR xs a) rfl rfl rfl ⟨rfl, rfl, by omega, by omega⟩ (fun _ => rfl) (q_load_ra rfl rfl rfl rfl rfl (by (simp; done)) rfl (q_lit rfl rfl rfl rfl (q_new rfl (c_spec_copyRow ((xs.take (atR xs a)).drop 0) (by simp; omega)) (flat_P _) (by rfl) (Sub.app _ _) (q_app_dm (xs := (xs.take (atR xs a)).drop 0) (ys := [(a, b)]) (f := fun k => .pv (pairP k)) rfl rfl rfl rfl ⟨by simp; omega, by simp; omega⟩ (Sub.app _ _) (q_mv rfl (rg_nil (VS_seq (VS_seq (VS_r1 hmix rfl (q_mv rfl (q_mv rfl (q_len_m rfl ?_)))))))))))))))
 refine q_lss rfl rfl (q_mv rfl ?_)
 refine q_b rfl (fun g23 => ?_) (fun g23 => ?_)
 ·try simp at g23
  refine q_t rfl (q_mv rfl (q_t rfl (q_mv rfl (q_t rfl (q_idx_c _ rfl rfl (by omega) (fun _ => rfl) (q_t rfl (q_fld_c rfl rfl (q_t rfl (q_load_c rfl rfl rfl (q_t rfl (q_fld_r rfl (q_t rfl (q_load_r rfl rfl rfl rfl rfl rfl rfl (q_t rfl (q_eql rfl rfl ?_)))))))))))))))
  refine q_pick_t rfl rfl (rg_nil ?_)
  refine VS_cond rfl (fun c0 => ?_) (fun c0 => ?_)
  ·try simp at c0
   have ht : thereR xs a = true := by simp_all [thereR]
   refine VS_r0 rfl (q_mv rfl (q_add rfl rfl (inR64 (by omega)) (q_mv rfl (rg_nil (VS_seq (VS_r0 rfl (q_mv rfl (q_mv rfl (q_mv rfl ?_)))))))))
   first
    | fail
    | refine q_slc_m (xs := xs) (f := pairP) (atR xs a + (if thereR xs a then 1 else 0)) xs.length rfl rfl rfl ⟨by rw [ht]; simp, by simp, by rw [ht]; simp; omega, Nat.le_refl _⟩ (fun _ => rfl) ?_
   first
    | refine q_app_dm (xs := (xs.take (atR xs a)).drop 0 ++ [(a, b)]) (ys := (xs.take xs.length).drop (atR xs a + (if thereR xs a then 1 else 0))) (f := fun k => .pv (pairP k)) rfl (elems_P _) (cell_P _) rfl ⟨by simp; omega, by simp; omega⟩ trivial ?_
    | refine q_app_dm (xs := (xs.take (atR xs a)).drop 0 ++ [(a, b)]) (ys := (xs.take xs.length).drop (atR xs a)) (f := fun k => .pv (pairP k)) rfl (elems_P _) (cell_P _) rfl ⟨by simp; omega, by simp; omega⟩ trivial ?_
   refine q_mv rfl (rg_nil (VS_ret ?_))
   have e : (xs.take (atR xs a)).drop 0 ++ [(a, b)] ++ (xs.take xs.length).drop (atR xs a + (if thereR xs a then 1 else 0)) = putR xs (a, b) := by cases hh : thereR xs a <;> simp [putR, hh]
   show Bd _ _ _ _
   refine Bd.renL [3] (zj _) (by simp) [(4, ownD 0 (dP ((xs.take (atR xs a)).drop 0 ++ [(a, b)] ++ (xs.take xs.length).drop (atR xs a + (if thereR xs a then 1 else 0)))))] (by exact ⟨inv_own rfl, trivial⟩) (by exact l1 (obD_mP _)) ?_
   exact ⟨_, res_own rfl, congrArg (fun l => ownD 0 (dP l)) e, congrArg (fun l => [obD _ _ (dP l)]) e⟩
  ·try simp at c0
   have ht : thereR xs a = false := by simp_all [thereR]
   refine VS_skip (VS_seq (VS_r0 rfl (q_mv rfl (q_mv rfl (q_mv rfl ?_)))))
   first
    | fail
    | refine q_slc_m (xs := xs) (f := pairP) (atR xs a + (if thereR xs a then 1 else 0)) xs.length rfl rfl rfl ⟨by rw [ht]; simp, by simp, by rw [ht]; simp; omega, Nat.le_refl _⟩ (fun _ => rfl) ?_
   first
    | refine q_app_dm (xs := (xs.take (atR xs a)).drop 0 ++ [(a, b)]) (ys := (xs.take xs.length).drop (atR xs a + (if thereR xs a then 1 else 0))) (f := fun k => .pv (pairP k)) rfl (elems_P _) (cell_P _) rfl ⟨by simp; omega, by simp; omega⟩ trivial ?_
    | refine q_app_dm (xs := (xs.take (atR xs a)).drop 0 ++ [(a, b)]) (ys := (xs.take xs.length).drop (atR xs a)) (f := fun k => .pv (pairP k)) rfl (elems_P _) (cell_P _) rfl ⟨by simp; omega, by simp; omega⟩ trivial ?_
   refine q_mv rfl (rg_nil (VS_ret ?_))
   have e : (xs.take (atR xs a)).drop 0 ++ [(a, b)] ++ (xs.take xs.length).drop (atR xs a + (if thereR xs a then 1 else 0)) = putR xs (a, b) := by cases hh : thereR xs a <;> simp [putR, hh]
   show Bd _ _ _ _
   refine Bd.renL [3] (zj _) (by simp) [(4, ownD 0 (dP ((xs.take (atR xs a)).drop 0 ++ [(a, b)] ++ (xs.take xs.length).drop (atR xs a + (if thereR xs a then 1 else 0)))))] (by exact ⟨inv_own rfl, trivial⟩) (by exact l1 (obD_mP _)) ?_
   exact ⟨_, res_own rfl, congrArg (fun l => ownD 0 (dP l)) e, congrArg (fun l => [obD _ _ (dP l)]) e⟩
 ·try simp at g23
  have ht : thereR xs a = false := by rw [thereR, decide_eq_false (by omega), Bool.false_and]
  refine q_f rfl (q_f rfl (q_f rfl (q_f rfl (q_f rfl (q_f rfl (q_f rfl (q_f rfl (q_pick_f rfl rfl (rg_nil ?_)))))))))
  refine VS_cond rfl (fun e => by cases e) (fun _ => ?_)
  refine VS_skip (VS_seq (VS_r0 rfl (q_mv rfl (q_mv rfl (q_mv rfl ?_)))))
  first
   | fail
   | refine q_slc_m (xs := xs) (f := pairP) (atR xs a + (if thereR xs a then 1 else 0)) xs.length rfl rfl rfl ⟨by rw [ht]; simp, by simp, by rw [ht]; simp; omega, Nat.le_refl _⟩ (fun _ => rfl) ?_
  first
   | refine q_app_dm (xs := (xs.take (atR xs a)).drop 0 ++ [(a, b)]) (ys := (xs.take xs.length).drop (atR xs a + (if thereR xs a then 1 else 0))) (f := fun k => .pv (pairP k)) rfl (elems_P _) (cell_P _) rfl ⟨by simp; omega, by simp; omega⟩ trivial ?_
   | refine q_app_dm (xs := (xs.take (atR xs a)).drop 0 ++ [(a, b)]) (ys := (xs.take xs.length).drop (atR xs a)) (f := fun k => .pv (pairP k)) rfl (elems_P _) (cell_P _) rfl ⟨by simp; omega, by simp; omega⟩ trivial ?_
  refine q_mv rfl (rg_nil (VS_ret ?_))
  have e : (xs.take (atR xs a)).drop 0 ++ [(a, b)] ++ (xs.take xs.length).drop (atR xs a + (if thereR xs a then 1 else 0)) = putR xs (a, b) := by cases hh : thereR xs a <;> simp [putR, hh]
  show Bd _ _ _ _
  refine Bd.renL [3] (zj _) (by simp) [(4, ownD 0 (dP ((xs.take (atR xs a)).drop 0 ++ [(a, b)] ++ (xs.take xs.length).drop (atR xs a + (if thereR xs a then 1 else 0)))))] (by exact ⟨inv_own rfl, trivial⟩) (by exact l1 (obD_mP _)) ?_
  exact ⟨_, res_own rfl, congrArg (fun l => ownD 0 (dP l)) e, congrArg (fun l => [obD _ _ (dP l)]) e⟩
end Go.V

set_option maxHeartbeats 4000000
namespace Go.V
open Go.Proofs.Try (prog)
theorem ok {os : List Nat} (h : os[0]? = some 0) : ∀ i, i < 1 → os[i]? = some i := fun i hi => by
 have e : i = 0 := by omega
 subst e; exact h
set_option maxRecDepth 100000
theorem sl_spec_goodRow : slimF prog 77 = some (29, (.seq (.reg 0 (.o 2 (.mv (.c .nils)) .nil)) (.seq (.reg 0 (.o 6 (.lit 81 2 0 [.pv (.int .i64 0), .pv (.int .i64 0)] []) (.o 3 (.mv (.t 6)) .nil))) (.seq (.seq (.reg 0 (.o 7 (.mv (.t 0)) (.o 8 (.lit 3 1 8 [.pv (.int .i64 0)] [(0, .c (.pv (.int .i64 6))), (1, .c (.pv (.int .i64 9))), (2, .c (.pv (.int .i64 13))), (3, .c (.pv (.int .i64 4))), (4, .c (.pv (.int .i64 20))), (5, .c (.pv (.int .i64 24))), (6, .c (.pv (.int .i64 1))), (7, .c (.pv (.int .i64 0)))]) (.o 9 (.call 47 [.t 7, .t 8]) (.o 4 (.mv (.t 9)) .nil))))) (.block 0 (.loop (.seq (.seq (.reg 0 (.o 10 (.mv (.t 4)) (.o 11 (.bin .gtr (.t 10) (.c (.pv (.int .i64 0)))) .nil))) (.cond (.t 11) .skip (.exit 0))) (.seq (.block 1 (.seq (.reg 0 (.o 14 (.mv (.t 0)) (.o 15 (.call 48 [.t 14, .c (.pv (.int .i64 100))]) (.o 16 (.mv (.t 0)) (.o 17 (.call 48 [.t 16, .c (.pv (.int .i64 200))]) (.o 18 (.bin .sub (.t 17) (.c (.pv (.int .i64 100)))) (.o 19 (.build [.pv (.int .i64 0), .pv (.int .i64 0)] [(0, (1, .t 15)), (1, (1, .t 18))]) (.o 5 (.alloc 81 2 (.agg [.pv (.int .i64 0), .pv (.int .i64 0)])) (.op ⟨none, none, .store 2 (.t 5) (.t 19)⟩ .nil))))))))) (.seq (.reg 0 (.o 20 (.mv (.t 3)) (.o 21 (.load 2 true (.t 5)) (.o 22 (.call 96 [.t 20, .t 21]) (.o 23 (.len (.t 22)) (.o 24 (.bin .leq (.t 23) (.c (.pv (.int .i64 24)))) .nil)))))) (.cond (.t 24) (.reg 0 (.o 25 (.mv (.t 3)) (.o 26 (.load 2 true (.t 5)) (.o 27 (.call 96 [.t 25, .t 26]) (.o 3 (.mv (.t 27)) .nil))))) .skip)))) (.reg 0 (.o 12 (.mv (.t 4)) (.o 13 (.bin .sub (.t 12) (.c (.pv (.int .i64 1)))) (.o 4 (.mv (.t 13)) .nil))))))))) (.seq (.reg 0 (.o 28 (.mv (.t 3)) (.o 2 (.mv (.t 28)) .nil))) .ret))), [.t 2])) := by kernel_rfl
end Go.V
