/- A part of the proofs about laws of the page tree (see the text that bears the law): a small language of steps, its rules, and what the functions of the program return. -/
import Derived.Test.YtgblkaealpggdaaWI
import Derived.Test.YtgblkaealpggdaaLG
set_option linter.all false
set_option linter.unusedVariables false
set_option linter.unusedSimpArgs false
set_option maxHeartbeats 4000000
namespace Go.V
open Go.Proofs.Try (prog)
theorem zca (os : List Nat) : ∀ i, i < 0 → os[i]? = some i := fun i hi => absurd hi (Nat.not_lt_zero i)
set_option maxRecDepth 100000
theorem sl_impl_loadedLeaves : slimF prog 60 = some (8, (.seq (.reg 0 (.o 2 (.mv (.c (.pv (.int .i64 0)))) .nil)) (.seq (.reg 0 (.o 3 (.mv (.t 0)) (.o 4 (.bin .add (.t 3) (.c (.pv (.int .i64 4)))) (.o 5 (.bin .sub (.t 4) (.c (.pv (.int .i64 1)))) (.o 6 (.bin .quo (.t 5) (.c (.pv (.int .i64 4)))) (.o 7 (.mx (.c (.pv (.int .i64 1))) (.t 6)) (.o 2 (.mv (.t 7)) .nil))))))) .ret), [.t 2])) := by kernel_rfl
theorem c_impl_loadedLeaves (m : Nat) (hm : m ≤ 24) : PCon prog 60 [i64 m] (fun p => p = i64 (nlv m)) := by
 refine con_of_VS sl_impl_loadedLeaves (by simp) (VS_seq (VS_r0 rfl (q_mv rfl (rg_nil (VS_seq (VS_r0 rfl (q_mv rfl (q_add rfl rfl (inR64 (by omega)) (q_sub rfl rfl (inR64 (by omega)) (q_quo_to (((m + 3) / 4 : Nat) : Int) rfl rfl ⟨by omega, by omega⟩ (by omega) (inR64 (by omega)) (q_mx_to ((nlv m : Nat) : Int) rfl rfl (by simp only [nlv]; omega) (q_mv rfl (rg_nil (VS_ret ?_))))))))))))))
 exact Bd.now ⟨_, rfl, rfl⟩
theorem sl_impl_valuesOfRow : slimF prog 102 = some (23, (.seq (.reg 0 (.o 2 (.mv (.c .nils)) .nil)) (.seq (.reg 0 (.o 6 (.mv (.t 0)) (.o 7 (.len (.t 6)) (.o 8 (.mks 3 1 8 (.pv (.int .i64 0)) (.t 7)) (.o 3 (.mv (.t 8)) .nil))))) (.seq (.seq (.reg 0 (.o 9 (.mv (.t 0)) (.o 10 (.len (.t 9)) (.o 11 (.mv (.c (.pv (.int .i64 0)))) .nil)))) (.block 0 (.loop (.seq (.reg 0 (.o 12 (.bin .lss (.t 11) (.t 10)) .nil)) (.seq (.cond (.t 12) .skip (.exit 0)) (.seq (.block 1 (.seq (.reg 0 (.o 13 (.mv (.t 11)) (.o 14 (.idx 2 (.t 9) (.t 11)) (.o 15 (.load 2 true (.t 14)) (.o 5 (.alloc 81 2 (.agg [.pv (.int .i64 0), .pv (.int .i64 0)])) (.o 4 (.mv (.t 13)) (.op ⟨none, none, .store 2 (.t 5) (.t 15)⟩ .nil))))))) (.reg 0 (.o 16 (.mv (.t 3)) (.o 17 (.mv (.t 4)) (.o 18 (.fld 1 1 false (.t 5)) (.o 19 (.load 1 false (.t 18)) (.o 20 (.idx 1 (.t 16) (.t 17)) (.op ⟨none, none, .store 1 (.t 20) (.t 19)⟩ .nil))))))))) (.reg 0 (.o 21 (.bin .add (.t 11) (.c (.pv (.int .i64 1)))) (.o 11 (.mv (.t 21)) .nil))))))))) (.seq (.reg 0 (.o 22 (.mv (.t 3)) (.o 2 (.mv (.t 22)) .nil))) .ret))), [.t 2])) := by kernel_rfl
theorem c_impl_valuesOfRow (xs : List (Int × Int)) (hl : xs.length ≤ 1000000) : PCon prog 102 [prs xs] (fun p => p = ints (xs.map Prod.snd)) := by
 refine con_of_VS sl_impl_valuesOfRow (by simp) (VS_seq (VS_r0 rfl (q_mv rfl (rg_nil (VS_seq (VS_r0 rfl (q_mv rfl (q_len_m rfl (q_mks rfl ⟨by omega, by omega, by omega⟩ trivial (q_mv rfl (rg_nil (VS_seq (VS_seq (VS_r0 rfl (q_mv rfl ?_)))))))))))))))
 refine q_len_m rfl (q_mv rfl (rg_nil (VS_block ?_)))
 refine VS_bd (Bd.keepL [(0, .pv (prs xs)), (3, .own 0 xs.length), (9, .pv (prs xs)), (10, .pv (i64 xs.length)), (11, .pv (i64 0))] ⟨rfl, rfl, rfl, rfl, rfl, trivial⟩ ?_)
 refine VS_loop (fun mz E S => ∃ i : Nat, ∃ ys : List Int, mz = xs.length - i ∧ (i ≤ xs.length) ∧ (ys.take i = (xs.take i).map Prod.snd) ∧ (ys.length = xs.length) ∧ E = env [(0, .pv (prs xs)), (3, .own 0 xs.length), (9, .pv (prs xs)), (10, .pv (i64 xs.length)), (11, .pv (i64 i))] ∧ S = [some ⟨3, 1, dI ys⟩]) ⟨_, 0, List.replicate xs.length 0, rfl, (by omega), rfl, (by simp), rfl, (by simp)⟩ ?_
 rintro mz _ _ ⟨i, ys, hmeas, g0, g1, g2, rfl, rfl⟩
 refine VS_seq (VS_r0 rfl (q_lss rfl rfl (rg_nil (VS_seq ?_))))
 refine VS_cond rfl (fun c0 => ?_) (fun c0 => ?_)
 ·try simp at c0
  refine VS_skip (VS_seq (VS_block (VS_seq (VS_r0 rfl (q_mv rfl (q_idx_c _ rfl rfl (by omega) (fun _ => rfl) (q_load_c rfl rfl rfl (q_alloc trivial (q_mv rfl (q_store rfl rfl rfl rfl rfl rfl ⟨rfl, rfl, by simp, rfl, by simp [isOne]⟩ rfl trivial (rg_nil (VS_r0 rfl (q_mv rfl (q_mv rfl (q_fld_r rfl ?_)))))))))))))))
  refine q_load_r rfl rfl rfl rfl rfl rfl rfl (q_idx_o rfl rfl (by omega) (by omega) rfl rfl (q_store_e (xs := ys) rfl rfl rfl (by omega) trivial (rg_nil (VS_r0 rfl (q_add rfl rfl (inR64 (by omega)) (q_mv rfl (rg_nil ?_)))))))
  refine Bd.renL [0] (zca _) (by simp) [(0, .pv (prs xs)), (3, .own 0 xs.length), (9, .pv (prs xs)), (10, .pv (i64 xs.length)), (11, .pv (i64 (i + 1)))] ⟨rfl, rfl, rfl, rfl, rfl, trivial⟩ (l1 (mpO_I _)) ⟨_, ?_, i + 1, ys.set i (nth xs i).2, rfl, ?_, ?_, ?_, rfl, rfl⟩
  ·omega
  ·omega
  ·exact set_stepv (by omega) (by omega) g1
  ·simp; omega
 ·try simp at c0
  refine VS_exit (VS_seq (VS_r0 rfl (q_mv rfl (q_mv rfl (rg_nil (VS_ret ?_))))))
  have e : i = xs.length := by omega
  subst e
  rw [List.take_length, List.take_of_length_le (by omega)] at g1
  subst g1
  refine Bd.pureOB 2 0 rfl rfl (by simp) (toPVs_dI _) ?_
  exact Bd.now ⟨_, rfl, rfl⟩
theorem sl_impl_leafOf : slimF prog 92 = some (8, (.seq (.reg 0 (.o 2 (.alloc 25 3 (.agg [.nils, .nils, .nils])) .nil)) (.seq (.reg 0 (.o 3 (.mv (.t 0)) (.o 4 (.call 91 [.t 3]) (.o 5 (.mv (.t 0)) (.o 6 (.call 102 [.t 5]) (.o 7 (.build [.nils, .nils, .nils] [(0, (1, .t 4)), (2, (1, .t 6))]) (.op ⟨none, none, .store 3 (.t 2) (.t 7)⟩ .nil))))))) .ret), [.c 2 3])) := by kernel_rfl
theorem c_impl_leafOf (xs : List (Int × Int)) (hl : xs.length ≤ 1000000) : PCon prog 92 [prs xs] (fun p => p = pgP (leafG xs)) := by
 refine con_of_VS sl_impl_leafOf (by simp) (VS_seq (VS_r0 rfl (q_alloc trivial (rg_nil (VS_seq (VS_r0 rfl (q_mv rfl (q_callp (c_impl_keysOfRow xs (by omega)) rfl trivial (q_mv rfl (q_callp (c_impl_valuesOfRow xs (by omega)) rfl trivial (q_build rfl (q_store rfl rfl rfl rfl rfl rfl ⟨rfl, rfl, by simp, rfl, by simp [isOne]⟩ rfl trivial (rg_nil (VS_ret ?_))))))))))))))
 exact Bd.now ⟨_, rfl, rfl⟩
end Go.V

set_option maxHeartbeats 4000000
namespace Go.V
open Go.Proofs.Try (prog)
set_option maxRecDepth 100000
theorem sl_impl_loader_leaves : slimF prog 61 = some (43, (.seq (.reg 0 (.o 6 (.mv (.c .nils)) .nil)) (.seq (.reg 0 (.o 7 (.mv (.c .nils)) .nil)) (.seq (.seq (.reg 0 (.o 10 (.mv (.t 0)) (.o 11 (.nilc (.t 10)) (.o 12 (.fld 0 1 false (.t 11)) (.o 13 (.load 1 false (.t 12)) (.o 14 (.mv (.t 1)) (.o 15 (.mv (.t 2)) (.o 16 (.slc 1 (.t 13) (some (.t 14)) (some (.t 15))) (.o 17 (.len (.t 16)) (.o 18 (.mv (.c (.pv (.int .i64 0)))) .nil)))))))))) (.block 0 (.loop (.seq (.reg 0 (.o 19 (.bin .lss (.t 18) (.t 17)) .nil)) (.seq (.cond (.t 19) .skip (.exit 0)) (.seq (.block 1 (.seq (.reg 0 (.o 20 (.idx 1 (.t 16) (.t 18)) (.o 21 (.load 1 false (.t 20)) (.o 9 (.mv (.t 21)) .nil)))) (.seq (.reg 0 (.o 22 (.mv (.t 7)) (.o 23 (.mv (.t 0)) (.o 24 (.nilc (.t 23)) (.o 25 (.fld 1 1 false (.t 24)) (.o 26 (.load 1 false (.t 25)) (.o 27 (.len (.t 26)) (.o 28 (.lit 3 1 1 [.pv (.int .i64 0)] [(0, .t 27)]) (.o 29 (.app 3 1 8 (.t 22) (.t 28)) (.o 7 (.mv (.t 29)) .nil)))))))))) (.reg 2 (.o 30 (.mv (.t 0)) (.o 31 (.mv (.t 0)) (.o 32 (.nilc (.t 31)) (.o 33 (.fld 1 1 false (.t 32)) (.o 34 (.load 1 false (.t 33)) (.o 35 (.mv (.t 9)) (.o 36 (.call 92 [.t 35]) (.o 37 (.lit 25 3 1 [.nils, .nils, .nils] [(0, .t 36)]) (.o 38 (.app 25 3 72 (.t 34) (.t 37)) (.o 39 (.nilc (.t 30)) (.o 40 (.fld 1 1 false (.t 39)) (.last ⟨none, none, .store 1 (.t 40) (.t 38)⟩)))))))))))))))) (.reg 0 (.o 41 (.bin .add (.t 18) (.c (.pv (.int .i64 1)))) (.o 18 (.mv (.t 41)) .nil))))))))) (.seq (.reg 0 (.o 42 (.mv (.t 7)) (.o 6 (.mv (.t 42)) .nil))) .ret))), [.t 6])) := by kernel_rfl
theorem c_impl_loader_leaves (qs : List (List (Int × Int))) (ps : List Pg) (a b : Nat) (hab : a ≤ b ∧ b ≤ qs.length) (hq : qs.length ≤ 6) (hp : ps.length ≤ 100) (hz : ∀ x ∈ qs, x.length ≤ 24) : CallS prog 61 [.ptr 0 0 0, .pv (i64 a), .pv (i64 b)] [ldC 77 1 qs ps, obD 25 3 (dG ps)] (fun d S => ∃ T, d = .pv (ints (natI ps.length (b - a))) ∧ S = ldC 77 2 qs (ps ++ (midR qs a b).map leafG) :: none :: obD 25 3 (dG (ps ++ (midR qs a b).map leafG)) :: T) := by
 have hml := mid_len hab
 refine callS_of_VS sl_impl_loader_leaves (by simp) (VS_seq ?_)
 refine VS_bd (Bd.ld0 ?_)
 refine VS_r0 rfl (q_mv rfl (rg_nil (VS_seq (VS_r0 rfl (q_mv rfl (rg_nil (VS_seq (VS_seq (VS_r0 rfl (q_mv rfl (q_nilc_r rfl (q_fld_r rfl (q_load_r rfl rfl rfl rfl rfl rfl rfl (q_mv rfl (q_mv rfl ?_)))))))))))))))
 refine q_slc_m (xs := qs) (f := prs) a b rfl rfl rfl ⟨rfl, rfl, by omega, by omega⟩ (fun _ => rfl) (q_len_m rfl (q_mv rfl (rg_nil (VS_block ?_))))
 refine VS_bd (Bd.pad ?_)
 refine VS_bd (Bd.keepL [(0, .ptr 0 0 0), (7, ownD 3 (dI ([]))), (16, .pv (prtsP (midR qs a b))), (17, .pv (i64 (midR qs a b).length)), (18, .pv (i64 0))] ⟨rfl, rfl, rfl, rfl, rfl, trivial⟩ ?_)
 refine VS_loop (fun mz E S => ∃ i : Nat, ∃ ns : List Int, ∃ zs : List Pg, mz = (midR qs a b).length - i ∧ (i ≤ (midR qs a b).length) ∧ (ns = natI ps.length i) ∧ (zs = ps ++ ((midR qs a b).take i).map leafG) ∧ (ns.length = i ∧ zs.length = ps.length + i) ∧ E = env [(0, .ptr 0 0 0), (7, ownD 3 (dI ns)), (16, .pv (prtsP (midR qs a b))), (17, .pv (i64 (midR qs a b).length)), (18, .pv (i64 i))] ∧ S = [ldC 77 2 qs zs, none, obD 25 3 (dG zs), obD 3 1 (dI ns)]) ⟨_, 0, [], ps, rfl, (by omega), rfl, (by simp), ⟨rfl, rfl⟩, rfl, rfl⟩ ?_
 rintro mz _ _ ⟨i, ns, zs, hmeas, g0, g1, g2, g3, rfl, rfl⟩
 refine VS_seq (VS_r0 rfl (q_lss rfl rfl (rg_nil (VS_seq ?_))))
 refine VS_cond rfl (fun c0 => ?_) (fun c0 => ?_)
 ·try simp at c0
  have hz2 := hz _ (List.mem_of_mem_take (List.mem_of_mem_drop (nth_mem (xs := (midR qs a b)) (i := i) (by omega))))
  refine VS_skip (VS_seq (VS_block (VS_seq (VS_r0 rfl (q_idx_m (f := prs) (xs := (midR qs a b)) (n := (i : Int)) rfl rfl (by omega) (by omega) (fun _ => rfl) (q_load_c rfl rfl rfl (q_mv rfl (rg_nil (VS_seq (VS_r0 rfl (q_mv rfl (q_mv rfl (q_nilc_r rfl (q_fld_r rfl (q_load_o rfl rfl rfl rfl rfl ?_)))))))))))))))
  refine q_len_dm rfl (q_lit (xs := [i64 zs.length]) rfl rfl rfl rfl (q_app_dm (xs := ns) (ys := [(zs.length : Int)]) (f := fun k => .pv (i64 k)) rfl rfl rfl rfl ⟨by simp; omega, by simp; omega⟩ trivial (q_mv rfl (rg_nil (VS_r2 [ldC 77 2 qs zs] hmix (SubL.sub (by repeat constructor)) (q_mv rfl (q_mv rfl (q_nilc_r rfl (q_fld_r rfl (q_load_o rfl rfl rfl rfl rfl (q_mv rfl (q_callp (c_impl_leafOf (nth (midR qs a b) i) (by omega)) rfl (Sub.app _ _) (q_lit (xs := [pgP (leafG (nth (midR qs a b) i))]) rfl rfl rfl rfl (q_app_dm (xs := zs) (ys := [leafG (nth (midR qs a b) i)]) (f := fun p => .pv (pgP p)) rfl rfl rfl rfl ⟨by simp; omega, by simp; omega⟩ (Sub.app _ _) (q_nilc_r rfl ?_)))))))))))))))
  refine q_fld_r rfl (q_last (q_storeF rfl rfl rfl rfl rfl (by (simp; done)) trivial (rg_nil (VS_r0 rfl (q_add rfl rfl (inR64 (by omega)) (q_mv rfl (rg_nil ?_)))))))
  refine Bd.renL [0, 1, 5, 4] (fun i hi => by (have e : i = 0 ∨ i = 1 := (by simp at hi; omega); rcases e with rfl | rfl <;> rfl)) (by simp) [(0, .ptr 0 0 0), (7, ownD 3 (dI (ns ++ [(zs.length : Int)]))), (16, .pv (prtsP (midR qs a b))), (17, .pv (i64 (midR qs a b).length)), (18, .pv (i64 (i + 1)))] ⟨rfl, inv_own rfl, rfl, rfl, rfl, trivial⟩ (l4 (ldC_mp (mp1_own rfl)) rfl (obD_mG _) (obD_mI _)) ⟨_, ?_, i + 1, ns ++ [(zs.length : Int)], zs ++ [leafG (nth (midR qs a b) i)], rfl, ?_, ?_, ?_, ?_, rfl, rfl⟩
  ·omega
  ·omega
  ·rw [natI_succ, g1, g3.2]
  ·rw [g2, take_succ_nth (by omega), List.map_append, List.append_assoc]; rfl
  ·simp; omega
 ·try simp at c0
  refine VS_exit (VS_seq (VS_r0 rfl (q_mv rfl (q_mv rfl (rg_nil (VS_ret ?_))))))
  have e : i = (midR qs a b).length := by omega
  rw [e, List.take_length] at g2
  rw [e, hml] at g1
  refine Bd.pureB 6 3 3 1 (xs := dI ns) rfl rfl (toPVs_dI _) ?_
  exact Bd.now ⟨_, rfl, _, by rw [← g1]; rfl, by rw [← g2]; rfl⟩
theorem sl_impl_loader_inner : slimF prog 62 = some (62, (.seq (.reg 0 (.o 6 (.mv (.c (.pv (.int .i64 0)))) .nil)) (.seq (.reg 0 (.o 12 (.mv (.t 0)) (.o 13 (.nilc (.t 12)) (.o 14 (.fld 1 1 false (.t 13)) (.o 15 (.load 1 false (.t 14)) (.o 16 (.len (.t 15)) (.o 7 (.mv (.t 16)) .nil))))))) (.seq (.reg 0 (.o 17 (.mv (.t 0)) (.o 18 (.mv (.t 0)) (.o 19 (.nilc (.t 18)) (.o 20 (.fld 1 1 false (.t 19)) (.o 21 (.load 1 false (.t 20)) (.o 22 (.build [.nils, .nils, .nils] []) (.o 23 (.lit 25 3 1 [.nils, .nils, .nils] [(0, .t 22)]) (.o 24 (.app 25 3 72 (.t 21) (.t 23)) (.o 25 (.nilc (.t 17)) (.o 26 (.fld 1 1 false (.t 25)) (.op ⟨none, none, .store 1 (.t 26) (.t 24)⟩ .nil)))))))))))) (.seq (.reg 0 (.o 8 (.mv (.c .nils)) .nil)) (.seq (.seq (.reg 0 (.o 27 (.mv (.t 0)) (.o 28 (.nilc (.t 27)) (.o 29 (.fld 0 1 false (.t 28)) (.o 30 (.load 1 false (.t 29)) (.o 31 (.mv (.t 1)) (.o 32 (.bin .add (.t 31) (.c (.pv (.int .i64 1)))) (.o 33 (.mv (.t 2)) (.o 34 (.slc 1 (.t 30) (some (.t 32)) (some (.t 33))) (.o 35 (.len (.t 34)) (.o 36 (.mv (.c (.pv (.int .i64 0)))) .nil))))))))))) (.block 0 (.loop (.seq (.reg 0 (.o 37 (.bin .lss (.t 36) (.t 35)) .nil)) (.seq (.cond (.t 37) .skip (.exit 0)) (.seq (.block 1 (.seq (.reg 0 (.o 38 (.idx 1 (.t 34) (.t 36)) (.o 39 (.load 1 false (.t 38)) (.o 10 (.mv (.t 39)) .nil)))) (.reg 0 (.o 40 (.mv (.t 8)) (.o 41 (.mv (.t 10)) (.o 42 (.idx 2 (.t 41) (.c (.pv (.int .i64 0)))) (.o 43 (.fld 0 1 false (.t 42)) (.o 44 (.load 1 false (.t 43)) (.o 45 (.lit 3 1 1 [.pv (.int .i64 0)] [(0, .t 44)]) (.o 46 (.app 3 1 8 (.t 40) (.t 45)) (.o 8 (.mv (.t 46)) .nil))))))))))) (.reg 0 (.o 47 (.bin .add (.t 36) (.c (.pv (.int .i64 1)))) (.o 36 (.mv (.t 47)) .nil))))))))) (.seq (.reg 0 (.o 48 (.mv (.t 0)) (.o 49 (.mv (.t 1)) (.o 50 (.mv (.t 2)) (.o 51 (.call 61 [.t 48, .t 49, .t 50]) (.o 11 (.mv (.t 51)) .nil)))))) (.seq (.reg 0 (.o 52 (.mv (.t 0)) (.o 53 (.nilc (.t 52)) (.o 54 (.fld 1 1 false (.t 53)) (.o 55 (.load 1 false (.t 54)) (.o 56 (.mv (.t 7)) (.o 57 (.mv (.t 8)) (.o 58 (.mv (.t 11)) (.o 59 (.build [.nils, .nils, .nils] [(0, (1, .t 57)), (1, (1, .t 58))]) (.o 60 (.idx 3 (.t 55) (.t 56)) (.op ⟨none, none, .store 3 (.t 60) (.t 59)⟩ .nil))))))))))) (.seq (.reg 0 (.o 61 (.mv (.t 7)) (.o 6 (.mv (.t 61)) .nil))) .ret))))))), [.t 6])) := by kernel_rfl
theorem c_impl_loader_inner (qs : List (List (Int × Int))) (ps : List Pg) (a b : Nat) (hab : a < b ∧ b ≤ qs.length) (hq : qs.length ≤ 6) (hp : ps.length ≤ 20) (hz : ∀ x ∈ qs, 0 < x.length ∧ x.length ≤ 24) : CallS prog 62 [.ptr 0 0 0, .pv (i64 a), .pv (i64 b)] [ldC 77 1 qs ps, obD 25 3 (dG ps)] (fun d S => ∃ T, d = .pv (i64 ps.length) ∧ S = ldC 77 2 qs (ps ++ [(⟨(midR qs (a + 1) b).map fun x => (nth x 0).1, natI (ps.length + 1) (b - a), []⟩ : Pg)] ++ (midR qs a b).map leafG) :: none :: obD 25 3 (dG (ps ++ [(⟨(midR qs (a + 1) b).map fun x => (nth x 0).1, natI (ps.length + 1) (b - a), []⟩ : Pg)] ++ (midR qs a b).map leafG)) :: T) := by
 have hab2 : a ≤ b ∧ b ≤ qs.length := ⟨by omega, hab.2⟩
 have hml := mid_len (a := a + 1) (b := b) (qs := qs) ⟨by omega, hab.2⟩
 refine callS_of_VS sl_impl_loader_inner (by simp) (VS_seq ?_)
 refine VS_bd (Bd.ld0 ?_)
 refine VS_r0 rfl (q_mv rfl (rg_nil (VS_seq (VS_r0 rfl (q_mv rfl (q_nilc_r rfl (q_fld_r rfl (q_load_o rfl rfl rfl rfl rfl (q_len_dm rfl (q_mv rfl (rg_nil (VS_seq (VS_r0 rfl (q_mv rfl (q_mv rfl ?_)))))))))))))))
 refine q_nilc_r rfl (q_fld_r rfl (q_load_o rfl rfl rfl rfl rfl (q_build rfl (q_lit (xs := [pgP ⟨[], [], []⟩]) rfl rfl rfl rfl (q_app_dm (xs := ps) (ys := [(⟨[], [], []⟩ : Pg)]) (f := fun p => .pv (pgP p)) rfl rfl rfl rfl ⟨by simp; omega, by simp; omega⟩ trivial (q_nilc_r rfl (q_fld_r rfl (q_storeF rfl rfl rfl rfl rfl (by (simp; done)) trivial (rg_nil (VS_seq (VS_r0 rfl (q_mv rfl (rg_nil (VS_seq (VS_seq ?_)))))))))))))))
 refine VS_r0 rfl (q_mv rfl (q_nilc_r rfl (q_fld_r rfl (q_load_r rfl rfl rfl rfl rfl rfl rfl (q_mv rfl (q_add rfl rfl (inR64 (by omega)) (q_mv rfl (q_slc_m (xs := qs) (f := prs) (a + 1) b rfl rfl rfl ⟨rfl, rfl, by omega, by omega⟩ (fun _ => rfl) (q_len_m rfl (q_mv rfl (rg_nil (VS_block ?_))))))))))))
 refine VS_bd (Bd.pad ?_)
 refine VS_bd (Bd.keepL [(0, .ptr 0 0 0), (1, .pv (i64 a)), (2, .pv (i64 b)), (7, .pv (i64 ps.length)), (8, ownD 4 (dI ([]))), (34, .pv (prtsP (midR qs (a + 1) b))), (35, .pv (i64 (midR qs (a + 1) b).length)), (36, .pv (i64 0))] ⟨rfl, rfl, rfl, rfl, rfl, rfl, rfl, rfl, trivial⟩ ?_)
 refine VS_loop (fun mz E S => ∃ i : Nat, ∃ ks : List Int, mz = (midR qs (a + 1) b).length - i ∧ (i ≤ (midR qs (a + 1) b).length) ∧ (ks = ((midR qs (a + 1) b).take i).map fun x => (nth x 0).1) ∧ (ks.length = i) ∧ E = env [(0, .ptr 0 0 0), (1, .pv (i64 a)), (2, .pv (i64 b)), (7, .pv (i64 ps.length)), (8, ownD 4 (dI ks)), (34, .pv (prtsP (midR qs (a + 1) b))), (35, .pv (i64 (midR qs (a + 1) b).length)), (36, .pv (i64 i))] ∧ S = [ldC 77 3 qs (ps ++ [(⟨[], [], []⟩ : Pg)]), none, none, obD 25 3 (dG (ps ++ [(⟨[], [], []⟩ : Pg)])), obD 3 1 (dI ks)]) ⟨_, 0, [], rfl, (by omega), rfl, rfl, rfl, rfl⟩ ?_
 rintro mz _ _ ⟨i, ks, hmeas, g0, g1, g2, rfl, rfl⟩
 refine VS_seq (VS_r0 rfl (q_lss rfl rfl (rg_nil (VS_seq ?_))))
 refine VS_cond rfl (fun c0 => ?_) (fun c0 => ?_)
 ·try simp at c0
  have hz2 := hz _ (List.mem_of_mem_take (List.mem_of_mem_drop (nth_mem (xs := (midR qs (a + 1) b)) (i := i) (by omega))))
  refine VS_skip (VS_seq (VS_block (VS_seq (VS_r0 rfl (q_idx_m (f := prs) (xs := (midR qs (a + 1) b)) (n := (i : Int)) rfl rfl (by omega) (by omega) (fun _ => rfl) (q_load_c rfl rfl rfl (q_mv rfl (rg_nil (VS_r0 rfl (q_mv rfl (q_mv rfl (q_idx_m (f := pairP) (xs := nth (midR qs (a + 1) b) i) (n := 0) rfl rfl (by omega) (by omega) (fun _ => rfl) (q_fld_c rfl rfl (q_load_c rfl rfl rfl (q_lit (xs := [i64 (nth (nth (midR qs (a + 1) b) i) 0).1]) rfl rfl rfl rfl ?_)))))))))))))))
  refine q_app_dm (xs := ks) (ys := [(nth (nth (midR qs (a + 1) b) i) 0).1]) (f := fun k => .pv (i64 k)) rfl rfl rfl rfl ⟨by simp; omega, by simp; omega⟩ trivial (q_mv rfl (rg_nil (VS_r0 rfl (q_add rfl rfl (inR64 (by omega)) (q_mv rfl (rg_nil ?_))))))
  refine Bd.renL [0, 1, 2, 3, 5] (fun i hi => by (have e : i = 0 ∨ i = 1 := (by simp at hi; omega); rcases e with rfl | rfl <;> rfl)) (by simp) [(0, .ptr 0 0 0), (1, .pv (i64 a)), (2, .pv (i64 b)), (7, .pv (i64 ps.length)), (8, ownD 4 (dI (ks ++ [(nth (nth (midR qs (a + 1) b) i) 0).1]))), (34, .pv (prtsP (midR qs (a + 1) b))), (35, .pv (i64 (midR qs (a + 1) b).length)), (36, .pv (i64 (i + 1)))] ⟨rfl, rfl, rfl, rfl, inv_own rfl, rfl, rfl, rfl, trivial⟩ (l5 (ldC_mp (mp1_own rfl)) rfl rfl (obD_mG _) (obD_mI _)) ⟨_, ?_, i + 1, ks ++ [(nth (nth (midR qs (a + 1) b) i) 0).1], rfl, ?_, ?_, ?_, rfl, rfl⟩
  ·omega
  ·omega
  ·rw [g1, take_succ_nth (by omega), List.map_append]; rfl
  ·simp; omega
 ·try simp at c0
  refine VS_exit (VS_seq ?_)
  refine VS_bd (Bd.pure 8 4 3 1 (xs := dI ks) rfl rfl (toPVs_dI _) ?_)
  refine VS_r0 rfl (q_mv rfl (q_mv rfl (q_mv rfl ?_)))
  refine q_ld rfl (show LdS prog 61 77 25 [i64 a, i64 b] qs (ps ++ [(⟨[], [], []⟩ : Pg)]) (ints (natI (ps.length + 1) (b - a))) (ps ++ [(⟨[], [], []⟩ : Pg)] ++ (midR qs a b).map leafG) from by have h := c_impl_loader_leaves qs (ps ++ [(⟨[], [], []⟩ : Pg)]) a b hab2 hq (by simp; omega) (fun x hx => (hz x hx).2); rw [List.length_append] at h; exact h) rfl rfl (by decide) rfl rfl (by simp) trivial ?_
  refine q_mv rfl (rg_nil (VS_seq (VS_r0 rfl (q_mv rfl (q_nilc_r rfl (q_fld_r rfl (q_load_o rfl rfl rfl rfl rfl (q_mv rfl (q_mv rfl (q_mv rfl (q_build rfl (q_idx_dm (f := fun p => .pv (pgP p)) (ty := 25) (xs := ps ++ [(⟨[], [], []⟩ : Pg)] ++ (midR qs a b).map leafG) (n := (ps.length : Int)) rfl rfl (by omega) (by (simp; omega)) rfl (q_store_gz (ty := 25) (qs := ps ++ [(⟨[], [], []⟩ : Pg)] ++ (midR qs a b).map leafG) (ds := [.pv (ints ks), .pv (ints (natI (ps.length + 1) (b - a))), .nils]) rfl rfl rfl rfl rfl rfl (by (simp; done)) trivial (rg_nil ?_))))))))))))))
  refine VS_bd (Bd.packZ 5 ps.length (qs := ps ++ [(⟨[], [], []⟩ : Pg)] ++ (midR qs a b).map leafG) (g := ⟨ks, natI (ps.length + 1) (b - a), []⟩) (by (simp; done)) rfl rfl (Bd.now ?_))
  refine VS_seq (VS_r0 rfl (q_mv rfl (q_mv rfl (rg_nil (VS_ret ?_)))))
  have e : i = (midR qs (a + 1) b).length := by omega
  rw [e, List.take_length] at g1
  have e2 : (ps ++ [(⟨[], [], []⟩ : Pg)] ++ (midR qs a b).map leafG).set ps.length ⟨ks, natI (ps.length + 1) (b - a), []⟩ = (ps ++ [(⟨(midR qs (a + 1) b).map fun x => (nth x 0).1, natI (ps.length + 1) (b - a), []⟩ : Pg)] ++ (midR qs a b).map leafG) := by rw [List.append_assoc, List.set_append_right _ _ (Nat.le_refl _), Nat.sub_self, g1]; simp
  refine Bd.renL [0, 1, 5] (fun i hi => by have e : i = 0 ∨ i = 1 := (by simp at hi; omega); rcases e with rfl | rfl <;> rfl) (by simp) [(6, .pv (i64 ps.length))] ⟨rfl, trivial⟩ (l3 (ldC_mpl (zs := (ps ++ [(⟨[], [], []⟩ : Pg)] ++ (midR qs a b).map leafG).set ps.length ⟨ks, natI (ps.length + 1) (b - a), []⟩) (by simp) (mp1_own rfl)) rfl (obD_mG (ty := 25) (sz := 3) _)) ?_
  exact ⟨_, rfl, _, rfl, by rw [← e2]; rfl⟩
end Go.V

set_option maxHeartbeats 4000000
namespace Go.V
open Go.Proofs.Try (prog)
theorem zcc (os : List Nat) : ∀ i, i < 0 → os[i]? = some i := fun i hi => absurd hi (Nat.not_lt_zero i)
set_option maxRecDepth 100000
theorem sl_impl_LoadTree : slimF prog 28 = some (84, (.seq (.reg 0 (.o 2 (.alloc 39 2 (.agg [.pv (.int .i64 0), .nils])) (.o 3 (.mv (.c (.pv (.bool false)))) .nil))) (.seq (.seq (.reg 0 (.o 10 (.mv (.t 0)) (.o 11 (.call 59 [.t 10]) (.o 12 (.not (.t 11)) .nil)))) (.cond (.t 12) (.seq (.reg 0 (.o 13 (.build [.pv (.int .i64 0), .nils] []) (.op ⟨none, none, .store 2 (.t 2) (.t 13)⟩ (.o 3 (.mv (.c (.pv (.bool false)))) .nil)))) .ret) .skip)) (.seq (.reg 0 (.o 14 (.mv (.t 0)) (.o 15 (.len (.t 14)) (.o 16 (.call 60 [.t 15]) (.o 4 (.mv (.t 16)) .nil))))) (.seq (.reg 0 (.o 17 (.build [.nils, .nils] []) (.o 5 (.alloc 77 2 (.agg [.nils, .nils])) (.op ⟨none, none, .store 2 (.t 5) (.t 17)⟩ .nil)))) (.seq (.seq (.reg 0 (.o 18 (.mv (.t 4)) (.o 19 (.mv (.c (.pv (.int .i64 0)))) .nil))) (.block 0 (.loop (.seq (.reg 0 (.o 20 (.bin .lss (.t 19) (.t 18)) .nil)) (.seq (.cond (.t 20) .skip (.exit 0)) (.seq (.block 1 (.seq (.reg 0 (.o 21 (.mv (.t 19)) (.o 6 (.mv (.t 21)) .nil))) (.reg 2 (.o 22 (.fld 0 1 false (.t 5)) (.o 23 (.load 1 false (.t 22)) (.o 24 (.mv (.t 0)) (.o 25 (.mv (.t 6)) (.o 26 (.mv (.t 0)) (.o 27 (.len (.t 26)) (.o 28 (.bin .mul (.t 25) (.t 27)) (.o 29 (.mv (.t 4)) (.o 30 (.bin .quo (.t 28) (.t 29)) (.o 31 (.mv (.t 6)) (.o 32 (.bin .add (.t 31) (.c (.pv (.int .i64 1)))) (.o 33 (.mv (.t 0)) (.o 34 (.len (.t 33)) (.o 35 (.bin .mul (.t 32) (.t 34)) (.o 36 (.mv (.t 4)) (.o 37 (.bin .quo (.t 35) (.t 36)) (.o 38 (.slc 2 (.t 24) (some (.t 30)) (some (.t 37))) (.o 39 (.lit 48 1 1 [.nils] [(0, .t 38)]) (.o 40 (.app 48 1 24 (.t 23) (.t 39)) (.o 41 (.fld 0 1 false (.t 5)) (.last ⟨none, none, .store 1 (.t 41) (.t 40)⟩)))))))))))))))))))))))) (.reg 0 (.o 42 (.bin .add (.t 19) (.c (.pv (.int .i64 1)))) (.o 19 (.mv (.t 42)) .nil))))))))) (.seq (.block 2 (.seq (.reg 0 (.o 73 (.mv (.t 4)) (.o 74 (.bin .eql (.t 73) (.c (.pv (.int .i64 1)))) (.o 72 (.mv (.t 74)) .nil)))) (.cond (.t 72) (.reg 0 (.o 75 (.call 61 [.t 5, .c (.pv (.int .i64 0)), .c (.pv (.int .i64 1))]) .nil)) (.seq (.reg 0 (.o 77 (.mv (.t 4)) (.o 78 (.bin .leq (.t 77) (.c (.pv (.int .i64 5)))) (.o 76 (.mv (.t 78)) .nil)))) (.cond (.t 76) (.reg 0 (.o 79 (.mv (.t 4)) (.o 80 (.call 62 [.t 5, .c (.pv (.int .i64 0)), .t 79]) .nil))) (.seq (.reg 0 (.o 43 (.mv (.t 4)) (.o 44 (.bin .quo (.t 43) (.c (.pv (.int .i64 2)))) (.o 7 (.mv (.t 44)) .nil)))) (.seq (.reg 0 (.o 45 (.fld 1 1 false (.t 5)) (.o 46 (.load 1 false (.t 45)) (.o 47 (.build [.nils, .nils, .nils] []) (.o 48 (.lit 25 3 1 [.nils, .nils, .nils] [(0, .t 47)]) (.o 49 (.app 25 3 72 (.t 46) (.t 48)) (.o 50 (.fld 1 1 false (.t 5)) (.op ⟨none, none, .store 1 (.t 50) (.t 49)⟩ .nil)))))))) (.seq (.reg 0 (.o 51 (.mv (.t 7)) (.o 52 (.call 62 [.t 5, .c (.pv (.int .i64 0)), .t 51]) (.o 8 (.mv (.t 52)) .nil)))) (.seq (.reg 0 (.o 53 (.mv (.t 7)) (.o 54 (.mv (.t 4)) (.o 55 (.call 62 [.t 5, .t 53, .t 54]) (.o 9 (.mv (.t 55)) .nil))))) (.reg 2 (.o 56 (.fld 1 1 false (.t 5)) (.o 57 (.load 1 false (.t 56)) (.o 58 (.fld 0 1 false (.t 5)) (.o 59 (.load 1 false (.t 58)) (.o 60 (.mv (.t 7)) (.o 61 (.idx 1 (.t 59) (.t 60)) (.o 62 (.load 1 false (.t 61)) (.o 63 (.idx 2 (.t 62) (.c (.pv (.int .i64 0)))) (.o 64 (.fld 0 1 false (.t 63)) (.o 65 (.load 1 false (.t 64)) (.o 66 (.lit 3 1 1 [.pv (.int .i64 0)] [(0, .t 65)]) (.o 67 (.mv (.t 8)) (.o 68 (.mv (.t 9)) (.o 69 (.lit 3 1 2 [.pv (.int .i64 0)] [(0, .t 67), (1, .t 68)]) (.o 70 (.build [.nils, .nils, .nils] [(0, (1, .t 66)), (1, (1, .t 69))]) (.o 71 (.idx 3 (.t 57) (.c (.pv (.int .i64 0)))) (.last ⟨none, none, .store 3 (.t 71) (.t 70)⟩))))))))))))))))))))))))))) (.seq (.reg 0 (.o 81 (.fld 1 1 false (.t 5)) (.o 82 (.load 1 false (.t 81)) (.o 83 (.build [.pv (.int .i64 0), .nils] [(0, (1, .c (.pv (.int .i64 0)))), (1, (1, .t 82))]) (.op ⟨none, none, .store 2 (.t 2) (.t 83)⟩ (.o 3 (.mv (.c (.pv (.bool true)))) .nil)))))) .ret)))))), [.c 2 2, .t 3])) := by kernel_rfl
theorem c_impl_LoadTree (xs : List (Int × Int)) (hl : xs.length ≤ 1000000) : PCon prog 28 [prs xs] (fun p => p = .tup [ptP (if goodR xs then loadT xs else ⟨0, []⟩), .bool (goodR xs)]) := by
 refine con_of_VS sl_impl_LoadTree (by simp) (VS_seq (VS_r0 rfl (q_alloc trivial (q_mv rfl (rg_nil (VS_seq (VS_seq (VS_r0 rfl (q_mv rfl (q_callp (c_impl_ValidRow xs (by omega)) rfl trivial (q_not rfl (rg_nil ?_))))))))))))
 refine VS_cond rfl (fun c0 => ?_) (fun c0 => ?_)
 ·try simp at c0
  have hgf : goodR xs = false := by simpa using c0
  refine VS_seq (VS_r0 rfl (q_build rfl (q_store rfl rfl rfl rfl rfl rfl ⟨rfl, rfl, by simp, rfl, by simp [isOne]⟩ rfl trivial (q_mv rfl (rg_nil (VS_ret ?_))))))
  refine Bd.now ⟨_, rfl, ?_⟩
  rw [hgf]; rfl
 ·try simp at c0
  have hg : goodR xs = true := by simpa using c0
  have hx := (goodR_iff.1 hg).2.1
  have hn := nlv_le hx
  refine VS_skip (VS_seq (VS_r0 rfl (q_mv rfl (q_len_m rfl (q_callp (c_impl_loadedLeaves _ (by omega)) rfl trivial (q_mv rfl (rg_nil (VS_seq (VS_r0 rfl (q_build rfl (q_alloc trivial (q_store rfl rfl rfl rfl rfl rfl ⟨rfl, rfl, by simp, rfl, by simp [isOne]⟩ rfl trivial (rg_nil (VS_seq (VS_seq ?_)))))))))))))))
  refine VS_r0 rfl (q_mv rfl (q_mv rfl (rg_nil (VS_block ?_))))
  refine VS_bd (Bd.pad ?_)
  refine VS_bd (Bd.keepL [(0, .pv (prs xs)), (2, .ptr 0 0 0), (4, .pv (i64 (nlv xs.length))), (5, .ptr 1 0 0), (18, .pv (i64 (nlv xs.length))), (19, .pv (i64 0))] ⟨rfl, rfl, rfl, rfl, rfl, rfl, trivial⟩ ?_)
  refine VS_loop (fun mz E S => ∃ i : Nat, ∃ qs : List (List (Int × Int)), mz = nlv xs.length - i ∧ (i ≤ nlv xs.length) ∧ (qs = (prtL xs).take i) ∧ (qs.length = i) ∧ E = env [(0, .pv (prs xs)), (2, .ptr 0 0 0), (4, .pv (i64 (nlv xs.length))), (5, .ptr 1 0 0), (18, .pv (i64 (nlv xs.length))), (19, .pv (i64 i))] ∧ S = [some ⟨39, 2, [.agg [.pv (i64 0), .nils]]⟩, some ⟨77, 2, [.agg [ownD 2 (dR qs), .nils]]⟩, obD 48 1 (dR qs)]) ⟨_, 0, [], rfl, (by omega), rfl, rfl, rfl, rfl⟩ ?_
  rintro mz _ _ ⟨i, qs, hmeas, g0, g1, g2, rfl, rfl⟩
  refine VS_seq (VS_r0 rfl (q_lss rfl rfl (rg_nil (VS_seq ?_))))
  refine VS_cond rfl (fun c1 => ?_) (fun c1 => ?_)
  ·try simp at c1
   have hc1 := cut_le (m := xs.length) (n := nlv xs.length) (i := i + 1) (by omega) (by omega)
   have hc2 := cut_mono (m := xs.length) (n := nlv xs.length) (i := i)
   have hb1 := mul_le24 (i := i + 1) hx (by omega)
   have hb2 := mul_le24 (i := i) hx (by omega)
   refine VS_skip (VS_seq (VS_block (VS_seq (VS_r0 rfl (q_mv rfl (q_mv rfl (rg_nil (VS_r2 [none, some ⟨77, 2, [.agg [ownD 2 (dR qs), .nils]]⟩] hmix (SubL.sub (by repeat constructor)) (q_fld_r rfl (q_load_o rfl rfl rfl rfl rfl (q_mv rfl (q_mv rfl (q_mv rfl (q_len_m rfl (q_mul_to ((xs.length * i : Nat) : Int) rfl rfl (by rw [Nat.mul_comm]; simp) (inR64 (by omega)) ?_)))))))))))))))
   refine q_mv rfl (q_quo_to ((cutAt xs.length (nlv xs.length) i : Nat) : Int) rfl rfl ⟨by omega, by omega⟩ (by simp [cutAt]) (inR64 (by omega)) (q_mv rfl (q_add rfl rfl (inR64 (by omega)) (q_mv rfl (q_len_m rfl (q_mul_to ((xs.length * (i + 1) : Nat) : Int) rfl rfl (by rw [Nat.mul_comm]; simp) (inR64 (by omega)) (q_mv rfl (q_quo_to ((cutAt xs.length (nlv xs.length) (i + 1) : Nat) : Int) rfl rfl ⟨by omega, by omega⟩ (by simp [cutAt]) (inR64 (by omega)) (q_slc_m (xs := xs) (f := pairP) (cutAt xs.length (nlv xs.length) i) (cutAt xs.length (nlv xs.length) (i + 1)) rfl rfl rfl ⟨rfl, rfl, by omega, by omega⟩ (fun _ => rfl) (q_lit (xs := [prs (cutP xs (nlv xs.length) i)]) rfl rfl rfl rfl ?_))))))))))
   refine q_app_dm (xs := qs) (ys := [cutP xs (nlv xs.length) i]) (f := fun x => .pv (prs x)) rfl rfl rfl rfl ⟨by simp; omega, by simp; omega⟩ (SubL.sub (by repeat constructor)) ?_
   refine q_fld_r rfl (q_last (q_storeF rfl rfl rfl rfl rfl (by (simp; done)) trivial (rg_nil (VS_r0 rfl (q_add rfl rfl (inR64 (by omega)) (q_mv rfl (rg_nil ?_)))))))
   refine Bd.renL [0, 1, 3] (zcc _) (by simp) [(0, .pv (prs xs)), (2, .ptr 0 0 0), (4, .pv (i64 (nlv xs.length))), (5, .ptr 1 0 0), (18, .pv (i64 (nlv xs.length))), (19, .pv (i64 (i + 1)))] ⟨rfl, rfl, rfl, rfl, rfl, rfl, trivial⟩ (l3 rfl (congrArg (fun z => some (⟨77, 2, [.agg [z, .nils]]⟩ : Ob)) (mp1_own rfl)) (obD_mR _)) ⟨_, ?_, i + 1, qs ++ [cutP xs (nlv xs.length) i], rfl, ?_, ?_, ?_, rfl, rfl⟩
   ·omega
   ·omega
   ·rw [g1, prtL_step (by omega)]
   ·simp; omega
  ·try simp at c1
   refine VS_exit (VS_seq (VS_block (VS_seq ?_)))
   have hq : qs = prtL xs := by rw [g1, show i = nlv xs.length by omega, ← prtL_len, List.take_length]
   refine VS_bd (Bd.frzF 2 1 0 0 48 1 (xs := dR qs) (by decide) rfl (toPVs_dR _) rfl rfl rfl ?_)
   refine VS_st [some ⟨39, 2, [.agg [.pv (i64 0), .nils]]⟩, some ⟨77, 2, [.agg [.pv (prtsP (prtL xs)), .nils]]⟩, none] (l3 rfl (congrArg (fun z => some (⟨77, 2, [.agg [.pv (prtsP z), .nils]]⟩ : Ob)) hq) rfl) (VS_r0 rfl (q_mv rfl (q_eql rfl rfl (q_mv rfl (rg_nil ?_)))))
   refine VS_cond rfl (fun c2 => ?_) (fun c2 => ?_)
   ·try simp at c2
    have hn1 : nlv xs.length = 1 := by omega
    refine VS_r0 rfl ?_
    refine q_ld0 rfl (show LdS prog 61 77 25 [i64 0, i64 1] (prtL xs) [] (ints (natI 0 (1 - 0))) (([] : List Pg) ++ (midR (prtL xs) 0 1).map leafG) from c_impl_loader_leaves (prtL xs) [] 0 1 ⟨by omega, by rw [prtL_len]; omega⟩ (by rw [prtL_len]; omega) (by simp) (prtL_small hx)) rfl rfl rfl trivial ?_
    refine rg_nil ?_
    have hz : ([] : List Pg) ++ (midR (prtL xs) 0 1).map leafG = loadP xs := load1 hn1
    refine VS_bd (Bd.frzF 3 1 0 1 25 3 (xs := dG (([] : List Pg) ++ (midR (prtL xs) 0 1).map leafG)) (by decide) rfl (toPVs_dG _) rfl rfl rfl ?_)
    refine VS_st [some ⟨39, 2, [.agg [.pv (i64 0), .nils]]⟩, some ⟨77, 2, [.agg [.pv (prtsP (prtL xs)), .pv (pgsP (loadP xs))]]⟩, none, none] (l4 rfl (congrArg (fun z => some (⟨77, 2, [.agg [.pv (prtsP (prtL xs)), .pv (pgsP z)]]⟩ : Ob)) hz) rfl rfl) (VS_seq (VS_r0 rfl (q_fld_r rfl (q_load_r rfl rfl rfl rfl rfl rfl rfl (q_build rfl (q_store rfl rfl rfl rfl rfl rfl ⟨rfl, rfl, by simp, rfl, by simp [isOne]⟩ rfl trivial (q_mv rfl (rg_nil (VS_ret ?_)))))))))
    refine Bd.now ⟨_, rfl, ?_⟩
    rw [hg]; rfl
   ·try simp at c2
    have hn1 : nlv xs.length ≠ 1 := by omega
    refine VS_seq (VS_r0 rfl (q_mv rfl (q_leq rfl rfl (q_mv rfl (rg_nil ?_)))))
    refine VS_cond rfl (fun c3 => ?_) (fun c3 => ?_)
    ·try simp at c3
     refine VS_r0 rfl (q_mv rfl ?_)
     refine q_ld0 rfl (show LdS prog 62 77 25 [i64 0, i64 (nlv xs.length)] (prtL xs) [] (i64 0) (([] : List Pg) ++ [(⟨(midR (prtL xs) (0 + 1) (nlv xs.length)).map fun x => (nth x 0).1, natI (0 + 1) (nlv xs.length - 0), []⟩ : Pg)] ++ (midR (prtL xs) 0 (nlv xs.length)).map leafG) from c_impl_loader_inner (prtL xs) [] 0 (nlv xs.length) ⟨by omega, by rw [prtL_len]; omega⟩ (by rw [prtL_len]; omega) (by simp) (prtL_ne hx hn1)) rfl rfl rfl trivial ?_
     refine rg_nil ?_
     have hz : ([] : List Pg) ++ [(⟨(midR (prtL xs) (0 + 1) (nlv xs.length)).map fun x => (nth x 0).1, natI (0 + 1) (nlv xs.length - 0), []⟩ : Pg)] ++ (midR (prtL xs) 0 (nlv xs.length)).map leafG = loadP xs := load2 hn1 (by omega)
     refine VS_bd (Bd.frzF 3 1 0 1 25 3 (xs := dG (([] : List Pg) ++ [(⟨(midR (prtL xs) (0 + 1) (nlv xs.length)).map fun x => (nth x 0).1, natI (0 + 1) (nlv xs.length - 0), []⟩ : Pg)] ++ (midR (prtL xs) 0 (nlv xs.length)).map leafG)) (by decide) rfl (toPVs_dG _) rfl rfl rfl ?_)
     refine VS_st [some ⟨39, 2, [.agg [.pv (i64 0), .nils]]⟩, some ⟨77, 2, [.agg [.pv (prtsP (prtL xs)), .pv (pgsP (loadP xs))]]⟩, none, none] (l4 rfl (congrArg (fun z => some (⟨77, 2, [.agg [.pv (prtsP (prtL xs)), .pv (pgsP z)]]⟩ : Ob)) hz) rfl rfl) (VS_seq (VS_r0 rfl (q_fld_r rfl (q_load_r rfl rfl rfl rfl rfl rfl rfl (q_build rfl (q_store rfl rfl rfl rfl rfl rfl ⟨rfl, rfl, by simp, rfl, by simp [isOne]⟩ rfl trivial (q_mv rfl (rg_nil (VS_ret ?_)))))))))
     refine Bd.now ⟨_, rfl, ?_⟩
     rw [hg]; rfl
    ·try simp at c3
     have h6 : nlv xs.length = 6 := by omega
     have h3l := lp3_len h6
     refine VS_seq (VS_r0 rfl (q_mv rfl (q_quo_to 3 rfl rfl ⟨by omega, by omega⟩ (by omega) (inR64 (by omega)) (q_mv rfl (rg_nil (VS_seq (VS_r0 rfl (q_fld_r rfl (q_load_r rfl rfl rfl rfl rfl rfl rfl (q_build rfl (q_lit (xs := [pgP ⟨[], [], []⟩]) rfl rfl rfl rfl ?_)))))))))))
     refine q_app_z (ys := dG [(⟨[], [], []⟩ : Pg)]) rfl rfl rfl ⟨by simp, by simp [maxLen]⟩ ⟨trivial, ?_⟩
     refine q_fld_r rfl (q_store rfl rfl rfl rfl rfl rfl ⟨rfl, rfl, by simp, rfl, by simp [isOne]⟩ rfl trivial (rg_nil (VS_seq (VS_r0 rfl (q_mv rfl ?_)))))
     refine q_ld (o1 := 1) (o2 := 3) rfl (show LdS prog 62 77 25 [i64 0, i64 3] (prtL xs) [(⟨[], [], []⟩ : Pg)] (i64 1) (lp3 xs) from c_impl_loader_inner (prtL xs) [(⟨[], [], []⟩ : Pg)] 0 3 ⟨by omega, by rw [prtL_len]; omega⟩ (by rw [prtL_len]; omega) (by simp) (prtL_ne hx hn1)) rfl rfl (by decide) rfl rfl (by simp) trivial ?_
     refine q_mv rfl (rg_nil (VS_seq (VS_r0 rfl (q_mv rfl (q_mv rfl ?_)))))
     refine q_ld (o1 := 1) (o2 := 4) rfl (show LdS prog 62 77 25 [i64 3, i64 ((nlv xs.length : Nat) : Int)] (prtL xs) (lp3 xs) (i64 5) (lp6 xs) from by rw [h6]; have h := c_impl_loader_inner (prtL xs) (lp3 xs) 3 6 ⟨by omega, by rw [prtL_len]; omega⟩ (by rw [prtL_len]; omega) (by omega) (prtL_ne hx hn1); rw [h3l] at h; exact h) rfl rfl (by decide) rfl rfl (fun e => by rw [e] at h3l; simp at h3l) trivial ?_
     refine q_mv rfl (rg_nil (VS_r2 [none, ldC 77 5 (prtL xs) (lp6 xs), none, none, none, obD 25 3 (dG (lp6 xs))] hmix (SubL.sub (by repeat constructor)) (q_fld_r rfl (q_load_r rfl rfl rfl rfl rfl rfl rfl (q_fld_r rfl (q_load_r rfl rfl rfl rfl rfl rfl rfl (q_mv rfl (q_idx_m (f := prs) (xs := prtL xs) (n := 3) rfl rfl (by omega) (by rw [prtL_len]; omega) (fun _ => rfl) (q_load_c rfl rfl rfl (q_idx_m (f := pairP) (xs := nth (prtL xs) 3) (n := 0) rfl rfl (by omega) (by have := (prtL_ne hx hn1 _ (nth_mem (xs := prtL xs) (i := 3) (by rw [prtL_len]; omega))).1; omega) (fun _ => rfl) (q_fld_c rfl rfl (q_load_c rfl rfl rfl (q_lit (xs := [i64 (nth (nth (prtL xs) 3) 0).1]) rfl rfl rfl rfl (q_mv rfl (q_mv rfl ?_)))))))))))))))
     refine q_lit (xs := [i64 1, i64 5]) rfl rfl rfl rfl (q_build rfl (q_idx_dm (f := fun p => .pv (pgP p)) (ty := 25) (xs := lp6 xs) (n := 0) rfl rfl (by omega) (by simp [lp6]; omega) rfl (q_last (q_store rfl rfl rfl rfl rfl rfl ⟨rfl, rfl, by simp, rfl, by simp [isOne]⟩ rfl trivial (rg_nil ?_)))))
     refine VS_bd (Bd.packZ 5 0 (qs := lp6 xs) (g := ⟨[(nth (nth (prtL xs) 3) 0).1], [1, 5], []⟩) (by simp [lp6]; omega) rfl rfl (Bd.now ?_))
     refine VS_st [some ⟨39, 2, [.agg [.pv (i64 0), .nils]]⟩, ldC 77 5 (prtL xs) ((lp6 xs).set 0 ⟨[(nth (nth (prtL xs) 3) 0).1], [1, 5], []⟩), none, none, none, obD 25 3 (dG ((lp6 xs).set 0 ⟨[(nth (nth (prtL xs) 3) 0).1], [1, 5], []⟩))] (l6 rfl (ldC_len (by simp)) rfl rfl rfl rfl) ?_
     have hz : (lp6 xs).set 0 ⟨[(nth (nth (prtL xs) 3) 0).1], [1, 5], []⟩ = loadP xs := load3 h6
     refine VS_bd (Bd.frzF 5 1 0 1 25 3 (xs := dG ((lp6 xs).set 0 ⟨[(nth (nth (prtL xs) 3) 0).1], [1, 5], []⟩)) (by decide) rfl (toPVs_dG _) rfl rfl rfl ?_)
     refine VS_st [some ⟨39, 2, [.agg [.pv (i64 0), .nils]]⟩, some ⟨77, 2, [.agg [.pv (prtsP (prtL xs)), .pv (pgsP (loadP xs))]]⟩, none, none, none, none] (l6 rfl (congrArg (fun z => some (⟨77, 2, [.agg [.pv (prtsP (prtL xs)), .pv (pgsP z)]]⟩ : Ob)) hz) rfl rfl rfl rfl) (VS_seq (VS_r0 rfl (q_fld_r rfl (q_load_r rfl rfl rfl rfl rfl rfl rfl (q_build rfl (q_store rfl rfl rfl rfl rfl rfl ⟨rfl, rfl, by simp, rfl, by simp [isOne]⟩ rfl trivial (q_mv rfl (rg_nil (VS_ret ?_)))))))))
     refine Bd.now ⟨_, rfl, ?_⟩
     rw [hg]; rfl
end Go.V
