/- A part of the proofs about laws of the page tree (see the text that bears the law): a small language of steps, its rules, and what the functions of the program return. -/
import Derived.Test.YtnnmedfjjkmbaaaWF
import Derived.Test.YtnnmedfjjkmbaaaLG
set_option linter.all false
set_option linter.unusedVariables false
set_option linter.unusedSimpArgs false
set_option maxHeartbeats 4000000
namespace Go.V
open Go.Proofs.Try (prog)
set_option maxRecDepth 100000
theorem sl_impl_loadedLeaves : slimF prog 69 = some (8, (.seq (.reg 0 (.op ⟨some 2, none, .mv (.c (.pv (.int .i64 0)))⟩ .nil)) (.seq (.reg 0 (.op ⟨some 3, none, .mv (.t 0)⟩ (.op ⟨some 4, none, .bin .add (.t 3) (.c (.pv (.int .i64 4)))⟩ (.op ⟨some 5, none, .bin .sub (.t 4) (.c (.pv (.int .i64 1)))⟩ (.op ⟨some 6, none, .bin .quo (.t 5) (.c (.pv (.int .i64 4)))⟩ (.op ⟨some 7, none, .mx (.c (.pv (.int .i64 1))) (.t 6)⟩ (.op ⟨some 2, none, .mv (.t 7)⟩ .nil))))))) .ret), [.t 2])) := by kernel_rfl
theorem c_impl_loadedLeaves (m : Nat) (hm : m ≤ 24) : PCon prog 69 [i64 m] (fun p => p = i64 (nlv m)) := by
  refine con_of_VS sl_impl_loadedLeaves (by simp) ?_
  refine VS_seq ?_
  refine VS_r0 rfl ?_
  refine q_mv rfl ?_
  refine rg_nil ?_
  refine VS_seq ?_
  refine VS_r0 rfl ?_
  refine q_mv rfl ?_
  refine q_add rfl rfl (inR64 (by omega)) ?_
  refine q_sub rfl rfl (inR64 (by omega)) ?_
  refine q_quo_to (((m + 3) / 4 : Nat) : Int) rfl rfl ⟨by omega, by omega⟩ (by omega) (inR64 (by omega)) ?_
  refine q_mx_to ((nlv m : Nat) : Int) rfl rfl (by simp only [nlv]; omega) ?_
  refine q_mv rfl ?_
  refine rg_nil ?_
  refine VS_ret ?_
  exact Bd.now ⟨_, rfl, rfl⟩
theorem sl_impl_valuesOfRow : slimF prog 103 = some (23, (.seq (.reg 0 (.op ⟨some 2, none, .mv (.c .nils)⟩ .nil)) (.seq (.reg 0 (.op ⟨some 6, none, .mv (.t 0)⟩ (.op ⟨some 7, none, .len (.t 6)⟩ (.op ⟨some 8, none, .mks 3 1 8 (.pv (.int .i64 0)) (.t 7)⟩ (.op ⟨some 3, none, .mv (.t 8)⟩ .nil))))) (.seq (.seq (.reg 0 (.op ⟨some 9, none, .mv (.t 0)⟩ (.op ⟨some 10, none, .len (.t 9)⟩ (.op ⟨some 11, none, .mv (.c (.pv (.int .i64 0)))⟩ .nil)))) (.block 0 (.loop (.seq (.reg 0 (.op ⟨some 12, none, .bin .lss (.t 11) (.t 10)⟩ .nil)) (.seq (.cond (.t 12) .skip (.exit 0)) (.seq (.block 1 (.seq (.reg 0 (.op ⟨some 13, none, .mv (.t 11)⟩ (.op ⟨some 14, none, .idx 2 (.t 9) (.t 11)⟩ (.op ⟨some 15, none, .load 2 true (.t 14)⟩ (.op ⟨some 5, none, .alloc 25 2 (.agg [.pv (.int .i64 0), .pv (.int .i64 0)])⟩ (.op ⟨some 4, none, .mv (.t 13)⟩ (.op ⟨none, none, .store 2 (.t 5) (.t 15)⟩ .nil))))))) (.reg 0 (.op ⟨some 16, none, .mv (.t 3)⟩ (.op ⟨some 17, none, .mv (.t 4)⟩ (.op ⟨some 18, none, .fld 1 1 false (.t 5)⟩ (.op ⟨some 19, none, .load 1 false (.t 18)⟩ (.op ⟨some 20, none, .idx 1 (.t 16) (.t 17)⟩ (.op ⟨none, none, .store 1 (.t 20) (.t 19)⟩ .nil))))))))) (.reg 0 (.op ⟨some 21, none, .bin .add (.t 11) (.c (.pv (.int .i64 1)))⟩ (.op ⟨some 11, none, .mv (.t 21)⟩ .nil))))))))) (.seq (.reg 0 (.op ⟨some 22, none, .mv (.t 3)⟩ (.op ⟨some 2, none, .mv (.t 22)⟩ .nil))) .ret))), [.t 2])) := by kernel_rfl
theorem c_impl_valuesOfRow (xs : List (Int × Int)) (hl : xs.length ≤ 1000000) : PCon prog 103 [prs xs] (fun p => p = ints (xs.map Prod.snd)) := by
  refine con_of_VS sl_impl_valuesOfRow (by simp) ?_
  refine VS_seq ?_
  refine VS_r0 rfl ?_
  refine q_mv rfl ?_
  refine rg_nil ?_
  refine VS_seq ?_
  refine VS_r0 rfl ?_
  refine q_mv rfl ?_
  first | refine q_len_m rfl ?_ | refine q_len_s rfl ?_ | refine q_len_o rfl ?_ | refine q_len_n rfl ?_ | refine q_len_x rfl ?_
  refine q_mks rfl ⟨by omega, by omega, by omega⟩ trivial ?_
  refine q_mv rfl ?_
  refine rg_nil ?_
  refine VS_seq ?_
  refine VS_seq ?_
  refine VS_r0 rfl ?_
  refine q_mv rfl ?_
  first | refine q_len_m rfl ?_ | refine q_len_s rfl ?_ | refine q_len_o rfl ?_ | refine q_len_n rfl ?_ | refine q_len_x rfl ?_
  refine q_mv rfl ?_
  refine rg_nil ?_
  refine VS_block ?_
  refine VS_bd (Bd.keepL [(0, .pv (prs xs)), (3, .own 0 xs.length), (9, .pv (prs xs)), (10, .pv (i64 xs.length)), (11, .pv (i64 0))] ⟨rfl, rfl, rfl, rfl, rfl, trivial⟩ ?_)
  refine VS_loop (fun mz E S => ∃ i : Nat, ∃ ys : List Int, mz = xs.length - i ∧ (i ≤ xs.length) ∧ (ys.take i = (xs.take i).map Prod.snd) ∧ (ys.length = xs.length) ∧ E = env [(0, .pv (prs xs)), (3, .own 0 xs.length), (9, .pv (prs xs)), (10, .pv (i64 xs.length)), (11, .pv (i64 i))] ∧ S = [some ⟨3, 1, dI ys⟩]) ⟨_, 0, List.replicate xs.length 0, rfl, (by first | omega | (intros; omega) | simp), rfl, (by simp), rfl, (by simp)⟩ ?_
  rintro mz _ _ ⟨i, ys, hmeas, g0, g1, g2, rfl, rfl⟩
  refine VS_seq ?_
  refine VS_r0 rfl ?_
  refine q_lss rfl rfl ?_
  refine rg_nil ?_
  refine VS_seq ?_
  refine VS_cond rfl (fun c0 => ?_) (fun c0 => ?_)
  · try simp at c0
    refine VS_skip ?_
    refine VS_seq ?_
    refine VS_block ?_
    refine VS_seq ?_
    refine VS_r0 rfl ?_
    refine q_mv rfl ?_
    first | refine q_idx_c _ rfl rfl (by omega) (fun _ => rfl) ?_ | refine q_idx_m rfl rfl (by omega) (by omega) (fun _ => rfl) ?_ | refine q_idx_om rfl rfl (by omega) (by omega) rfl rfl ?_
    first | refine q_load_c rfl rfl rfl ?_ | refine q_load_ra rfl rfl rfl rfl rfl (by first | (simp; done) | (simp [setAt]; done)) rfl ?_
    refine q_alloc trivial ?_
    refine q_mv rfl ?_
    first | refine q_store rfl rfl rfl rfl rfl rfl ⟨rfl, rfl, by simp, rfl, by simp [isOne]⟩ rfl trivial ?_ | refine q_storeF rfl rfl rfl rfl rfl (by first | (simp; done) | (simp [setAt]; done)) trivial ?_ | refine q_store rfl rfl rfl rfl rfl rfl ⟨rfl, rfl, by simp, by simp [setAt, isCell_own, isCell_sl, isCell_int, isCell_nils], by simp [isOne]⟩ rfl trivial ?_
    refine rg_nil ?_
    refine VS_r0 rfl ?_
    refine q_mv rfl ?_
    refine q_mv rfl ?_
    first | refine q_fld_r rfl ?_ | refine q_fld_c rfl rfl ?_
    first | refine q_load_c rfl rfl rfl ?_ | refine q_load_r rfl rfl rfl rfl rfl rfl rfl ?_ | refine q_load_o rfl rfl rfl rfl rfl ?_
    refine q_idx_o rfl rfl (by omega) (by omega) rfl rfl ?_
    refine q_store_e (xs := ys) rfl rfl rfl (by omega) trivial ?_
    refine rg_nil ?_
    refine VS_r0 rfl ?_
    refine q_add rfl rfl (inR64 (by omega)) ?_
    refine q_mv rfl ?_
    refine rg_nil ?_
    refine Bd.renL [0] (fun i hi => by first | (exact absurd hi (Nat.not_lt_zero i)) | (have e : i = 0 := (by simp at hi; omega); subst e; rfl) | (have e : i = 0 ∨ i = 1 := (by simp at hi; omega); rcases e with rfl | rfl <;> rfl)) (by simp) [(0, .pv (prs xs)), (3, .own 0 xs.length), (9, .pv (prs xs)), (10, .pv (i64 xs.length)), (11, .pv (i64 (i + 1)))] ⟨rfl, rfl, rfl, rfl, rfl, trivial⟩ (l1 (mpO_I _)) ⟨_, ?_, i + 1, ys.set i (nth xs i).2, rfl, ?_, ?_, ?_, rfl, rfl⟩
    · first | omega | assumption | rfl | (simp; omega)
    · first | omega | assumption | rfl | (simp; omega)
    · exact set_stepv (by omega) (by omega) g1
    · simp; omega
  · try simp at c0
    refine VS_exit ?_
    refine VS_seq ?_
    refine VS_r0 rfl ?_
    refine q_mv rfl ?_
    refine q_mv rfl ?_
    refine rg_nil ?_
    refine VS_ret ?_
    have e : i = xs.length := by omega
    subst e
    rw [List.take_length, List.take_of_length_le (by omega)] at g1
    subst g1
    refine Bd.pureOB 2 0 rfl rfl (by simp) (toPVs_dI _) ?_
    exact Bd.now ⟨_, rfl, rfl⟩
theorem sl_impl_leafOf : slimF prog 94 = some (8, (.seq (.reg 0 (.op ⟨some 2, none, .alloc 65 3 (.agg [.nils, .nils, .nils])⟩ .nil)) (.seq (.reg 0 (.op ⟨some 3, none, .mv (.t 0)⟩ (.op ⟨some 4, none, .call 53 [.t 3]⟩ (.op ⟨some 5, none, .mv (.t 0)⟩ (.op ⟨some 6, none, .call 103 [.t 5]⟩ (.op ⟨some 7, none, .build [.nils, .nils, .nils] [(0, (1, .t 4)), (2, (1, .t 6))]⟩ (.op ⟨none, none, .store 3 (.t 2) (.t 7)⟩ .nil))))))) .ret), [.c 2 3])) := by kernel_rfl
theorem c_impl_leafOf (xs : List (Int × Int)) (hl : xs.length ≤ 1000000) : PCon prog 94 [prs xs] (fun p => p = pgP (leafG xs)) := by
  refine con_of_VS sl_impl_leafOf (by simp) ?_
  refine VS_seq ?_
  refine VS_r0 rfl ?_
  refine q_alloc trivial ?_
  refine rg_nil ?_
  refine VS_seq ?_
  refine VS_r0 rfl ?_
  refine q_mv rfl ?_
  refine q_callp (c_impl_keysOfRow xs (by omega)) rfl trivial ?_
  refine q_mv rfl ?_
  refine q_callp (c_impl_valuesOfRow xs (by omega)) rfl trivial ?_
  refine q_build rfl ?_
  first | refine q_store rfl rfl rfl rfl rfl rfl ⟨rfl, rfl, by simp, rfl, by simp [isOne]⟩ rfl trivial ?_ | refine q_storeF rfl rfl rfl rfl rfl (by first | (simp; done) | (simp [setAt]; done)) trivial ?_ | refine q_store rfl rfl rfl rfl rfl rfl ⟨rfl, rfl, by simp, by simp [setAt, isCell_own, isCell_sl, isCell_int, isCell_nils], by simp [isOne]⟩ rfl trivial ?_
  refine rg_nil ?_
  refine VS_ret ?_
  exact Bd.now ⟨_, rfl, rfl⟩
theorem sl_impl_CountLoaded : slimF prog 34 = some (22, (.seq (.reg 0 (.op ⟨some 2, none, .mv (.c (.pv (.int .i64 0)))⟩ .nil)) (.seq (.seq (.reg 0 (.op ⟨some 4, none, .mv (.t 0)⟩ (.op ⟨some 5, none, .bin .lss (.t 4) (.c (.pv (.int .i64 0)))⟩ (.op ⟨some 6, none, .mv (.t 5)⟩ (.op ⟨some 7, some (6, false), .mv (.t 0)⟩ (.op ⟨some 8, some (6, false), .bin .gtr (.t 7) (.c (.pv (.int .i64 24)))⟩ (.op ⟨some 9, none, .pick (.t 6) (.c (.pv (.bool true))) (.t 8)⟩ .nil))))))) (.cond (.t 9) (.seq (.reg 0 (.op ⟨some 2, none, .mv (.c (.pv (.int .i64 (-1))))⟩ .nil)) .ret) .skip)) (.seq (.reg 0 (.op ⟨some 10, none, .mv (.t 0)⟩ (.op ⟨some 11, none, .call 69 [.t 10]⟩ (.op ⟨some 3, none, .mv (.t 11)⟩ .nil)))) (.seq (.block 0 (.seq (.reg 0 (.op ⟨some 13, none, .mv (.t 3)⟩ (.op ⟨some 14, none, .bin .eql (.t 13) (.c (.pv (.int .i64 1)))⟩ (.op ⟨some 12, none, .mv (.t 14)⟩ .nil)))) (.cond (.t 12) (.seq (.reg 0 (.op ⟨some 2, none, .mv (.c (.pv (.int .i64 1)))⟩ .nil)) .ret) (.seq (.reg 0 (.op ⟨some 16, none, .mv (.t 3)⟩ (.op ⟨some 17, none, .bin .leq (.t 16) (.c (.pv (.int .i64 5)))⟩ (.op ⟨some 15, none, .mv (.t 17)⟩ .nil)))) (.cond (.t 15) (.seq (.reg 0 (.op ⟨some 18, none, .mv (.t 3)⟩ (.op ⟨some 19, none, .bin .add (.t 18) (.c (.pv (.int .i64 1)))⟩ (.op ⟨some 2, none, .mv (.t 19)⟩ .nil)))) .ret) .skip))))) (.seq (.reg 0 (.op ⟨some 20, none, .mv (.t 3)⟩ (.op ⟨some 21, none, .bin .add (.t 20) (.c (.pv (.int .i64 3)))⟩ (.op ⟨some 2, none, .mv (.t 21)⟩ .nil)))) .ret)))), [.t 2])) := by kernel_rfl
theorem c_impl_CountLoaded (m : Nat) (hm : m ≤ 24) : PCon prog 34 [i64 m] (fun p => p = i64 (if nlv m = 1 then 1 else if nlv m ≤ 5 then (nlv m : Int) + 1 else (nlv m : Int) + 3)) := by
  have hn := nlv_le hm
  refine con_of_VS sl_impl_CountLoaded (by simp) ?_
  refine VS_seq ?_
  refine VS_r0 rfl ?_
  refine q_mv rfl ?_
  refine rg_nil ?_
  refine VS_seq ?_
  refine VS_seq ?_
  refine VS_r0 rfl ?_
  refine q_mv rfl ?_
  refine q_lss rfl rfl ?_
  refine q_mv rfl ?_
  refine q_b rfl (fun g6 => ?_) (fun g6 => ?_)
  · try simp at g6
    refine q_t rfl ?_
    refine q_mv rfl ?_
    refine q_t rfl ?_
    refine q_gtr rfl rfl ?_
    refine q_pick_f rfl rfl ?_
    refine rg_nil ?_
    refine VS_cond rfl (fun c0 => ?_) (fun c0 => ?_)
    · exfalso; simp at c0; omega
    · try simp at c0
      refine VS_skip ?_
      refine VS_seq ?_
      refine VS_r0 rfl ?_
      refine q_mv rfl ?_
      refine q_callp (c_impl_loadedLeaves _ (by omega)) rfl trivial ?_
      refine q_mv rfl ?_
      refine rg_nil ?_
      refine VS_seq ?_
      refine VS_block ?_
      refine VS_seq ?_
      refine VS_r0 rfl ?_
      refine q_mv rfl ?_
      refine q_eql rfl rfl ?_
      refine q_mv rfl ?_
      refine rg_nil ?_
      refine VS_cond rfl (fun c1 => ?_) (fun c1 => ?_)
      · try simp at c1
        refine VS_seq ?_
        refine VS_r0 rfl ?_
        refine q_mv rfl ?_
        refine rg_nil ?_
        refine VS_ret ?_
        exact Bd.now ⟨_, rfl, (by first | rfl | (simp [*]; done) | (simp; omega) | (simp_all; done) | (simp_all; omega))⟩
      · try simp at c1
        refine VS_seq ?_
        refine VS_r0 rfl ?_
        refine q_mv rfl ?_
        refine q_leq rfl rfl ?_
        refine q_mv rfl ?_
        refine rg_nil ?_
        refine VS_cond rfl (fun c2 => ?_) (fun c2 => ?_)
        · try simp at c2
          refine VS_seq ?_
          refine VS_r0 rfl ?_
          refine q_mv rfl ?_
          refine q_add rfl rfl (inR64 (by omega)) ?_
          refine q_mv rfl ?_
          refine rg_nil ?_
          refine VS_ret ?_
          exact Bd.now ⟨_, rfl, (by first | rfl | (simp [*]; done) | (simp; omega) | (simp_all; done) | (simp_all; omega))⟩
        · try simp at c2
          refine VS_skip ?_
          refine VS_seq ?_
          refine VS_r0 rfl ?_
          refine q_mv rfl ?_
          refine q_add rfl rfl (inR64 (by omega)) ?_
          refine q_mv rfl ?_
          refine rg_nil ?_
          refine VS_ret ?_
          exact Bd.now ⟨_, rfl, (by first | rfl | (simp [*]; done) | (simp; omega) | (simp_all; done) | (simp_all; omega))⟩
  · try simp at g6
    refine q_f rfl ?_
    refine q_f rfl ?_
    refine q_pick_t rfl rfl ?_
    refine rg_nil ?_
    refine VS_cond rfl (fun _ => ?_) (fun e => by cases e)
    refine VS_seq ?_
    refine VS_r0 rfl ?_
    refine q_mv rfl ?_
    refine rg_nil ?_
    refine VS_ret ?_
    exact Bd.now ⟨_, rfl, (by first | rfl | (simp [*]; done) | (simp; omega) | (simp_all; done) | (simp_all; omega))⟩
end Go.V

set_option maxHeartbeats 4000000
namespace Go.V
open Go.Proofs.Try (prog)
set_option maxRecDepth 100000
theorem sl_impl_loader_leaves : slimF prog 70 = some (43, (.seq (.reg 0 (.op ⟨some 6, none, .mv (.c .nils)⟩ .nil)) (.seq (.reg 0 (.op ⟨some 7, none, .mv (.c .nils)⟩ .nil)) (.seq (.seq (.reg 0 (.op ⟨some 10, none, .mv (.t 0)⟩ (.op ⟨some 11, none, .nilc (.t 10)⟩ (.op ⟨some 12, none, .fld 0 1 false (.t 11)⟩ (.op ⟨some 13, none, .load 1 false (.t 12)⟩ (.op ⟨some 14, none, .mv (.t 1)⟩ (.op ⟨some 15, none, .mv (.t 2)⟩ (.op ⟨some 16, none, .slc 1 (.t 13) (some (.t 14)) (some (.t 15))⟩ (.op ⟨some 17, none, .len (.t 16)⟩ (.op ⟨some 18, none, .mv (.c (.pv (.int .i64 0)))⟩ .nil)))))))))) (.block 0 (.loop (.seq (.reg 0 (.op ⟨some 19, none, .bin .lss (.t 18) (.t 17)⟩ .nil)) (.seq (.cond (.t 19) .skip (.exit 0)) (.seq (.block 1 (.seq (.reg 0 (.op ⟨some 20, none, .idx 1 (.t 16) (.t 18)⟩ (.op ⟨some 21, none, .load 1 false (.t 20)⟩ (.op ⟨some 9, none, .mv (.t 21)⟩ .nil)))) (.seq (.reg 0 (.op ⟨some 22, none, .mv (.t 7)⟩ (.op ⟨some 23, none, .mv (.t 0)⟩ (.op ⟨some 24, none, .nilc (.t 23)⟩ (.op ⟨some 25, none, .fld 1 1 false (.t 24)⟩ (.op ⟨some 26, none, .load 1 false (.t 25)⟩ (.op ⟨some 27, none, .len (.t 26)⟩ (.op ⟨some 28, none, .lit 3 1 1 [.pv (.int .i64 0)] [(0, .t 27)]⟩ (.op ⟨some 29, none, .app 3 1 8 (.t 22) (.t 28)⟩ (.op ⟨some 7, none, .mv (.t 29)⟩ .nil)))))))))) (.reg 2 (.op ⟨some 30, none, .mv (.t 0)⟩ (.op ⟨some 31, none, .mv (.t 0)⟩ (.op ⟨some 32, none, .nilc (.t 31)⟩ (.op ⟨some 33, none, .fld 1 1 false (.t 32)⟩ (.op ⟨some 34, none, .load 1 false (.t 33)⟩ (.op ⟨some 35, none, .mv (.t 9)⟩ (.op ⟨some 36, none, .call 94 [.t 35]⟩ (.op ⟨some 37, none, .lit 65 3 1 [.nils, .nils, .nils] [(0, .t 36)]⟩ (.op ⟨some 38, none, .app 65 3 72 (.t 34) (.t 37)⟩ (.op ⟨some 39, none, .nilc (.t 30)⟩ (.op ⟨some 40, none, .fld 1 1 false (.t 39)⟩ (.last ⟨none, none, .store 1 (.t 40) (.t 38)⟩)))))))))))))))) (.reg 0 (.op ⟨some 41, none, .bin .add (.t 18) (.c (.pv (.int .i64 1)))⟩ (.op ⟨some 18, none, .mv (.t 41)⟩ .nil))))))))) (.seq (.reg 0 (.op ⟨some 42, none, .mv (.t 7)⟩ (.op ⟨some 6, none, .mv (.t 42)⟩ .nil))) .ret))), [.t 6])) := by kernel_rfl
theorem c_impl_loader_leaves (qs : List (List (Int × Int))) (ps : List Pg) (a b : Nat) (hab : a ≤ b ∧ b ≤ qs.length) (hq : qs.length ≤ 6) (hp : ps.length ≤ 100) (hz : ∀ x ∈ qs, x.length ≤ 24) : CallS prog 70 [.ptr 0 0 0, .pv (i64 a), .pv (i64 b)] [ldC 89 1 qs ps, obD 65 3 (dG ps)] (fun d S => ∃ T, d = .pv (ints (natI ps.length (b - a))) ∧ S = ldC 89 2 qs (ps ++ (midR qs a b).map leafG) :: none :: obD 65 3 (dG (ps ++ (midR qs a b).map leafG)) :: T) := by
  have hml := mid_len hab
  refine callS_of_VS sl_impl_loader_leaves (by simp) ?_
  refine VS_seq ?_
  refine VS_bd (Bd.ld0 ?_)
  refine VS_r0 rfl ?_
  refine q_mv rfl ?_
  refine rg_nil ?_
  refine VS_seq ?_
  refine VS_r0 rfl ?_
  refine q_mv rfl ?_
  refine rg_nil ?_
  refine VS_seq ?_
  refine VS_seq ?_
  refine VS_r0 rfl ?_
  refine q_mv rfl ?_
  first | refine q_nilc_r rfl ?_ | refine q_nilc_c rfl ?_
  first | refine q_fld_r rfl ?_ | refine q_fld_c rfl rfl ?_
  first | refine q_load_c rfl rfl rfl ?_ | refine q_load_r rfl rfl rfl rfl rfl rfl rfl ?_ | refine q_load_o rfl rfl rfl rfl rfl ?_
  refine q_mv rfl ?_
  refine q_mv rfl ?_
  refine q_slc_m (xs := qs) (f := prs) a b rfl rfl rfl ⟨rfl, rfl, by omega, by omega⟩ (fun _ => rfl) ?_
  first | refine q_len_m rfl ?_ | refine q_len_s rfl ?_ | refine q_len_o rfl ?_ | refine q_len_n rfl ?_ | refine q_len_x rfl ?_
  refine q_mv rfl ?_
  refine rg_nil ?_
  refine VS_block ?_
  refine VS_bd (Bd.pad ?_)
  refine VS_bd (Bd.keepL [(0, .ptr 0 0 0), (7, ownD 3 (dI ([]))), (16, .pv (prtsP (midR qs a b))), (17, .pv (i64 (midR qs a b).length)), (18, .pv (i64 0))] ⟨rfl, rfl, rfl, rfl, rfl, trivial⟩ ?_)
  refine VS_loop (fun mz E S => ∃ i : Nat, ∃ ns : List Int, ∃ zs : List Pg, mz = (midR qs a b).length - i ∧ (i ≤ (midR qs a b).length) ∧ (ns = natI ps.length i) ∧ (zs = ps ++ ((midR qs a b).take i).map leafG) ∧ (ns.length = i ∧ zs.length = ps.length + i) ∧ E = env [(0, .ptr 0 0 0), (7, ownD 3 (dI ns)), (16, .pv (prtsP (midR qs a b))), (17, .pv (i64 (midR qs a b).length)), (18, .pv (i64 i))] ∧ S = [ldC 89 2 qs zs, none, obD 65 3 (dG zs), obD 3 1 (dI ns)]) ⟨_, 0, [], ps, rfl, (by first | omega | (intros; omega) | simp), rfl, (by simp), ⟨rfl, rfl⟩, rfl, rfl⟩ ?_
  rintro mz _ _ ⟨i, ns, zs, hmeas, g0, g1, g2, g3, rfl, rfl⟩
  refine VS_seq ?_
  refine VS_r0 rfl ?_
  refine q_lss rfl rfl ?_
  refine rg_nil ?_
  refine VS_seq ?_
  refine VS_cond rfl (fun c0 => ?_) (fun c0 => ?_)
  · try simp at c0
    have hz2 := hz _ (List.mem_of_mem_take (List.mem_of_mem_drop (nth_mem (xs := (midR qs a b)) (i := i) (by omega))))
    refine VS_skip ?_
    refine VS_seq ?_
    refine VS_block ?_
    refine VS_seq ?_
    refine VS_r0 rfl ?_
    refine q_idx_m (f := prs) (xs := (midR qs a b)) (n := (i : Int)) rfl rfl (by omega) (by omega) (fun _ => rfl) ?_
    first | refine q_load_c rfl rfl rfl ?_ | refine q_load_r rfl rfl rfl rfl rfl rfl rfl ?_ | refine q_load_o rfl rfl rfl rfl rfl ?_
    refine q_mv rfl ?_
    refine rg_nil ?_
    refine VS_seq ?_
    refine VS_r0 rfl ?_
    refine q_mv rfl ?_
    refine q_mv rfl ?_
    first | refine q_nilc_r rfl ?_ | refine q_nilc_c rfl ?_
    first | refine q_fld_r rfl ?_ | refine q_fld_c rfl rfl ?_
    first | refine q_load_c rfl rfl rfl ?_ | refine q_load_r rfl rfl rfl rfl rfl rfl rfl ?_ | refine q_load_o rfl rfl rfl rfl rfl ?_
    refine q_len_dm rfl ?_
    refine q_lit (xs := [i64 zs.length]) rfl rfl rfl rfl ?_
    refine q_app_dm (xs := ns) (ys := [(zs.length : Int)]) (f := fun k => .pv (i64 k)) rfl rfl rfl rfl ⟨by simp; omega, by simp; omega⟩ trivial ?_
    refine q_mv rfl ?_
    refine rg_nil ?_
    refine VS_r2 [ldC 89 2 qs zs] hmix (SubL.sub (by repeat (first | exact SubL.nil | apply SubL.none | apply SubL.some | apply SubL.sh | apply SubL.eq))) ?_
    refine q_mv rfl ?_
    refine q_mv rfl ?_
    first | refine q_nilc_r rfl ?_ | refine q_nilc_c rfl ?_
    first | refine q_fld_r rfl ?_ | refine q_fld_c rfl rfl ?_
    first | refine q_load_c rfl rfl rfl ?_ | refine q_load_r rfl rfl rfl rfl rfl rfl rfl ?_ | refine q_load_o rfl rfl rfl rfl rfl ?_
    refine q_mv rfl ?_
    refine q_callp (c_impl_leafOf (nth (midR qs a b) i) (by omega)) rfl (by first | exact trivial | exact Sub.nil | exact Sub.refl _ | exact Sub.app _ _ | exact SubL.sub (by repeat (first | exact SubL.nil | apply SubL.none | apply SubL.some | apply SubL.sh | apply SubL.eq)) | (refine Sub.of_eq ?_; intro o ob h; rcases o with _ | _ | _ | _ | _ | o <;> simp_all)) ?_
    refine q_lit (xs := [pgP (leafG (nth (midR qs a b) i))]) rfl rfl rfl rfl ?_
    refine q_app_dm (xs := zs) (ys := [leafG (nth (midR qs a b) i)]) (f := fun p => .pv (pgP p)) rfl rfl rfl rfl ⟨by simp; omega, by simp; omega⟩ (by first | exact trivial | exact Sub.nil | exact Sub.refl _ | exact Sub.app _ _ | exact SubL.sub (by repeat (first | exact SubL.nil | apply SubL.none | apply SubL.some | apply SubL.sh | apply SubL.eq)) | (refine Sub.of_eq ?_; intro o ob h; rcases o with _ | _ | _ | _ | _ | o <;> simp_all)) ?_
    first | refine q_nilc_r rfl ?_ | refine q_nilc_c rfl ?_
    first | refine q_fld_r rfl ?_ | refine q_fld_c rfl rfl ?_
    refine q_last ?_
    first | refine q_store rfl rfl rfl rfl rfl rfl ⟨rfl, rfl, by simp, rfl, by simp [isOne]⟩ rfl (by first | exact trivial | exact Sub.nil | exact Sub.refl _ | exact Sub.app _ _ | exact SubL.sub (by repeat (first | exact SubL.nil | apply SubL.none | apply SubL.some | apply SubL.sh | apply SubL.eq)) | (refine Sub.of_eq ?_; intro o ob h; rcases o with _ | _ | _ | _ | _ | o <;> simp_all)) ?_ | refine q_storeF rfl rfl rfl rfl rfl (by first | (simp; done) | (simp [setAt]; done)) (by first | exact trivial | exact Sub.nil | exact Sub.refl _ | exact Sub.app _ _ | exact SubL.sub (by repeat (first | exact SubL.nil | apply SubL.none | apply SubL.some | apply SubL.sh | apply SubL.eq)) | (refine Sub.of_eq ?_; intro o ob h; rcases o with _ | _ | _ | _ | _ | o <;> simp_all)) ?_ | refine q_store rfl rfl rfl rfl rfl rfl ⟨rfl, rfl, by simp, by simp [setAt, isCell_own, isCell_sl, isCell_int, isCell_nils], by simp [isOne]⟩ rfl (by first | exact trivial | exact Sub.nil | exact Sub.refl _ | exact Sub.app _ _ | exact SubL.sub (by repeat (first | exact SubL.nil | apply SubL.none | apply SubL.some | apply SubL.sh | apply SubL.eq)) | (refine Sub.of_eq ?_; intro o ob h; rcases o with _ | _ | _ | _ | _ | o <;> simp_all)) ?_
    refine rg_nil ?_
    refine VS_r0 rfl ?_
    refine q_add rfl rfl (inR64 (by omega)) ?_
    refine q_mv rfl ?_
    refine rg_nil ?_
    refine Bd.renL [0, 1, 5, 4] (fun i hi => by first | (exact absurd hi (Nat.not_lt_zero i)) | (have e : i = 0 := (by simp at hi; omega); subst e; rfl) | (have e : i = 0 ∨ i = 1 := (by simp at hi; omega); rcases e with rfl | rfl <;> rfl)) (by simp) [(0, .ptr 0 0 0), (7, ownD 3 (dI (ns ++ [(zs.length : Int)]))), (16, .pv (prtsP (midR qs a b))), (17, .pv (i64 (midR qs a b).length)), (18, .pv (i64 (i + 1)))] ⟨rfl, inv_own rfl, rfl, rfl, rfl, trivial⟩ (l4 (ldC_mp (mp1_own rfl)) rfl (obD_mG _) (obD_mI _)) ⟨_, ?_, i + 1, ns ++ [(zs.length : Int)], zs ++ [leafG (nth (midR qs a b) i)], rfl, ?_, ?_, ?_, ?_, rfl, rfl⟩
    · first | omega | assumption | rfl | (simp; omega)
    · first | omega | assumption | rfl | (simp; omega)
    · rw [natI_succ, g1, g3.2]
    · rw [g2, take_succ_nth (by omega), List.map_append, List.append_assoc]; rfl
    · simp; omega
  · try simp at c0
    refine VS_exit ?_
    refine VS_seq ?_
    refine VS_r0 rfl ?_
    refine q_mv rfl ?_
    refine q_mv rfl ?_
    refine rg_nil ?_
    refine VS_ret ?_
    have e : i = (midR qs a b).length := by omega
    rw [e, List.take_length] at g2
    rw [e, hml] at g1
    refine Bd.pureB 6 3 3 1 (xs := dI ns) rfl rfl (toPVs_dI _) ?_
    exact Bd.now ⟨_, rfl, _, by rw [← g1]; rfl, by rw [← g2]; rfl⟩
theorem sl_impl_loader_inner : slimF prog 71 = some (62, (.seq (.reg 0 (.op ⟨some 6, none, .mv (.c (.pv (.int .i64 0)))⟩ .nil)) (.seq (.reg 0 (.op ⟨some 12, none, .mv (.t 0)⟩ (.op ⟨some 13, none, .nilc (.t 12)⟩ (.op ⟨some 14, none, .fld 1 1 false (.t 13)⟩ (.op ⟨some 15, none, .load 1 false (.t 14)⟩ (.op ⟨some 16, none, .len (.t 15)⟩ (.op ⟨some 7, none, .mv (.t 16)⟩ .nil))))))) (.seq (.reg 0 (.op ⟨some 17, none, .mv (.t 0)⟩ (.op ⟨some 18, none, .mv (.t 0)⟩ (.op ⟨some 19, none, .nilc (.t 18)⟩ (.op ⟨some 20, none, .fld 1 1 false (.t 19)⟩ (.op ⟨some 21, none, .load 1 false (.t 20)⟩ (.op ⟨some 22, none, .build [.nils, .nils, .nils] []⟩ (.op ⟨some 23, none, .lit 65 3 1 [.nils, .nils, .nils] [(0, .t 22)]⟩ (.op ⟨some 24, none, .app 65 3 72 (.t 21) (.t 23)⟩ (.op ⟨some 25, none, .nilc (.t 17)⟩ (.op ⟨some 26, none, .fld 1 1 false (.t 25)⟩ (.op ⟨none, none, .store 1 (.t 26) (.t 24)⟩ .nil)))))))))))) (.seq (.reg 0 (.op ⟨some 8, none, .mv (.c .nils)⟩ .nil)) (.seq (.seq (.reg 0 (.op ⟨some 27, none, .mv (.t 0)⟩ (.op ⟨some 28, none, .nilc (.t 27)⟩ (.op ⟨some 29, none, .fld 0 1 false (.t 28)⟩ (.op ⟨some 30, none, .load 1 false (.t 29)⟩ (.op ⟨some 31, none, .mv (.t 1)⟩ (.op ⟨some 32, none, .bin .add (.t 31) (.c (.pv (.int .i64 1)))⟩ (.op ⟨some 33, none, .mv (.t 2)⟩ (.op ⟨some 34, none, .slc 1 (.t 30) (some (.t 32)) (some (.t 33))⟩ (.op ⟨some 35, none, .len (.t 34)⟩ (.op ⟨some 36, none, .mv (.c (.pv (.int .i64 0)))⟩ .nil))))))))))) (.block 0 (.loop (.seq (.reg 0 (.op ⟨some 37, none, .bin .lss (.t 36) (.t 35)⟩ .nil)) (.seq (.cond (.t 37) .skip (.exit 0)) (.seq (.block 1 (.seq (.reg 0 (.op ⟨some 38, none, .idx 1 (.t 34) (.t 36)⟩ (.op ⟨some 39, none, .load 1 false (.t 38)⟩ (.op ⟨some 10, none, .mv (.t 39)⟩ .nil)))) (.reg 0 (.op ⟨some 40, none, .mv (.t 8)⟩ (.op ⟨some 41, none, .mv (.t 10)⟩ (.op ⟨some 42, none, .idx 2 (.t 41) (.c (.pv (.int .i64 0)))⟩ (.op ⟨some 43, none, .fld 0 1 false (.t 42)⟩ (.op ⟨some 44, none, .load 1 false (.t 43)⟩ (.op ⟨some 45, none, .lit 3 1 1 [.pv (.int .i64 0)] [(0, .t 44)]⟩ (.op ⟨some 46, none, .app 3 1 8 (.t 40) (.t 45)⟩ (.op ⟨some 8, none, .mv (.t 46)⟩ .nil))))))))))) (.reg 0 (.op ⟨some 47, none, .bin .add (.t 36) (.c (.pv (.int .i64 1)))⟩ (.op ⟨some 36, none, .mv (.t 47)⟩ .nil))))))))) (.seq (.reg 0 (.op ⟨some 48, none, .mv (.t 0)⟩ (.op ⟨some 49, none, .mv (.t 1)⟩ (.op ⟨some 50, none, .mv (.t 2)⟩ (.op ⟨some 51, none, .call 70 [.t 48, .t 49, .t 50]⟩ (.op ⟨some 11, none, .mv (.t 51)⟩ .nil)))))) (.seq (.reg 0 (.op ⟨some 52, none, .mv (.t 0)⟩ (.op ⟨some 53, none, .nilc (.t 52)⟩ (.op ⟨some 54, none, .fld 1 1 false (.t 53)⟩ (.op ⟨some 55, none, .load 1 false (.t 54)⟩ (.op ⟨some 56, none, .mv (.t 7)⟩ (.op ⟨some 57, none, .mv (.t 8)⟩ (.op ⟨some 58, none, .mv (.t 11)⟩ (.op ⟨some 59, none, .build [.nils, .nils, .nils] [(0, (1, .t 57)), (1, (1, .t 58))]⟩ (.op ⟨some 60, none, .idx 3 (.t 55) (.t 56)⟩ (.op ⟨none, none, .store 3 (.t 60) (.t 59)⟩ .nil))))))))))) (.seq (.reg 0 (.op ⟨some 61, none, .mv (.t 7)⟩ (.op ⟨some 6, none, .mv (.t 61)⟩ .nil))) .ret))))))), [.t 6])) := by kernel_rfl
theorem c_impl_loader_inner (qs : List (List (Int × Int))) (ps : List Pg) (a b : Nat) (hab : a < b ∧ b ≤ qs.length) (hq : qs.length ≤ 6) (hp : ps.length ≤ 20) (hz : ∀ x ∈ qs, 0 < x.length ∧ x.length ≤ 24) : CallS prog 71 [.ptr 0 0 0, .pv (i64 a), .pv (i64 b)] [ldC 89 1 qs ps, obD 65 3 (dG ps)] (fun d S => ∃ T, d = .pv (i64 ps.length) ∧ S = ldC 89 2 qs (ps ++ [(⟨(midR qs (a + 1) b).map fun x => (nth x 0).1, natI (ps.length + 1) (b - a), []⟩ : Pg)] ++ (midR qs a b).map leafG) :: none :: obD 65 3 (dG (ps ++ [(⟨(midR qs (a + 1) b).map fun x => (nth x 0).1, natI (ps.length + 1) (b - a), []⟩ : Pg)] ++ (midR qs a b).map leafG)) :: T) := by
  have hab2 : a ≤ b ∧ b ≤ qs.length := ⟨by omega, hab.2⟩
  have hml := mid_len (a := a + 1) (b := b) (qs := qs) ⟨by omega, hab.2⟩
  refine callS_of_VS sl_impl_loader_inner (by simp) ?_
  refine VS_seq ?_
  refine VS_bd (Bd.ld0 ?_)
  refine VS_r0 rfl ?_
  refine q_mv rfl ?_
  refine rg_nil ?_
  refine VS_seq ?_
  refine VS_r0 rfl ?_
  refine q_mv rfl ?_
  first | refine q_nilc_r rfl ?_ | refine q_nilc_c rfl ?_
  first | refine q_fld_r rfl ?_ | refine q_fld_c rfl rfl ?_
  first | refine q_load_c rfl rfl rfl ?_ | refine q_load_r rfl rfl rfl rfl rfl rfl rfl ?_ | refine q_load_o rfl rfl rfl rfl rfl ?_
  refine q_len_dm rfl ?_
  refine q_mv rfl ?_
  refine rg_nil ?_
  refine VS_seq ?_
  refine VS_r0 rfl ?_
  refine q_mv rfl ?_
  refine q_mv rfl ?_
  first | refine q_nilc_r rfl ?_ | refine q_nilc_c rfl ?_
  first | refine q_fld_r rfl ?_ | refine q_fld_c rfl rfl ?_
  first | refine q_load_c rfl rfl rfl ?_ | refine q_load_r rfl rfl rfl rfl rfl rfl rfl ?_ | refine q_load_o rfl rfl rfl rfl rfl ?_
  refine q_build rfl ?_
  refine q_lit (xs := [pgP ⟨[], [], []⟩]) rfl rfl rfl rfl ?_
  refine q_app_dm (xs := ps) (ys := [(⟨[], [], []⟩ : Pg)]) (f := fun p => .pv (pgP p)) rfl rfl rfl rfl ⟨by simp; omega, by simp; omega⟩ trivial ?_
  first | refine q_nilc_r rfl ?_ | refine q_nilc_c rfl ?_
  first | refine q_fld_r rfl ?_ | refine q_fld_c rfl rfl ?_
  first | refine q_store rfl rfl rfl rfl rfl rfl ⟨rfl, rfl, by simp, rfl, by simp [isOne]⟩ rfl trivial ?_ | refine q_storeF rfl rfl rfl rfl rfl (by first | (simp; done) | (simp [setAt]; done)) trivial ?_ | refine q_store rfl rfl rfl rfl rfl rfl ⟨rfl, rfl, by simp, by simp [setAt, isCell_own, isCell_sl, isCell_int, isCell_nils], by simp [isOne]⟩ rfl trivial ?_
  refine rg_nil ?_
  refine VS_seq ?_
  refine VS_r0 rfl ?_
  refine q_mv rfl ?_
  refine rg_nil ?_
  refine VS_seq ?_
  refine VS_seq ?_
  refine VS_r0 rfl ?_
  refine q_mv rfl ?_
  first | refine q_nilc_r rfl ?_ | refine q_nilc_c rfl ?_
  first | refine q_fld_r rfl ?_ | refine q_fld_c rfl rfl ?_
  first | refine q_load_c rfl rfl rfl ?_ | refine q_load_r rfl rfl rfl rfl rfl rfl rfl ?_ | refine q_load_o rfl rfl rfl rfl rfl ?_
  refine q_mv rfl ?_
  refine q_add rfl rfl (inR64 (by omega)) ?_
  refine q_mv rfl ?_
  refine q_slc_m (xs := qs) (f := prs) (a + 1) b rfl rfl rfl ⟨rfl, rfl, by omega, by omega⟩ (fun _ => rfl) ?_
  first | refine q_len_m rfl ?_ | refine q_len_s rfl ?_ | refine q_len_o rfl ?_ | refine q_len_n rfl ?_ | refine q_len_x rfl ?_
  refine q_mv rfl ?_
  refine rg_nil ?_
  refine VS_block ?_
  refine VS_bd (Bd.pad ?_)
  refine VS_bd (Bd.keepL [(0, .ptr 0 0 0), (1, .pv (i64 a)), (2, .pv (i64 b)), (7, .pv (i64 ps.length)), (8, ownD 4 (dI ([]))), (34, .pv (prtsP (midR qs (a + 1) b))), (35, .pv (i64 (midR qs (a + 1) b).length)), (36, .pv (i64 0))] ⟨rfl, rfl, rfl, rfl, rfl, rfl, rfl, rfl, trivial⟩ ?_)
  refine VS_loop (fun mz E S => ∃ i : Nat, ∃ ks : List Int, mz = (midR qs (a + 1) b).length - i ∧ (i ≤ (midR qs (a + 1) b).length) ∧ (ks = ((midR qs (a + 1) b).take i).map fun x => (nth x 0).1) ∧ (ks.length = i) ∧ E = env [(0, .ptr 0 0 0), (1, .pv (i64 a)), (2, .pv (i64 b)), (7, .pv (i64 ps.length)), (8, ownD 4 (dI ks)), (34, .pv (prtsP (midR qs (a + 1) b))), (35, .pv (i64 (midR qs (a + 1) b).length)), (36, .pv (i64 i))] ∧ S = [ldC 89 3 qs (ps ++ [(⟨[], [], []⟩ : Pg)]), none, none, obD 65 3 (dG (ps ++ [(⟨[], [], []⟩ : Pg)])), obD 3 1 (dI ks)]) ⟨_, 0, [], rfl, (by first | omega | (intros; omega) | simp), rfl, rfl, rfl, rfl⟩ ?_
  rintro mz _ _ ⟨i, ks, hmeas, g0, g1, g2, rfl, rfl⟩
  refine VS_seq ?_
  refine VS_r0 rfl ?_
  refine q_lss rfl rfl ?_
  refine rg_nil ?_
  refine VS_seq ?_
  refine VS_cond rfl (fun c0 => ?_) (fun c0 => ?_)
  · try simp at c0
    have hz2 := hz _ (List.mem_of_mem_take (List.mem_of_mem_drop (nth_mem (xs := (midR qs (a + 1) b)) (i := i) (by omega))))
    refine VS_skip ?_
    refine VS_seq ?_
    refine VS_block ?_
    refine VS_seq ?_
    refine VS_r0 rfl ?_
    refine q_idx_m (f := prs) (xs := (midR qs (a + 1) b)) (n := (i : Int)) rfl rfl (by omega) (by omega) (fun _ => rfl) ?_
    first | refine q_load_c rfl rfl rfl ?_ | refine q_load_r rfl rfl rfl rfl rfl rfl rfl ?_ | refine q_load_o rfl rfl rfl rfl rfl ?_
    refine q_mv rfl ?_
    refine rg_nil ?_
    refine VS_r0 rfl ?_
    refine q_mv rfl ?_
    refine q_mv rfl ?_
    refine q_idx_m (f := pairP) (xs := nth (midR qs (a + 1) b) i) (n := 0) rfl rfl (by omega) (by omega) (fun _ => rfl) ?_
    first | refine q_fld_r rfl ?_ | refine q_fld_c rfl rfl ?_
    first | refine q_load_c rfl rfl rfl ?_ | refine q_load_r rfl rfl rfl rfl rfl rfl rfl ?_ | refine q_load_o rfl rfl rfl rfl rfl ?_
    refine q_lit (xs := [i64 (nth (nth (midR qs (a + 1) b) i) 0).1]) rfl rfl rfl rfl ?_
    refine q_app_dm (xs := ks) (ys := [(nth (nth (midR qs (a + 1) b) i) 0).1]) (f := fun k => .pv (i64 k)) rfl rfl rfl rfl ⟨by simp; omega, by simp; omega⟩ trivial ?_
    refine q_mv rfl ?_
    refine rg_nil ?_
    refine VS_r0 rfl ?_
    refine q_add rfl rfl (inR64 (by omega)) ?_
    refine q_mv rfl ?_
    refine rg_nil ?_
    refine Bd.renL [0, 1, 2, 3, 5] (fun i hi => by first | (exact absurd hi (Nat.not_lt_zero i)) | (have e : i = 0 := (by simp at hi; omega); subst e; rfl) | (have e : i = 0 ∨ i = 1 := (by simp at hi; omega); rcases e with rfl | rfl <;> rfl)) (by simp) [(0, .ptr 0 0 0), (1, .pv (i64 a)), (2, .pv (i64 b)), (7, .pv (i64 ps.length)), (8, ownD 4 (dI (ks ++ [(nth (nth (midR qs (a + 1) b) i) 0).1]))), (34, .pv (prtsP (midR qs (a + 1) b))), (35, .pv (i64 (midR qs (a + 1) b).length)), (36, .pv (i64 (i + 1)))] ⟨rfl, rfl, rfl, rfl, inv_own rfl, rfl, rfl, rfl, trivial⟩ (l5 (ldC_mp (mp1_own rfl)) rfl rfl (obD_mG _) (obD_mI _)) ⟨_, ?_, i + 1, ks ++ [(nth (nth (midR qs (a + 1) b) i) 0).1], rfl, ?_, ?_, ?_, rfl, rfl⟩
    · first | omega | assumption | rfl | (simp; omega)
    · first | omega | assumption | rfl | (simp; omega)
    · rw [g1, take_succ_nth (by omega), List.map_append]; rfl
    · simp; omega
  · try simp at c0
    refine VS_exit ?_
    refine VS_seq ?_
    refine VS_bd (Bd.pure 8 4 3 1 (xs := dI ks) rfl rfl (toPVs_dI _) ?_)
    refine VS_r0 rfl ?_
    refine q_mv rfl ?_
    refine q_mv rfl ?_
    refine q_mv rfl ?_
    refine q_ld rfl (show LdS prog 70 89 65 [i64 a, i64 b] qs (ps ++ [(⟨[], [], []⟩ : Pg)]) (ints (natI (ps.length + 1) (b - a))) (ps ++ [(⟨[], [], []⟩ : Pg)] ++ (midR qs a b).map leafG) from by have h := c_impl_loader_leaves qs (ps ++ [(⟨[], [], []⟩ : Pg)]) a b hab2 hq (by simp; omega) (fun x hx => (hz x hx).2); rw [List.length_append] at h; exact h) rfl rfl (by decide) rfl rfl (by simp) trivial ?_
    refine q_mv rfl ?_
    refine rg_nil ?_
    refine VS_seq ?_
    refine VS_r0 rfl ?_
    refine q_mv rfl ?_
    first | refine q_nilc_r rfl ?_ | refine q_nilc_c rfl ?_
    first | refine q_fld_r rfl ?_ | refine q_fld_c rfl rfl ?_
    first | refine q_load_c rfl rfl rfl ?_ | refine q_load_r rfl rfl rfl rfl rfl rfl rfl ?_ | refine q_load_o rfl rfl rfl rfl rfl ?_
    refine q_mv rfl ?_
    refine q_mv rfl ?_
    refine q_mv rfl ?_
    refine q_build rfl ?_
    refine q_idx_dm (f := fun p => .pv (pgP p)) (ty := 65) (xs := ps ++ [(⟨[], [], []⟩ : Pg)] ++ (midR qs a b).map leafG) (n := (ps.length : Int)) rfl rfl (by omega) (by first | (simp; done) | (simp; omega)) rfl ?_
    refine q_store_gz (ty := 65) (qs := ps ++ [(⟨[], [], []⟩ : Pg)] ++ (midR qs a b).map leafG) (ds := [.pv (ints ks), .pv (ints (natI (ps.length + 1) (b - a))), .nils]) rfl rfl rfl rfl rfl rfl (by first | (simp; done) | (simp; omega)) trivial ?_
    refine rg_nil ?_
    refine VS_bd (Bd.packZ 5 ps.length (qs := ps ++ [(⟨[], [], []⟩ : Pg)] ++ (midR qs a b).map leafG) (g := ⟨ks, natI (ps.length + 1) (b - a), []⟩) (by first | (simp; done) | (simp; omega)) rfl rfl (Bd.now ?_))
    refine VS_seq ?_
    refine VS_r0 rfl ?_
    refine q_mv rfl ?_
    refine q_mv rfl ?_
    refine rg_nil ?_
    refine VS_ret ?_
    have e : i = (midR qs (a + 1) b).length := by omega
    rw [e, List.take_length] at g1
    have e2 : (ps ++ [(⟨[], [], []⟩ : Pg)] ++ (midR qs a b).map leafG).set ps.length ⟨ks, natI (ps.length + 1) (b - a), []⟩ = (ps ++ [(⟨(midR qs (a + 1) b).map fun x => (nth x 0).1, natI (ps.length + 1) (b - a), []⟩ : Pg)] ++ (midR qs a b).map leafG) := by rw [List.append_assoc, List.set_append_right _ _ (Nat.le_refl _), Nat.sub_self, g1]; simp
    refine Bd.renL [0, 1, 5] (fun i hi => by have e : i = 0 ∨ i = 1 := (by simp at hi; omega); rcases e with rfl | rfl <;> rfl) (by simp) [(6, .pv (i64 ps.length))] ⟨rfl, trivial⟩ (l3 (ldC_mpl (zs := (ps ++ [(⟨[], [], []⟩ : Pg)] ++ (midR qs a b).map leafG).set ps.length ⟨ks, natI (ps.length + 1) (b - a), []⟩) (by simp) (mp1_own rfl)) rfl (obD_mG (ty := 65) (sz := 3) _)) ?_
    exact ⟨_, rfl, _, rfl, by rw [← e2]; rfl⟩
end Go.V

set_option maxHeartbeats 4000000
namespace Go.V
open Go.Proofs.Try (prog)
set_option maxRecDepth 100000
theorem sl_impl_LoadTree : slimF prog 30 = some (84, (.seq (.reg 0 (.op ⟨some 2, none, .alloc 53 2 (.agg [.pv (.int .i64 0), .nils])⟩ (.op ⟨some 3, none, .mv (.c (.pv (.bool false)))⟩ .nil))) (.seq (.seq (.reg 0 (.op ⟨some 10, none, .mv (.t 0)⟩ (.op ⟨some 11, none, .call 18 [.t 10]⟩ (.op ⟨some 12, none, .not (.t 11)⟩ .nil)))) (.cond (.t 12) (.seq (.reg 0 (.op ⟨some 13, none, .build [.pv (.int .i64 0), .nils] []⟩ (.op ⟨none, none, .store 2 (.t 2) (.t 13)⟩ (.op ⟨some 3, none, .mv (.c (.pv (.bool false)))⟩ .nil)))) .ret) .skip)) (.seq (.reg 0 (.op ⟨some 14, none, .mv (.t 0)⟩ (.op ⟨some 15, none, .len (.t 14)⟩ (.op ⟨some 16, none, .call 69 [.t 15]⟩ (.op ⟨some 4, none, .mv (.t 16)⟩ .nil))))) (.seq (.reg 0 (.op ⟨some 17, none, .build [.nils, .nils] []⟩ (.op ⟨some 5, none, .alloc 89 2 (.agg [.nils, .nils])⟩ (.op ⟨none, none, .store 2 (.t 5) (.t 17)⟩ .nil)))) (.seq (.seq (.reg 0 (.op ⟨some 18, none, .mv (.t 4)⟩ (.op ⟨some 19, none, .mv (.c (.pv (.int .i64 0)))⟩ .nil))) (.block 0 (.loop (.seq (.reg 0 (.op ⟨some 20, none, .bin .lss (.t 19) (.t 18)⟩ .nil)) (.seq (.cond (.t 20) .skip (.exit 0)) (.seq (.block 1 (.seq (.reg 0 (.op ⟨some 21, none, .mv (.t 19)⟩ (.op ⟨some 6, none, .mv (.t 21)⟩ .nil))) (.reg 2 (.op ⟨some 22, none, .fld 0 1 false (.t 5)⟩ (.op ⟨some 23, none, .load 1 false (.t 22)⟩ (.op ⟨some 24, none, .mv (.t 0)⟩ (.op ⟨some 25, none, .mv (.t 6)⟩ (.op ⟨some 26, none, .mv (.t 0)⟩ (.op ⟨some 27, none, .len (.t 26)⟩ (.op ⟨some 28, none, .bin .mul (.t 25) (.t 27)⟩ (.op ⟨some 29, none, .mv (.t 4)⟩ (.op ⟨some 30, none, .bin .quo (.t 28) (.t 29)⟩ (.op ⟨some 31, none, .mv (.t 6)⟩ (.op ⟨some 32, none, .bin .add (.t 31) (.c (.pv (.int .i64 1)))⟩ (.op ⟨some 33, none, .mv (.t 0)⟩ (.op ⟨some 34, none, .len (.t 33)⟩ (.op ⟨some 35, none, .bin .mul (.t 32) (.t 34)⟩ (.op ⟨some 36, none, .mv (.t 4)⟩ (.op ⟨some 37, none, .bin .quo (.t 35) (.t 36)⟩ (.op ⟨some 38, none, .slc 2 (.t 24) (some (.t 30)) (some (.t 37))⟩ (.op ⟨some 39, none, .lit 23 1 1 [.nils] [(0, .t 38)]⟩ (.op ⟨some 40, none, .app 23 1 24 (.t 23) (.t 39)⟩ (.op ⟨some 41, none, .fld 0 1 false (.t 5)⟩ (.last ⟨none, none, .store 1 (.t 41) (.t 40)⟩)))))))))))))))))))))))) (.reg 0 (.op ⟨some 42, none, .bin .add (.t 19) (.c (.pv (.int .i64 1)))⟩ (.op ⟨some 19, none, .mv (.t 42)⟩ .nil))))))))) (.seq (.block 2 (.seq (.reg 0 (.op ⟨some 73, none, .mv (.t 4)⟩ (.op ⟨some 74, none, .bin .eql (.t 73) (.c (.pv (.int .i64 1)))⟩ (.op ⟨some 72, none, .mv (.t 74)⟩ .nil)))) (.cond (.t 72) (.reg 0 (.op ⟨some 75, none, .call 70 [.t 5, .c (.pv (.int .i64 0)), .c (.pv (.int .i64 1))]⟩ .nil)) (.seq (.reg 0 (.op ⟨some 77, none, .mv (.t 4)⟩ (.op ⟨some 78, none, .bin .leq (.t 77) (.c (.pv (.int .i64 5)))⟩ (.op ⟨some 76, none, .mv (.t 78)⟩ .nil)))) (.cond (.t 76) (.reg 0 (.op ⟨some 79, none, .mv (.t 4)⟩ (.op ⟨some 80, none, .call 71 [.t 5, .c (.pv (.int .i64 0)), .t 79]⟩ .nil))) (.seq (.reg 0 (.op ⟨some 43, none, .mv (.t 4)⟩ (.op ⟨some 44, none, .bin .quo (.t 43) (.c (.pv (.int .i64 2)))⟩ (.op ⟨some 7, none, .mv (.t 44)⟩ .nil)))) (.seq (.reg 0 (.op ⟨some 45, none, .fld 1 1 false (.t 5)⟩ (.op ⟨some 46, none, .load 1 false (.t 45)⟩ (.op ⟨some 47, none, .build [.nils, .nils, .nils] []⟩ (.op ⟨some 48, none, .lit 65 3 1 [.nils, .nils, .nils] [(0, .t 47)]⟩ (.op ⟨some 49, none, .app 65 3 72 (.t 46) (.t 48)⟩ (.op ⟨some 50, none, .fld 1 1 false (.t 5)⟩ (.op ⟨none, none, .store 1 (.t 50) (.t 49)⟩ .nil)))))))) (.seq (.reg 0 (.op ⟨some 51, none, .mv (.t 7)⟩ (.op ⟨some 52, none, .call 71 [.t 5, .c (.pv (.int .i64 0)), .t 51]⟩ (.op ⟨some 8, none, .mv (.t 52)⟩ .nil)))) (.seq (.reg 0 (.op ⟨some 53, none, .mv (.t 7)⟩ (.op ⟨some 54, none, .mv (.t 4)⟩ (.op ⟨some 55, none, .call 71 [.t 5, .t 53, .t 54]⟩ (.op ⟨some 9, none, .mv (.t 55)⟩ .nil))))) (.reg 2 (.op ⟨some 56, none, .fld 1 1 false (.t 5)⟩ (.op ⟨some 57, none, .load 1 false (.t 56)⟩ (.op ⟨some 58, none, .fld 0 1 false (.t 5)⟩ (.op ⟨some 59, none, .load 1 false (.t 58)⟩ (.op ⟨some 60, none, .mv (.t 7)⟩ (.op ⟨some 61, none, .idx 1 (.t 59) (.t 60)⟩ (.op ⟨some 62, none, .load 1 false (.t 61)⟩ (.op ⟨some 63, none, .idx 2 (.t 62) (.c (.pv (.int .i64 0)))⟩ (.op ⟨some 64, none, .fld 0 1 false (.t 63)⟩ (.op ⟨some 65, none, .load 1 false (.t 64)⟩ (.op ⟨some 66, none, .lit 3 1 1 [.pv (.int .i64 0)] [(0, .t 65)]⟩ (.op ⟨some 67, none, .mv (.t 8)⟩ (.op ⟨some 68, none, .mv (.t 9)⟩ (.op ⟨some 69, none, .lit 3 1 2 [.pv (.int .i64 0)] [(0, .t 67), (1, .t 68)]⟩ (.op ⟨some 70, none, .build [.nils, .nils, .nils] [(0, (1, .t 66)), (1, (1, .t 69))]⟩ (.op ⟨some 71, none, .idx 3 (.t 57) (.c (.pv (.int .i64 0)))⟩ (.last ⟨none, none, .store 3 (.t 71) (.t 70)⟩))))))))))))))))))))))))))) (.seq (.reg 0 (.op ⟨some 81, none, .fld 1 1 false (.t 5)⟩ (.op ⟨some 82, none, .load 1 false (.t 81)⟩ (.op ⟨some 83, none, .build [.pv (.int .i64 0), .nils] [(0, (1, .c (.pv (.int .i64 0)))), (1, (1, .t 82))]⟩ (.op ⟨none, none, .store 2 (.t 2) (.t 83)⟩ (.op ⟨some 3, none, .mv (.c (.pv (.bool true)))⟩ .nil)))))) .ret)))))), [.c 2 2, .t 3])) := by kernel_rfl
theorem c_impl_LoadTree (xs : List (Int × Int)) (hl : xs.length ≤ 1000000) : PCon prog 30 [prs xs] (fun p => p = .tup [ptP (if goodR xs then loadT xs else ⟨0, []⟩), .bool (goodR xs)]) := by
  refine con_of_VS sl_impl_LoadTree (by simp) ?_
  refine VS_seq ?_
  refine VS_r0 rfl ?_
  refine q_alloc trivial ?_
  refine q_mv rfl ?_
  refine rg_nil ?_
  refine VS_seq ?_
  refine VS_seq ?_
  refine VS_r0 rfl ?_
  refine q_mv rfl ?_
  refine q_callp (c_impl_ValidRow xs (by omega)) rfl trivial ?_
  refine q_not rfl ?_
  refine rg_nil ?_
  refine VS_cond rfl (fun c0 => ?_) (fun c0 => ?_)
  · try simp at c0
    have hgf : goodR xs = false := by simpa using c0
    refine VS_seq ?_
    refine VS_r0 rfl ?_
    refine q_build rfl ?_
    first | refine q_store rfl rfl rfl rfl rfl rfl ⟨rfl, rfl, by simp, rfl, by simp [isOne]⟩ rfl trivial ?_ | refine q_storeF rfl rfl rfl rfl rfl (by first | (simp; done) | (simp [setAt]; done)) trivial ?_ | refine q_store rfl rfl rfl rfl rfl rfl ⟨rfl, rfl, by simp, by simp [setAt, isCell_own, isCell_sl, isCell_int, isCell_nils], by simp [isOne]⟩ rfl trivial ?_
    refine q_mv rfl ?_
    refine rg_nil ?_
    refine VS_ret ?_
    refine Bd.now ⟨_, rfl, ?_⟩
    rw [hgf]; rfl
  · try simp at c0
    have hg : goodR xs = true := by simpa using c0
    have hx := (goodR_iff.1 hg).2.1
    have hn := nlv_le hx
    refine VS_skip ?_
    refine VS_seq ?_
    refine VS_r0 rfl ?_
    refine q_mv rfl ?_
    first | refine q_len_m rfl ?_ | refine q_len_s rfl ?_ | refine q_len_o rfl ?_ | refine q_len_n rfl ?_ | refine q_len_x rfl ?_
    refine q_callp (c_impl_loadedLeaves _ (by omega)) rfl trivial ?_
    refine q_mv rfl ?_
    refine rg_nil ?_
    refine VS_seq ?_
    refine VS_r0 rfl ?_
    refine q_build rfl ?_
    refine q_alloc trivial ?_
    first | refine q_store rfl rfl rfl rfl rfl rfl ⟨rfl, rfl, by simp, rfl, by simp [isOne]⟩ rfl trivial ?_ | refine q_storeF rfl rfl rfl rfl rfl (by first | (simp; done) | (simp [setAt]; done)) trivial ?_ | refine q_store rfl rfl rfl rfl rfl rfl ⟨rfl, rfl, by simp, by simp [setAt, isCell_own, isCell_sl, isCell_int, isCell_nils], by simp [isOne]⟩ rfl trivial ?_
    refine rg_nil ?_
    refine VS_seq ?_
    refine VS_seq ?_
    refine VS_r0 rfl ?_
    refine q_mv rfl ?_
    refine q_mv rfl ?_
    refine rg_nil ?_
    refine VS_block ?_
    refine VS_bd (Bd.pad ?_)
    refine VS_bd (Bd.keepL [(0, .pv (prs xs)), (2, .ptr 0 0 0), (4, .pv (i64 (nlv xs.length))), (5, .ptr 1 0 0), (18, .pv (i64 (nlv xs.length))), (19, .pv (i64 0))] ⟨rfl, rfl, rfl, rfl, rfl, rfl, trivial⟩ ?_)
    refine VS_loop (fun mz E S => ∃ i : Nat, ∃ qs : List (List (Int × Int)), mz = nlv xs.length - i ∧ (i ≤ nlv xs.length) ∧ (qs = (prtL xs).take i) ∧ (qs.length = i) ∧ E = env [(0, .pv (prs xs)), (2, .ptr 0 0 0), (4, .pv (i64 (nlv xs.length))), (5, .ptr 1 0 0), (18, .pv (i64 (nlv xs.length))), (19, .pv (i64 i))] ∧ S = [some ⟨53, 2, [.agg [.pv (i64 0), .nils]]⟩, some ⟨89, 2, [.agg [ownD 2 (dR qs), .nils]]⟩, obD 23 1 (dR qs)]) ⟨_, 0, [], rfl, (by first | omega | (intros; omega) | simp), rfl, rfl, rfl, rfl⟩ ?_
    rintro mz _ _ ⟨i, qs, hmeas, g0, g1, g2, rfl, rfl⟩
    refine VS_seq ?_
    refine VS_r0 rfl ?_
    refine q_lss rfl rfl ?_
    refine rg_nil ?_
    refine VS_seq ?_
    refine VS_cond rfl (fun c1 => ?_) (fun c1 => ?_)
    · try simp at c1
      have hc1 := cut_le (m := xs.length) (n := nlv xs.length) (i := i + 1) (by omega) (by omega)
      have hc2 := cut_mono (m := xs.length) (n := nlv xs.length) (i := i)
      have hb1 := mul_le24 (i := i + 1) hx (by omega)
      have hb2 := mul_le24 (i := i) hx (by omega)
      refine VS_skip ?_
      refine VS_seq ?_
      refine VS_block ?_
      refine VS_seq ?_
      refine VS_r0 rfl ?_
      refine q_mv rfl ?_
      refine q_mv rfl ?_
      refine rg_nil ?_
      refine VS_r2 [none, some ⟨89, 2, [.agg [ownD 2 (dR qs), .nils]]⟩] hmix (SubL.sub (by repeat (first | exact SubL.nil | apply SubL.none | apply SubL.some | apply SubL.sh | apply SubL.eq))) ?_
      first | refine q_fld_r rfl ?_ | refine q_fld_c rfl rfl ?_
      first | refine q_load_c rfl rfl rfl ?_ | refine q_load_r rfl rfl rfl rfl rfl rfl rfl ?_ | refine q_load_o rfl rfl rfl rfl rfl ?_
      refine q_mv rfl ?_
      refine q_mv rfl ?_
      refine q_mv rfl ?_
      first | refine q_len_m rfl ?_ | refine q_len_s rfl ?_ | refine q_len_o rfl ?_ | refine q_len_n rfl ?_ | refine q_len_x rfl ?_
      refine q_mul_to ((xs.length * i : Nat) : Int) rfl rfl (by rw [Nat.mul_comm]; simp) (inR64 (by omega)) ?_
      refine q_mv rfl ?_
      refine q_quo_to ((cutAt xs.length (nlv xs.length) i : Nat) : Int) rfl rfl ⟨by omega, by omega⟩ (by simp [cutAt]) (inR64 (by omega)) ?_
      refine q_mv rfl ?_
      refine q_add rfl rfl (inR64 (by omega)) ?_
      refine q_mv rfl ?_
      first | refine q_len_m rfl ?_ | refine q_len_s rfl ?_ | refine q_len_o rfl ?_ | refine q_len_n rfl ?_ | refine q_len_x rfl ?_
      refine q_mul_to ((xs.length * (i + 1) : Nat) : Int) rfl rfl (by rw [Nat.mul_comm]; simp) (inR64 (by omega)) ?_
      refine q_mv rfl ?_
      refine q_quo_to ((cutAt xs.length (nlv xs.length) (i + 1) : Nat) : Int) rfl rfl ⟨by omega, by omega⟩ (by simp [cutAt]) (inR64 (by omega)) ?_
      refine q_slc_m (xs := xs) (f := pairP) (cutAt xs.length (nlv xs.length) i) (cutAt xs.length (nlv xs.length) (i + 1)) rfl rfl rfl ⟨rfl, rfl, by omega, by omega⟩ (fun _ => rfl) ?_
      refine q_lit (xs := [prs (cutP xs (nlv xs.length) i)]) rfl rfl rfl rfl ?_
      refine q_app_dm (xs := qs) (ys := [cutP xs (nlv xs.length) i]) (f := fun x => .pv (prs x)) rfl rfl rfl rfl ⟨by simp; omega, by simp; omega⟩ (by first | exact trivial | exact Sub.nil | exact Sub.refl _ | exact Sub.app _ _ | exact SubL.sub (by repeat (first | exact SubL.nil | apply SubL.none | apply SubL.some | apply SubL.sh | apply SubL.eq)) | (refine Sub.of_eq ?_; intro o ob h; rcases o with _ | _ | _ | _ | _ | o <;> simp_all)) ?_
      first | refine q_fld_r rfl ?_ | refine q_fld_c rfl rfl ?_
      refine q_last ?_
      first | refine q_store rfl rfl rfl rfl rfl rfl ⟨rfl, rfl, by simp, rfl, by simp [isOne]⟩ rfl (by first | exact trivial | exact Sub.nil | exact Sub.refl _ | exact Sub.app _ _ | exact SubL.sub (by repeat (first | exact SubL.nil | apply SubL.none | apply SubL.some | apply SubL.sh | apply SubL.eq)) | (refine Sub.of_eq ?_; intro o ob h; rcases o with _ | _ | _ | _ | _ | o <;> simp_all)) ?_ | refine q_storeF rfl rfl rfl rfl rfl (by first | (simp; done) | (simp [setAt]; done)) (by first | exact trivial | exact Sub.nil | exact Sub.refl _ | exact Sub.app _ _ | exact SubL.sub (by repeat (first | exact SubL.nil | apply SubL.none | apply SubL.some | apply SubL.sh | apply SubL.eq)) | (refine Sub.of_eq ?_; intro o ob h; rcases o with _ | _ | _ | _ | _ | o <;> simp_all)) ?_ | refine q_store rfl rfl rfl rfl rfl rfl ⟨rfl, rfl, by simp, by simp [setAt, isCell_own, isCell_sl, isCell_int, isCell_nils], by simp [isOne]⟩ rfl (by first | exact trivial | exact Sub.nil | exact Sub.refl _ | exact Sub.app _ _ | exact SubL.sub (by repeat (first | exact SubL.nil | apply SubL.none | apply SubL.some | apply SubL.sh | apply SubL.eq)) | (refine Sub.of_eq ?_; intro o ob h; rcases o with _ | _ | _ | _ | _ | o <;> simp_all)) ?_
      refine rg_nil ?_
      refine VS_r0 rfl ?_
      refine q_add rfl rfl (inR64 (by omega)) ?_
      refine q_mv rfl ?_
      refine rg_nil ?_
      refine Bd.renL [0, 1, 3] (fun i hi => by first | (exact absurd hi (Nat.not_lt_zero i)) | (have e : i = 0 := (by simp at hi; omega); subst e; rfl) | (have e : i = 0 ∨ i = 1 := (by simp at hi; omega); rcases e with rfl | rfl <;> rfl)) (by simp) [(0, .pv (prs xs)), (2, .ptr 0 0 0), (4, .pv (i64 (nlv xs.length))), (5, .ptr 1 0 0), (18, .pv (i64 (nlv xs.length))), (19, .pv (i64 (i + 1)))] ⟨rfl, rfl, rfl, rfl, rfl, rfl, trivial⟩ (l3 rfl (congrArg (fun z => some (⟨89, 2, [.agg [z, .nils]]⟩ : Ob)) (mp1_own rfl)) (obD_mR _)) ⟨_, ?_, i + 1, qs ++ [cutP xs (nlv xs.length) i], rfl, ?_, ?_, ?_, rfl, rfl⟩
      · first | omega | assumption | rfl | (simp; omega)
      · first | omega | assumption | rfl | (simp; omega)
      · rw [g1, prtL_step (by omega)]
      · simp; omega
    · try simp at c1
      refine VS_exit ?_
      refine VS_seq ?_
      refine VS_block ?_
      refine VS_seq ?_
      have hq : qs = prtL xs := by rw [g1, show i = nlv xs.length by omega, ← prtL_len, List.take_length]
      refine VS_bd (Bd.frzF 2 1 0 0 23 1 (xs := dR qs) (by decide) rfl (toPVs_dR _) rfl rfl rfl ?_)
      refine VS_st [some ⟨53, 2, [.agg [.pv (i64 0), .nils]]⟩, some ⟨89, 2, [.agg [.pv (prtsP (prtL xs)), .nils]]⟩, none] (l3 rfl (congrArg (fun z => some (⟨89, 2, [.agg [.pv (prtsP z), .nils]]⟩ : Ob)) hq) rfl) ?_
      refine VS_r0 rfl ?_
      refine q_mv rfl ?_
      refine q_eql rfl rfl ?_
      refine q_mv rfl ?_
      refine rg_nil ?_
      refine VS_cond rfl (fun c2 => ?_) (fun c2 => ?_)
      · try simp at c2
        have hn1 : nlv xs.length = 1 := by omega
        refine VS_r0 rfl ?_
        refine q_ld0 rfl (show LdS prog 70 89 65 [i64 0, i64 1] (prtL xs) [] (ints (natI 0 (1 - 0))) (([] : List Pg) ++ (midR (prtL xs) 0 1).map leafG) from c_impl_loader_leaves (prtL xs) [] 0 1 ⟨by omega, by rw [prtL_len]; omega⟩ (by rw [prtL_len]; omega) (by simp) (prtL_small hx)) rfl rfl rfl trivial ?_
        refine rg_nil ?_
        have hz : ([] : List Pg) ++ (midR (prtL xs) 0 1).map leafG = loadP xs := load1 hn1
        refine VS_bd (Bd.frzF 3 1 0 1 65 3 (xs := dG (([] : List Pg) ++ (midR (prtL xs) 0 1).map leafG)) (by decide) rfl (toPVs_dG _) rfl rfl rfl ?_)
        refine VS_st [some ⟨53, 2, [.agg [.pv (i64 0), .nils]]⟩, some ⟨89, 2, [.agg [.pv (prtsP (prtL xs)), .pv (pgsP (loadP xs))]]⟩, none, none] (l4 rfl (congrArg (fun z => some (⟨89, 2, [.agg [.pv (prtsP (prtL xs)), .pv (pgsP z)]]⟩ : Ob)) hz) rfl rfl) ?_
        refine VS_seq ?_
        refine VS_r0 rfl ?_
        first | refine q_fld_r rfl ?_ | refine q_fld_c rfl rfl ?_
        first | refine q_load_c rfl rfl rfl ?_ | refine q_load_r rfl rfl rfl rfl rfl rfl rfl ?_ | refine q_load_o rfl rfl rfl rfl rfl ?_
        refine q_build rfl ?_
        first | refine q_store rfl rfl rfl rfl rfl rfl ⟨rfl, rfl, by simp, rfl, by simp [isOne]⟩ rfl trivial ?_ | refine q_storeF rfl rfl rfl rfl rfl (by first | (simp; done) | (simp [setAt]; done)) trivial ?_ | refine q_store rfl rfl rfl rfl rfl rfl ⟨rfl, rfl, by simp, by simp [setAt, isCell_own, isCell_sl, isCell_int, isCell_nils], by simp [isOne]⟩ rfl trivial ?_
        refine q_mv rfl ?_
        refine rg_nil ?_
        refine VS_ret ?_
        refine Bd.now ⟨_, rfl, ?_⟩
        rw [hg]; rfl
      · try simp at c2
        have hn1 : nlv xs.length ≠ 1 := by omega
        refine VS_seq ?_
        refine VS_r0 rfl ?_
        refine q_mv rfl ?_
        refine q_leq rfl rfl ?_
        refine q_mv rfl ?_
        refine rg_nil ?_
        refine VS_cond rfl (fun c3 => ?_) (fun c3 => ?_)
        · try simp at c3
          refine VS_r0 rfl ?_
          refine q_mv rfl ?_
          refine q_ld0 rfl (show LdS prog 71 89 65 [i64 0, i64 (nlv xs.length)] (prtL xs) [] (i64 0) (([] : List Pg) ++ [(⟨(midR (prtL xs) (0 + 1) (nlv xs.length)).map fun x => (nth x 0).1, natI (0 + 1) (nlv xs.length - 0), []⟩ : Pg)] ++ (midR (prtL xs) 0 (nlv xs.length)).map leafG) from c_impl_loader_inner (prtL xs) [] 0 (nlv xs.length) ⟨by omega, by rw [prtL_len]; omega⟩ (by rw [prtL_len]; omega) (by simp) (prtL_ne hx hn1)) rfl rfl rfl trivial ?_
          refine rg_nil ?_
          have hz : ([] : List Pg) ++ [(⟨(midR (prtL xs) (0 + 1) (nlv xs.length)).map fun x => (nth x 0).1, natI (0 + 1) (nlv xs.length - 0), []⟩ : Pg)] ++ (midR (prtL xs) 0 (nlv xs.length)).map leafG = loadP xs := load2 hn1 (by omega)
          refine VS_bd (Bd.frzF 3 1 0 1 65 3 (xs := dG (([] : List Pg) ++ [(⟨(midR (prtL xs) (0 + 1) (nlv xs.length)).map fun x => (nth x 0).1, natI (0 + 1) (nlv xs.length - 0), []⟩ : Pg)] ++ (midR (prtL xs) 0 (nlv xs.length)).map leafG)) (by decide) rfl (toPVs_dG _) rfl rfl rfl ?_)
          refine VS_st [some ⟨53, 2, [.agg [.pv (i64 0), .nils]]⟩, some ⟨89, 2, [.agg [.pv (prtsP (prtL xs)), .pv (pgsP (loadP xs))]]⟩, none, none] (l4 rfl (congrArg (fun z => some (⟨89, 2, [.agg [.pv (prtsP (prtL xs)), .pv (pgsP z)]]⟩ : Ob)) hz) rfl rfl) ?_
          refine VS_seq ?_
          refine VS_r0 rfl ?_
          first | refine q_fld_r rfl ?_ | refine q_fld_c rfl rfl ?_
          first | refine q_load_c rfl rfl rfl ?_ | refine q_load_r rfl rfl rfl rfl rfl rfl rfl ?_ | refine q_load_o rfl rfl rfl rfl rfl ?_
          refine q_build rfl ?_
          first | refine q_store rfl rfl rfl rfl rfl rfl ⟨rfl, rfl, by simp, rfl, by simp [isOne]⟩ rfl trivial ?_ | refine q_storeF rfl rfl rfl rfl rfl (by first | (simp; done) | (simp [setAt]; done)) trivial ?_ | refine q_store rfl rfl rfl rfl rfl rfl ⟨rfl, rfl, by simp, by simp [setAt, isCell_own, isCell_sl, isCell_int, isCell_nils], by simp [isOne]⟩ rfl trivial ?_
          refine q_mv rfl ?_
          refine rg_nil ?_
          refine VS_ret ?_
          refine Bd.now ⟨_, rfl, ?_⟩
          rw [hg]; rfl
        · try simp at c3
          have h6 : nlv xs.length = 6 := by omega
          have h3l := lp3_len h6
          refine VS_seq ?_
          refine VS_r0 rfl ?_
          refine q_mv rfl ?_
          refine q_quo_to 3 rfl rfl ⟨by omega, by omega⟩ (by omega) (inR64 (by omega)) ?_
          refine q_mv rfl ?_
          refine rg_nil ?_
          refine VS_seq ?_
          refine VS_r0 rfl ?_
          first | refine q_fld_r rfl ?_ | refine q_fld_c rfl rfl ?_
          first | refine q_load_c rfl rfl rfl ?_ | refine q_load_r rfl rfl rfl rfl rfl rfl rfl ?_ | refine q_load_o rfl rfl rfl rfl rfl ?_
          refine q_build rfl ?_
          refine q_lit (xs := [pgP ⟨[], [], []⟩]) rfl rfl rfl rfl ?_
          refine q_app_z (ys := dG [(⟨[], [], []⟩ : Pg)]) rfl rfl rfl ⟨by simp, by simp [maxLen]⟩ ⟨trivial, ?_⟩
          first | refine q_fld_r rfl ?_ | refine q_fld_c rfl rfl ?_
          first | refine q_store rfl rfl rfl rfl rfl rfl ⟨rfl, rfl, by simp, rfl, by simp [isOne]⟩ rfl trivial ?_ | refine q_storeF rfl rfl rfl rfl rfl (by first | (simp; done) | (simp [setAt]; done)) trivial ?_ | refine q_store rfl rfl rfl rfl rfl rfl ⟨rfl, rfl, by simp, by simp [setAt, isCell_own, isCell_sl, isCell_int, isCell_nils], by simp [isOne]⟩ rfl trivial ?_
          refine rg_nil ?_
          refine VS_seq ?_
          refine VS_r0 rfl ?_
          refine q_mv rfl ?_
          refine q_ld (o1 := 1) (o2 := 3) rfl (show LdS prog 71 89 65 [i64 0, i64 3] (prtL xs) [(⟨[], [], []⟩ : Pg)] (i64 1) (lp3 xs) from c_impl_loader_inner (prtL xs) [(⟨[], [], []⟩ : Pg)] 0 3 ⟨by omega, by rw [prtL_len]; omega⟩ (by rw [prtL_len]; omega) (by simp) (prtL_ne hx hn1)) rfl rfl (by decide) rfl rfl (by simp) trivial ?_
          refine q_mv rfl ?_
          refine rg_nil ?_
          refine VS_seq ?_
          refine VS_r0 rfl ?_
          refine q_mv rfl ?_
          refine q_mv rfl ?_
          refine q_ld (o1 := 1) (o2 := 4) rfl (show LdS prog 71 89 65 [i64 3, i64 ((nlv xs.length : Nat) : Int)] (prtL xs) (lp3 xs) (i64 5) (lp6 xs) from by rw [h6]; have h := c_impl_loader_inner (prtL xs) (lp3 xs) 3 6 ⟨by omega, by rw [prtL_len]; omega⟩ (by rw [prtL_len]; omega) (by omega) (prtL_ne hx hn1); rw [h3l] at h; exact h) rfl rfl (by decide) rfl rfl (fun e => by rw [e] at h3l; simp at h3l) trivial ?_
          refine q_mv rfl ?_
          refine rg_nil ?_
          refine VS_r2 [none, ldC 89 5 (prtL xs) (lp6 xs), none, none, none, obD 65 3 (dG (lp6 xs))] hmix (SubL.sub (by repeat (first | exact SubL.nil | apply SubL.none | apply SubL.some | apply SubL.sh | apply SubL.eq))) ?_
          first | refine q_fld_r rfl ?_ | refine q_fld_c rfl rfl ?_
          first | refine q_load_c rfl rfl rfl ?_ | refine q_load_r rfl rfl rfl rfl rfl rfl rfl ?_ | refine q_load_o rfl rfl rfl rfl rfl ?_
          first | refine q_fld_r rfl ?_ | refine q_fld_c rfl rfl ?_
          first | refine q_load_c rfl rfl rfl ?_ | refine q_load_r rfl rfl rfl rfl rfl rfl rfl ?_ | refine q_load_o rfl rfl rfl rfl rfl ?_
          refine q_mv rfl ?_
          refine q_idx_m (f := prs) (xs := prtL xs) (n := 3) rfl rfl (by omega) (by rw [prtL_len]; omega) (fun _ => rfl) ?_
          first | refine q_load_c rfl rfl rfl ?_ | refine q_load_r rfl rfl rfl rfl rfl rfl rfl ?_ | refine q_load_o rfl rfl rfl rfl rfl ?_
          refine q_idx_m (f := pairP) (xs := nth (prtL xs) 3) (n := 0) rfl rfl (by omega) (by have := (prtL_ne hx hn1 _ (nth_mem (xs := prtL xs) (i := 3) (by rw [prtL_len]; omega))).1; omega) (fun _ => rfl) ?_
          first | refine q_fld_r rfl ?_ | refine q_fld_c rfl rfl ?_
          first | refine q_load_c rfl rfl rfl ?_ | refine q_load_r rfl rfl rfl rfl rfl rfl rfl ?_ | refine q_load_o rfl rfl rfl rfl rfl ?_
          refine q_lit (xs := [i64 (nth (nth (prtL xs) 3) 0).1]) rfl rfl rfl rfl ?_
          refine q_mv rfl ?_
          refine q_mv rfl ?_
          refine q_lit (xs := [i64 1, i64 5]) rfl rfl rfl rfl ?_
          refine q_build rfl ?_
          refine q_idx_dm (f := fun p => .pv (pgP p)) (ty := 65) (xs := lp6 xs) (n := 0) rfl rfl (by omega) (by simp [lp6]; omega) rfl ?_
          refine q_last ?_
          first | refine q_store rfl rfl rfl rfl rfl rfl ⟨rfl, rfl, by simp, rfl, by simp [isOne]⟩ rfl (by first | exact trivial | exact Sub.nil | exact Sub.refl _ | exact Sub.app _ _ | exact SubL.sub (by repeat (first | exact SubL.nil | apply SubL.none | apply SubL.some | apply SubL.sh | apply SubL.eq)) | (refine Sub.of_eq ?_; intro o ob h; rcases o with _ | _ | _ | _ | _ | o <;> simp_all)) ?_ | refine q_storeF rfl rfl rfl rfl rfl (by first | (simp; done) | (simp [setAt]; done)) (by first | exact trivial | exact Sub.nil | exact Sub.refl _ | exact Sub.app _ _ | exact SubL.sub (by repeat (first | exact SubL.nil | apply SubL.none | apply SubL.some | apply SubL.sh | apply SubL.eq)) | (refine Sub.of_eq ?_; intro o ob h; rcases o with _ | _ | _ | _ | _ | o <;> simp_all)) ?_ | refine q_store rfl rfl rfl rfl rfl rfl ⟨rfl, rfl, by simp, by simp [setAt, isCell_own, isCell_sl, isCell_int, isCell_nils], by simp [isOne]⟩ rfl (by first | exact trivial | exact Sub.nil | exact Sub.refl _ | exact Sub.app _ _ | exact SubL.sub (by repeat (first | exact SubL.nil | apply SubL.none | apply SubL.some | apply SubL.sh | apply SubL.eq)) | (refine Sub.of_eq ?_; intro o ob h; rcases o with _ | _ | _ | _ | _ | o <;> simp_all)) ?_
          refine rg_nil ?_
          refine VS_bd (Bd.packZ 5 0 (qs := lp6 xs) (g := ⟨[(nth (nth (prtL xs) 3) 0).1], [1, 5], []⟩) (by simp [lp6]; omega) rfl rfl (Bd.now ?_))
          refine VS_st [some ⟨53, 2, [.agg [.pv (i64 0), .nils]]⟩, ldC 89 5 (prtL xs) ((lp6 xs).set 0 ⟨[(nth (nth (prtL xs) 3) 0).1], [1, 5], []⟩), none, none, none, obD 65 3 (dG ((lp6 xs).set 0 ⟨[(nth (nth (prtL xs) 3) 0).1], [1, 5], []⟩))] (l6 rfl (ldC_len (by simp)) rfl rfl rfl rfl) ?_
          have hz : (lp6 xs).set 0 ⟨[(nth (nth (prtL xs) 3) 0).1], [1, 5], []⟩ = loadP xs := load3 h6
          refine VS_bd (Bd.frzF 5 1 0 1 65 3 (xs := dG ((lp6 xs).set 0 ⟨[(nth (nth (prtL xs) 3) 0).1], [1, 5], []⟩)) (by decide) rfl (toPVs_dG _) rfl rfl rfl ?_)
          refine VS_st [some ⟨53, 2, [.agg [.pv (i64 0), .nils]]⟩, some ⟨89, 2, [.agg [.pv (prtsP (prtL xs)), .pv (pgsP (loadP xs))]]⟩, none, none, none, none] (l6 rfl (congrArg (fun z => some (⟨89, 2, [.agg [.pv (prtsP (prtL xs)), .pv (pgsP z)]]⟩ : Ob)) hz) rfl rfl rfl rfl) ?_
          refine VS_seq ?_
          refine VS_r0 rfl ?_
          first | refine q_fld_r rfl ?_ | refine q_fld_c rfl rfl ?_
          first | refine q_load_c rfl rfl rfl ?_ | refine q_load_r rfl rfl rfl rfl rfl rfl rfl ?_ | refine q_load_o rfl rfl rfl rfl rfl ?_
          refine q_build rfl ?_
          first | refine q_store rfl rfl rfl rfl rfl rfl ⟨rfl, rfl, by simp, rfl, by simp [isOne]⟩ rfl trivial ?_ | refine q_storeF rfl rfl rfl rfl rfl (by first | (simp; done) | (simp [setAt]; done)) trivial ?_ | refine q_store rfl rfl rfl rfl rfl rfl ⟨rfl, rfl, by simp, by simp [setAt, isCell_own, isCell_sl, isCell_int, isCell_nils], by simp [isOne]⟩ rfl trivial ?_
          refine q_mv rfl ?_
          refine rg_nil ?_
          refine VS_ret ?_
          refine Bd.now ⟨_, rfl, ?_⟩
          rw [hg]; rfl
end Go.V
