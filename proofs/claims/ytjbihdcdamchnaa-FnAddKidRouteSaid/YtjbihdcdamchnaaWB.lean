/- A part of the proofs about laws of the page tree (see the text that bears the law): a small language of steps, its rules, and what the functions of the program return. -/
import Derived.Test.YtjbihdcdamchnaaWA
import Derived.Test.YtjbihdcdamchnaaLD
set_option linter.all false
set_option linter.unusedVariables false
set_option linter.unusedSimpArgs false
set_option maxHeartbeats 4000000
namespace Go.V
open Go.Proofs.Try (prog)
end Go.V

set_option maxHeartbeats 4000000
namespace Go.V
open Go.Proofs.Try (prog)
theorem c_laws_equalInner (a b c d : List Int) (ha : a.length ≤ 1000000) (hb : b.length ≤ 1000000) (hc : c.length ≤ 1000000) (hd : d.length ≤ 1000000) : PCon prog 18 [innP a b, innP c d] (fun p => p = .bool (decide ((a, b) = (c, d)))) := by
  refine con_of_VS sl_laws_equalInner (by simp) ?_
  refine VS_seq ?_
  refine VS_r0 rfl ?_
  refine q_box rfl rfl rfl trivial ?_
  refine q_box rfl rfl rfl trivial ?_
  refine q_mv rfl ?_
  refine rg_nil ?_
  refine VS_seq ?_
  refine VS_r0 rfl ?_
  first | refine q_fld_r rfl ?_ | refine q_fld_c rfl rfl ?_
  first | refine q_load_c rfl rfl rfl ?_ | refine q_load_r rfl rfl rfl rfl rfl rfl rfl ?_ | refine q_load_o rfl rfl rfl rfl rfl ?_
  first | refine q_fld_r rfl ?_ | refine q_fld_c rfl rfl ?_
  first | refine q_load_c rfl rfl rfl ?_ | refine q_load_r rfl rfl rfl rfl rfl rfl rfl ?_ | refine q_load_o rfl rfl rfl rfl rfl ?_
  refine q_callp (c_laws_equalInts _ _ (by omega) (by omega)) rfl trivial ?_
  refine q_mv rfl ?_
  refine q_b rfl (fun g10 => ?_) (fun g10 => ?_)
  · try simp at g10
    refine q_t rfl ?_
    first | refine q_fld_r rfl ?_ | refine q_fld_c rfl rfl ?_
    refine q_t rfl ?_
    first | refine q_load_c rfl rfl rfl ?_ | refine q_load_r rfl rfl rfl rfl rfl rfl rfl ?_ | refine q_load_o rfl rfl rfl rfl rfl ?_
    refine q_t rfl ?_
    first | refine q_fld_r rfl ?_ | refine q_fld_c rfl rfl ?_
    refine q_t rfl ?_
    first | refine q_load_c rfl rfl rfl ?_ | refine q_load_r rfl rfl rfl rfl rfl rfl rfl ?_ | refine q_load_o rfl rfl rfl rfl rfl ?_
    refine q_t rfl ?_
    refine q_callp (c_laws_equalInts _ _ (by omega) (by omega)) rfl trivial ?_
    refine q_pick_t rfl rfl ?_
    refine q_mv rfl ?_
    refine rg_nil ?_
    refine VS_ret ?_
    refine Bd.now ⟨_, rfl, ?_⟩
    simp_all
  · try simp at g10
    refine q_f rfl ?_
    refine q_f rfl ?_
    refine q_f rfl ?_
    refine q_f rfl ?_
    refine q_f rfl ?_
    refine q_pick_f rfl rfl ?_
    refine q_mv rfl ?_
    refine rg_nil ?_
    refine VS_ret ?_
    refine Bd.now ⟨_, rfl, ?_⟩
    simp_all
end Go.V

set_option maxHeartbeats 4000000
namespace Go.V
open Go.Proofs.Try (prog)
theorem c_spec_keysOf (xs : List (Int × Int)) (hl : xs.length ≤ 100000000) : PCon prog 63 [prs xs] (fun p => p = ints (keysR xs)) := by
  refine con_of_VS sl_spec_keysOf (by simp) ?_
  refine VS_seq ?_
  refine VS_r0 rfl ?_
  refine q_mv rfl ?_
  refine rg_nil ?_
  refine VS_seq ?_
  refine VS_r0 rfl ?_
  refine q_lit0 ?_
  refine q_mv rfl ?_
  refine rg_nil ?_
  refine VS_seq ?_
  refine VS_seq ?_
  refine VS_r0 rfl ?_
  refine q_mv rfl ?_
  refine rg_nil ?_
  refine VS_block ?_
  refine VS_bd (Bd.pad ?_)
  refine VS_bd (Bd.keepL [(0, .pv (prs xs)), (3, ownD 0 (dI ([]))), (4, .pv (i64 0))] ⟨rfl, rfl, rfl, trivial⟩ ?_)
  refine VS_loop (fun mz E S => ∃ i : Nat, ∃ ys : List Int, mz = xs.length - i ∧ (i ≤ xs.length) ∧ (ys = keysR (xs.take i)) ∧ (ys.length = i) ∧ E = env [(0, .pv (prs xs)), (3, ownD 0 (dI ys)), (4, .pv (i64 i))] ∧ S = [obD 3 1 (dI ys)]) ⟨_, 0, [], rfl, (by first | omega | (intros; omega) | simp), rfl, rfl, rfl, rfl⟩ ?_
  rintro mz _ _ ⟨i, ys, hmeas, g0, g1, g2, rfl, rfl⟩
  refine VS_seq ?_
  refine VS_seq ?_
  refine VS_r0 rfl ?_
  refine q_mv rfl ?_
  refine q_mv rfl ?_
  first | refine q_len_m rfl ?_ | refine q_len_s rfl ?_ | refine q_len_o rfl ?_ | refine q_len_n rfl ?_ | refine q_len_x rfl ?_
  refine q_lss rfl rfl ?_
  refine rg_nil ?_
  refine VS_cond rfl (fun c0 => ?_) (fun c0 => ?_)
  · try simp at c0
    refine VS_skip ?_
    refine VS_seq ?_
    refine VS_block ?_
    refine VS_r0 rfl ?_
    refine q_mv rfl ?_
    refine q_mv rfl ?_
    refine q_mv rfl ?_
    first | refine q_idx_c _ rfl rfl (by omega) (fun _ => rfl) ?_ | refine q_idx_m rfl rfl (by omega) (by omega) (fun _ => rfl) ?_ | refine q_idx_om rfl rfl (by omega) (by omega) rfl rfl ?_
    first | refine q_fld_r rfl ?_ | refine q_fld_c rfl rfl ?_
    first | refine q_load_c rfl rfl rfl ?_ | refine q_load_r rfl rfl rfl rfl rfl rfl rfl ?_ | refine q_load_o rfl rfl rfl rfl rfl ?_
    refine q_lit rfl rfl rfl rfl ?_
    refine q_app_dm (xs := ys) (ys := [(nth xs i).1]) (f := fun k => .pv (i64 k)) rfl rfl rfl rfl ⟨by simp; omega, by simp; omega⟩ trivial ?_
    refine q_mv rfl ?_
    refine rg_nil ?_
    refine VS_r0 rfl ?_
    refine q_mv rfl ?_
    refine q_add rfl rfl (inR64 (by omega)) ?_
    refine q_mv rfl ?_
    refine rg_nil ?_
    refine Bd.renL [1] (fun i hi => by first | (exact absurd hi (Nat.not_lt_zero i)) | (have e : i = 0 := (by simp at hi; omega); subst e; rfl) | (have e : i = 0 ∨ i = 1 := (by simp at hi; omega); rcases e with rfl | rfl <;> rfl)) (by simp) [(0, .pv (prs xs)), (3, ownD 0 (dI (ys ++ [(nth xs i).1]))), (4, .pv (i64 (i + 1)))] ⟨rfl, inv_own rfl, rfl, trivial⟩ (l1 (obD_mI _)) ⟨_, ?_, i + 1, ys ++ [(nth xs i).1], rfl, ?_, ?_, ?_, rfl, rfl⟩
    · first | omega | assumption | rfl | (simp; omega)
    · first | omega | assumption | rfl | (simp; omega)
    · rw [g1, take_succ_nth (by omega)]; simp
    · simp; omega
  · try simp at c0
    refine VS_exit ?_
    refine VS_seq ?_
    refine VS_r0 rfl ?_
    refine q_mv rfl ?_
    refine q_mv rfl ?_
    refine rg_nil ?_
    refine VS_ret ?_
    have e : i = xs.length := by omega
    subst e
    rw [List.take_length] at g1
    subst g1
    refine Bd.pureB 2 0 3 1 (xs := dI (keysR xs)) rfl rfl (toPVs_dI _) ?_
    exact Bd.now ⟨_, rfl, rfl⟩
theorem c_spec_copyRow (xs : List (Int × Int)) (hl : xs.length ≤ 100000000) : NewS prog 57 43 2 [prs xs] (dP xs) := by
  refine callS_of_VS sl_spec_copyRow (by simp) ?_
  refine VS_seq ?_
  refine VS_r0 rfl ?_
  refine q_mv rfl ?_
  refine rg_nil ?_
  refine VS_seq ?_
  refine VS_r0 rfl ?_
  refine q_lit0 ?_
  refine q_mv rfl ?_
  refine q_app_zm (ys := xs) (f := fun k => .pv (pairP k)) rfl (elems_P xs) (cell_P xs) ⟨by omega, by omega⟩ trivial ?_
  refine q_mv rfl ?_
  refine rg_nil ?_
  refine VS_ret ?_
  exact Bd.now ⟨ownD 0 (dP xs), by cases xs <;> rfl, rfl, rfl⟩
theorem c_spec_validRow (xs : List (Int × Int)) (hl : xs.length ≤ 100000000) : PCon prog 59 [prs xs] (fun p => p = .bool (goodR xs)) := by
  refine con_of_VS sl_spec_validRow (by simp) ?_
  refine VS_seq ?_
  refine VS_r0 rfl ?_
  refine q_mv rfl ?_
  refine rg_nil ?_
  refine VS_seq ?_
  refine VS_seq ?_
  refine VS_r0 rfl ?_
  refine q_mv rfl ?_
  refine rg_nil ?_
  refine VS_block ?_
  refine VS_bd (Bd.keepL [(0, .pv (prs xs)), (2, .pv (.bool false)), (3, .pv (i64 0))] ⟨rfl, rfl, rfl, trivial⟩ ?_)
  refine VS_loop (fun mz E S => ∃ i : Nat, mz = xs.length - i ∧ (i ≤ xs.length) ∧ (∀ j, j < i → (decide (-1000 ≤ (nth xs j).2) && decide ((nth xs j).2 ≤ 1000)) = true) ∧ E = env [(0, .pv (prs xs)), (2, .pv (.bool false)), (3, .pv (i64 i))] ∧ S = []) ⟨_, 0, rfl, (by first | omega | (intros; omega) | simp), (by first | omega | (intros; omega) | simp), rfl, rfl⟩ ?_
  rintro mz _ _ ⟨i, hmeas, g0, g1, rfl, rfl⟩
  refine VS_seq ?_
  refine VS_seq ?_
  refine VS_r0 rfl ?_
  refine q_mv rfl ?_
  refine q_mv rfl ?_
  first | refine q_len_m rfl ?_ | refine q_len_s rfl ?_ | refine q_len_o rfl ?_ | refine q_len_n rfl ?_ | refine q_len_x rfl ?_
  refine q_lss rfl rfl ?_
  refine rg_nil ?_
  refine VS_cond rfl (fun c0 => ?_) (fun c0 => ?_)
  · try simp at c0
    refine VS_skip ?_
    refine VS_seq ?_
    refine VS_block ?_
    refine VS_seq ?_
    refine VS_r0 rfl ?_
    refine q_mv rfl ?_
    refine q_mv rfl ?_
    first | refine q_idx_c _ rfl rfl (by omega) (fun _ => rfl) ?_ | refine q_idx_m rfl rfl (by omega) (by omega) (fun _ => rfl) ?_ | refine q_idx_om rfl rfl (by omega) (by omega) rfl rfl ?_
    first | refine q_fld_r rfl ?_ | refine q_fld_c rfl rfl ?_
    first | refine q_load_c rfl rfl rfl ?_ | refine q_load_r rfl rfl rfl rfl rfl rfl rfl ?_ | refine q_load_o rfl rfl rfl rfl rfl ?_
    refine q_callp (c_spec_inRange _ _ _) rfl trivial ?_
    refine q_not rfl ?_
    refine rg_nil ?_
    refine VS_cond rfl (fun c1 => ?_) (fun c1 => ?_)
    · try simp at c1
      refine VS_seq ?_
      refine VS_r0 rfl ?_
      refine q_mv rfl ?_
      refine rg_nil ?_
      refine VS_ret ?_
      refine Bd.now ⟨_, rfl, congrArg PV.bool ?_⟩
      rw [goodR, okVals_false i (by omega) (by simp; omega)]; rfl
    · try simp at c1
      refine VS_skip ?_
      refine VS_r0 rfl ?_
      refine q_mv rfl ?_
      refine q_add rfl rfl (inR64 (by omega)) ?_
      refine q_mv rfl ?_
      refine rg_nil ?_
      refine Bd.keepL [(0, .pv (prs xs)), (2, .pv (.bool false)), (3, .pv (i64 (i + 1)))] ⟨rfl, rfl, rfl, trivial⟩ ⟨_, ?_, i + 1, rfl, ?_, ?_, rfl, rfl⟩
      · first | omega | assumption | rfl | (simp; omega)
      · first | omega | assumption | rfl | (simp; omega)
      · intro j hj
        by_cases e : j = i
        · subst e; simp_all
        · exact g1 j (by omega)
  · try simp at c0
    refine VS_exit ?_
    refine VS_seq ?_
    refine VS_r0 rfl ?_
    refine q_mv rfl ?_
    first | refine q_len_m rfl ?_ | refine q_len_s rfl ?_ | refine q_len_o rfl ?_ | refine q_len_n rfl ?_ | refine q_len_x rfl ?_
    refine q_leq rfl rfl ?_
    refine q_mv rfl ?_
    refine q_b rfl (fun g20 => ?_) (fun g20 => ?_)
    · try simp at g20
      refine q_t rfl ?_
      refine q_mv rfl ?_
      refine q_t rfl ?_
      refine q_callp (c_spec_keysOf xs hl) rfl trivial ?_
      refine q_t rfl ?_
      refine q_callp (c_spec_validKeys (keysR xs) (by simp; omega)) rfl trivial ?_
      refine q_pick_t rfl rfl ?_
      refine q_mv rfl ?_
      refine rg_nil ?_
      refine VS_ret ?_
      refine Bd.now ⟨_, rfl, congrArg PV.bool ?_⟩
      rw [goodR, okVals_true fun j hj => g1 j (by omega)]
      first | (simp; done) | (simp; intros; omega) | (simp; intros; exfalso; omega) | simp_all
    · try simp at g20
      refine q_f rfl ?_
      refine q_f rfl ?_
      refine q_f rfl ?_
      refine q_pick_f rfl rfl ?_
      refine q_mv rfl ?_
      refine rg_nil ?_
      refine VS_ret ?_
      refine Bd.now ⟨_, rfl, congrArg PV.bool ?_⟩
      rw [goodR, okVals_true fun j hj => g1 j (by omega)]
      first | (simp; done) | (simp; intros; omega) | (simp; intros; exfalso; omega) | simp_all
theorem c_impl_keysOfRow (xs : List (Int × Int)) (hl : xs.length ≤ 100000000) : PCon prog 68 [prs xs] (fun p => p = ints (keysR xs)) := by
  refine con_of_VS sl_impl_keysOfRow (by simp) ?_
  refine VS_seq ?_
  refine VS_r0 rfl ?_
  refine q_mv rfl ?_
  refine rg_nil ?_
  refine VS_seq ?_
  refine VS_r0 rfl ?_
  refine q_mv rfl ?_
  first | refine q_len_m rfl ?_ | refine q_len_s rfl ?_ | refine q_len_o rfl ?_ | refine q_len_n rfl ?_ | refine q_len_x rfl ?_
  refine q_mks rfl ⟨by omega, by omega, by omega⟩ trivial ?_
  refine q_mv rfl ?_
  refine rg_nil ?_
  refine VS_seq ?_
  refine VS_seq ?_
  refine VS_r0 rfl ?_
  refine q_mv rfl ?_
  first | refine q_len_m rfl ?_ | refine q_len_s rfl ?_ | refine q_len_o rfl ?_ | refine q_len_n rfl ?_ | refine q_len_x rfl ?_
  refine q_mv rfl ?_
  refine rg_nil ?_
  refine VS_block ?_
  refine VS_bd (Bd.keepL [(0, .pv (prs xs)), (3, .own 0 xs.length), (9, .pv (prs xs)), (10, .pv (i64 xs.length)), (11, .pv (i64 0))] ⟨rfl, rfl, rfl, rfl, rfl, trivial⟩ ?_)
  refine VS_loop (fun mz E S => ∃ i : Nat, ∃ ys : List Int, mz = xs.length - i ∧ (i ≤ xs.length) ∧ (ys.take i = keysR (xs.take i)) ∧ (ys.length = xs.length) ∧ E = env [(0, .pv (prs xs)), (3, .own 0 xs.length), (9, .pv (prs xs)), (10, .pv (i64 xs.length)), (11, .pv (i64 i))] ∧ S = [some ⟨3, 1, dI ys⟩]) ⟨_, 0, List.replicate xs.length 0, rfl, (by first | omega | (intros; omega) | simp), rfl, (by simp), rfl, (by simp)⟩ ?_
  rintro mz _ _ ⟨i, ys, hmeas, g0, g1, g2, rfl, rfl⟩
  refine VS_seq ?_
  refine VS_r0 rfl ?_
  refine q_lss rfl rfl ?_
  refine rg_nil ?_
  refine VS_seq ?_
  refine VS_cond rfl (fun c0 => ?_) (fun c0 => ?_)
  · try simp at c0
    refine VS_skip ?_
    refine VS_seq ?_
    refine VS_block ?_
    refine VS_seq ?_
    refine VS_r0 rfl ?_
    refine q_mv rfl ?_
    first | refine q_idx_c _ rfl rfl (by omega) (fun _ => rfl) ?_ | refine q_idx_m rfl rfl (by omega) (by omega) (fun _ => rfl) ?_ | refine q_idx_om rfl rfl (by omega) (by omega) rfl rfl ?_
    first | refine q_load_c rfl rfl rfl ?_ | refine q_load_ra rfl rfl rfl rfl rfl (by first | (simp; done) | (simp [setAt]; done)) rfl ?_
    refine q_alloc trivial ?_
    refine q_mv rfl ?_
    first | refine q_store rfl rfl rfl rfl rfl rfl ⟨rfl, rfl, by simp, rfl, by simp [isOne]⟩ rfl trivial ?_ | refine q_storeF rfl rfl rfl rfl rfl (by simp) trivial ?_ | refine q_store rfl rfl rfl rfl rfl rfl ⟨rfl, rfl, by simp, by simp [setAt, isCell_own, isCell_sl, isCell_int, isCell_nils], by simp [isOne]⟩ rfl trivial ?_
    refine rg_nil ?_
    refine VS_r0 rfl ?_
    refine q_mv rfl ?_
    refine q_mv rfl ?_
    first | refine q_fld_r rfl ?_ | refine q_fld_c rfl rfl ?_
    first | refine q_load_c rfl rfl rfl ?_ | refine q_load_r rfl rfl rfl rfl rfl rfl rfl ?_ | refine q_load_o rfl rfl rfl rfl rfl ?_
    refine q_idx_o rfl rfl (by omega) (by omega) rfl rfl ?_
    refine q_store_e (xs := ys) rfl rfl rfl (by omega) trivial ?_
    refine rg_nil ?_
    refine VS_r0 rfl ?_
    refine q_add rfl rfl (inR64 (by omega)) ?_
    refine q_mv rfl ?_
    refine rg_nil ?_
    refine Bd.renL [0] (fun i hi => by first | (exact absurd hi (Nat.not_lt_zero i)) | (have e : i = 0 := (by simp at hi; omega); subst e; rfl) | (have e : i = 0 ∨ i = 1 := (by simp at hi; omega); rcases e with rfl | rfl <;> rfl)) (by simp) [(0, .pv (prs xs)), (3, .own 0 xs.length), (9, .pv (prs xs)), (10, .pv (i64 xs.length)), (11, .pv (i64 (i + 1)))] ⟨rfl, rfl, rfl, rfl, rfl, trivial⟩ (l1 (mpO_I _)) ⟨_, ?_, i + 1, ys.set i (nth xs i).1, rfl, ?_, ?_, ?_, rfl, rfl⟩
    · first | omega | assumption | rfl | (simp; omega)
    · first | omega | assumption | rfl | (simp; omega)
    · exact set_step (by omega) (by omega) g1
    · simp; omega
  · try simp at c0
    refine VS_exit ?_
    refine VS_seq ?_
    refine VS_r0 rfl ?_
    refine q_mv rfl ?_
    refine q_mv rfl ?_
    refine rg_nil ?_
    refine VS_ret ?_
    have e : i = xs.length := by omega
    subst e
    rw [List.take_length, List.take_of_length_le (by omega)] at g1
    subst g1
    refine Bd.pureOB 2 0 rfl rfl (by simp) (toPVs_dI _) ?_
    exact Bd.now ⟨_, rfl, rfl⟩
theorem c_impl_ValidRow (xs : List (Int × Int)) (hl : xs.length ≤ 100000000) : PCon prog 31 [prs xs] (fun p => p = .bool (goodR xs)) := by
  refine con_of_VS sl_impl_ValidRow (by simp) ?_
  refine VS_seq ?_
  refine VS_r0 rfl ?_
  refine q_mv rfl ?_
  refine rg_nil ?_
  refine VS_seq ?_
  refine VS_seq ?_
  refine VS_r0 rfl ?_
  refine q_mv rfl ?_
  first | refine q_len_m rfl ?_ | refine q_len_s rfl ?_ | refine q_len_o rfl ?_ | refine q_len_n rfl ?_ | refine q_len_x rfl ?_
  refine q_gtr rfl rfl ?_
  refine rg_nil ?_
  refine VS_cond rfl (fun c0 => ?_) (fun c0 => ?_)
  · try simp at c0
    refine VS_seq ?_
    refine VS_r0 rfl ?_
    refine q_mv rfl ?_
    refine rg_nil ?_
    refine VS_ret ?_
    refine Bd.now ⟨_, rfl, congrArg PV.bool ?_⟩
    have : ¬ xs.length ≤ 24 := by omega
    simp [goodR, this]
  · try simp at c0
    refine VS_skip ?_
    refine VS_seq ?_
    refine VS_seq ?_
    refine VS_r0 rfl ?_
    refine q_mv rfl ?_
    first | refine q_len_m rfl ?_ | refine q_len_s rfl ?_ | refine q_len_o rfl ?_ | refine q_len_n rfl ?_ | refine q_len_x rfl ?_
    refine q_mv rfl ?_
    refine rg_nil ?_
    refine VS_block ?_
    refine VS_bd (Bd.keepL [(0, .pv (prs xs)), (2, .pv (.bool false)), (8, .pv (prs xs)), (9, .pv (i64 xs.length)), (10, .pv (i64 0))] ⟨rfl, rfl, rfl, rfl, rfl, trivial⟩ ?_)
    refine VS_loop (fun mz E S => ∃ i : Nat, mz = xs.length - i ∧ (i ≤ xs.length) ∧ (∀ j, j < i → (decide (-1000 ≤ (nth xs j).2) && decide ((nth xs j).2 ≤ 1000)) = true) ∧ E = env [(0, .pv (prs xs)), (2, .pv (.bool false)), (8, .pv (prs xs)), (9, .pv (i64 xs.length)), (10, .pv (i64 i))] ∧ S = []) ⟨_, 0, rfl, (by first | omega | (intros; omega) | simp), (by first | omega | (intros; omega) | simp), rfl, rfl⟩ ?_
    rintro mz _ _ ⟨i, hmeas, g0, g1, rfl, rfl⟩
    refine VS_seq ?_
    refine VS_r0 rfl ?_
    refine q_lss rfl rfl ?_
    refine rg_nil ?_
    refine VS_seq ?_
    refine VS_cond rfl (fun c1 => ?_) (fun c1 => ?_)
    · try simp at c1
      refine VS_skip ?_
      refine VS_seq ?_
      refine VS_block ?_
      refine VS_seq ?_
      refine VS_r0 rfl ?_
      first | refine q_idx_c _ rfl rfl (by omega) (fun _ => rfl) ?_ | refine q_idx_m rfl rfl (by omega) (by omega) (fun _ => rfl) ?_ | refine q_idx_om rfl rfl (by omega) (by omega) rfl rfl ?_
      first | refine q_load_c rfl rfl rfl ?_ | refine q_load_ra rfl rfl rfl rfl rfl (by first | (simp; done) | (simp [setAt]; done)) rfl ?_
      refine q_alloc trivial ?_
      first | refine q_store rfl rfl rfl rfl rfl rfl ⟨rfl, rfl, by simp, rfl, by simp [isOne]⟩ rfl trivial ?_ | refine q_storeF rfl rfl rfl rfl rfl (by simp) trivial ?_ | refine q_store rfl rfl rfl rfl rfl rfl ⟨rfl, rfl, by simp, by simp [setAt, isCell_own, isCell_sl, isCell_int, isCell_nils], by simp [isOne]⟩ rfl trivial ?_
      refine rg_nil ?_
      refine VS_seq ?_
      refine VS_r0 rfl ?_
      first | refine q_fld_r rfl ?_ | refine q_fld_c rfl rfl ?_
      first | refine q_load_c rfl rfl rfl ?_ | refine q_load_r rfl rfl rfl rfl rfl rfl rfl ?_ | refine q_load_o rfl rfl rfl rfl rfl ?_
      refine q_callp (c_impl_isValue _) rfl trivial ?_
      refine q_not rfl ?_
      refine rg_nil ?_
      refine VS_cond rfl (fun c2 => ?_) (fun c2 => ?_)
      · try simp at c2
        refine VS_seq ?_
        refine VS_r0 rfl ?_
        refine q_mv rfl ?_
        refine rg_nil ?_
        refine VS_ret ?_
        refine Bd.now ⟨_, rfl, congrArg PV.bool ?_⟩
        rw [goodR, okVals_false i (by omega) (by simp; omega)]; rfl
      · try simp at c2
        refine VS_skip ?_
        refine VS_r0 rfl ?_
        refine q_add rfl rfl (inR64 (by omega)) ?_
        refine q_mv rfl ?_
        refine rg_nil ?_
        refine Bd.renL [] (fun i hi => by first | (exact absurd hi (Nat.not_lt_zero i)) | (have e : i = 0 := (by simp at hi; omega); subst e; rfl) | (have e : i = 0 ∨ i = 1 := (by simp at hi; omega); rcases e with rfl | rfl <;> rfl)) (by simp) [(0, .pv (prs xs)), (2, .pv (.bool false)), (8, .pv (prs xs)), (9, .pv (i64 xs.length)), (10, .pv (i64 (i + 1)))] ⟨rfl, rfl, rfl, rfl, rfl, trivial⟩ rfl ⟨_, ?_, i + 1, rfl, ?_, ?_, rfl, rfl⟩
        · first | omega | assumption | rfl | (simp; omega)
        · first | omega | assumption | rfl | (simp; omega)
        · intro j hj
          by_cases e : j = i
          · subst e; simp_all
          · exact g1 j (by omega)
    · try simp at c1
      refine VS_exit ?_
      refine VS_seq ?_
      refine VS_r0 rfl ?_
      refine q_mv rfl ?_
      refine q_callp (c_impl_keysOfRow xs hl) rfl trivial ?_
      refine q_callp (c_impl_ValidKeys (keysR xs) (by simp; omega)) rfl trivial ?_
      refine q_mv rfl ?_
      refine rg_nil ?_
      refine VS_ret ?_
      refine Bd.now ⟨_, rfl, congrArg PV.bool ?_⟩
      have : xs.length ≤ 24 := by omega
      rw [goodR, okVals_true fun j hj => g1 j (by omega)]; simp [this]
end Go.V

set_option maxHeartbeats 4000000
namespace Go.V
open Go.Proofs.Try (prog)
theorem c_impl_placeInRow (xs : List (Int × Int)) (k : Int) (hl : xs.length ≤ 100000000) (hg : goodKeys (keysR xs) = true) : PCon prog 60 [prs xs, i64 k] (fun p => p = .tup [i64 (atR xs k), .bool (thereR xs k)]) := by
  refine con_of_VS sl_impl_placeInRow (by simp) ?_
  refine VS_seq ?_
  refine VS_r0 rfl ?_
  refine q_mv rfl ?_
  refine q_mv rfl ?_
  refine rg_nil ?_
  refine VS_seq ?_
  refine VS_r0 rfl ?_
  refine q_mv rfl ?_
  refine q_callp (c_impl_keysOfRow xs hl) rfl trivial ?_
  refine q_mv rfl ?_
  refine q_callp ((c_impl_KeysBelow (keysR xs) k (by simp; omega)).to (y := i64 (atR xs k)) (by rw [if_pos hg]; rfl)) rfl trivial ?_
  refine q_mv rfl ?_
  refine rg_nil ?_
  refine VS_seq ?_
  refine VS_r1 hmix rfl ?_
  refine q_mv rfl ?_
  refine q_mv rfl ?_
  refine q_geq_v true rfl rfl (decide_eq_true (by omega)) ?_
  refine q_mv rfl ?_
  refine q_t rfl ?_
  refine q_mv rfl ?_
  refine q_t rfl ?_
  refine q_mv rfl ?_
  refine q_t rfl ?_
  first | refine q_len_m rfl ?_ | refine q_len_s rfl ?_ | refine q_len_o rfl ?_ | refine q_len_n rfl ?_ | refine q_len_x rfl ?_
  refine q_t rfl ?_
  refine q_lss rfl rfl ?_
  refine q_pick_t rfl rfl ?_
  refine q_mv rfl ?_
  refine q_b rfl (fun g20 => ?_) (fun g20 => ?_)
  · try simp at g20
    refine q_t rfl ?_
    refine q_mv rfl ?_
    refine q_t rfl ?_
    refine q_mv rfl ?_
    refine q_t rfl ?_
    first | refine q_idx_c _ rfl rfl (by omega) (fun _ => rfl) ?_ | refine q_idx_m rfl rfl (by omega) (by omega) (fun _ => rfl) ?_ | refine q_idx_om rfl rfl (by omega) (by omega) rfl rfl ?_
    refine q_t rfl ?_
    first | refine q_fld_r rfl ?_ | refine q_fld_c rfl rfl ?_
    refine q_t rfl ?_
    first | refine q_load_c rfl rfl rfl ?_ | refine q_load_r rfl rfl rfl rfl rfl rfl rfl ?_ | refine q_load_o rfl rfl rfl rfl rfl ?_
    refine q_t rfl ?_
    refine q_mv rfl ?_
    refine q_t rfl ?_
    refine q_eql rfl rfl ?_
    refine q_pick_t rfl rfl ?_
    refine q_mv rfl ?_
    refine q_mv rfl ?_
    refine rg_nil ?_
    refine VS_ret ?_
    refine Bd.now ⟨_, rfl, ?_⟩
    first | rw [thereR, decide_eq_true (by omega), Bool.true_and] | rw [thereR, decide_eq_false (by omega), Bool.false_and]
  · try simp at g20
    refine q_f rfl ?_
    refine q_f rfl ?_
    refine q_f rfl ?_
    refine q_f rfl ?_
    refine q_f rfl ?_
    refine q_f rfl ?_
    refine q_f rfl ?_
    refine q_pick_f rfl rfl ?_
    refine q_mv rfl ?_
    refine q_mv rfl ?_
    refine rg_nil ?_
    refine VS_ret ?_
    refine Bd.now ⟨_, rfl, ?_⟩
    first | rw [thereR, decide_eq_true (by omega), Bool.true_and] | rw [thereR, decide_eq_false (by omega), Bool.false_and]
theorem c_impl_ValueIn (xs : List (Int × Int)) (k : Int) (hl : xs.length ≤ 100000000) : PCon prog 25 [prs xs, i64 k] (fun p => p = valR xs k) := by
  refine con_of_VS sl_impl_ValueIn (by simp) ?_
  refine VS_seq ?_
  refine VS_r0 rfl ?_
  refine q_mv rfl ?_
  refine q_mv rfl ?_
  refine rg_nil ?_
  refine VS_seq ?_
  refine VS_seq ?_
  refine VS_r0 rfl ?_
  refine q_mv rfl ?_
  refine q_callp (c_impl_ValidRow xs hl) rfl trivial ?_
  refine q_not rfl ?_
  refine rg_nil ?_
  refine VS_cond rfl (fun c0 => ?_) (fun c0 => ?_)
  · try simp at c0
    refine VS_seq ?_
    refine VS_r0 rfl ?_
    refine q_mv rfl ?_
    refine q_mv rfl ?_
    refine rg_nil ?_
    refine VS_ret ?_
    exact Bd.now ⟨_, rfl, by rw [valR, if_neg (by simp [c0])]⟩
  · try simp at c0
    refine VS_skip ?_
    refine VS_seq ?_
    refine VS_r0 rfl ?_
    refine q_mv rfl ?_
    refine q_mv rfl ?_
    refine q_callp (c_impl_placeInRow xs k hl (goodR_keys c0)) rfl trivial ?_
    refine q_mv rfl ?_
    refine q_ext rfl rfl ?_
    refine q_ext rfl rfl ?_
    refine q_mv rfl ?_
    refine q_mv rfl ?_
    refine rg_nil ?_
    refine VS_seq ?_
    refine VS_seq ?_
    refine VS_r0 rfl ?_
    refine q_mv rfl ?_
    refine q_not rfl ?_
    refine rg_nil ?_
    refine VS_cond rfl (fun c1 => ?_) (fun c1 => ?_)
    · try simp at c1
      refine VS_seq ?_
      refine VS_r0 rfl ?_
      refine q_mv rfl ?_
      refine q_mv rfl ?_
      refine rg_nil ?_
      refine VS_ret ?_
      exact Bd.now ⟨_, rfl, by rw [valR, if_neg (by simp_all)]⟩
    · try simp at c1
      have ht : thereR xs k = true := by simpa using c1
      have ht2 := thereR_lt ht
      refine VS_skip ?_
      refine VS_seq ?_
      refine VS_r0 rfl ?_
      refine q_mv rfl ?_
      refine q_mv rfl ?_
      first | refine q_idx_c _ rfl rfl (by omega) (fun _ => rfl) ?_ | refine q_idx_m rfl rfl (by omega) (by omega) (fun _ => rfl) ?_ | refine q_idx_om rfl rfl (by omega) (by omega) rfl rfl ?_
      first | refine q_fld_r rfl ?_ | refine q_fld_c rfl rfl ?_
      first | refine q_load_c rfl rfl rfl ?_ | refine q_load_r rfl rfl rfl rfl rfl rfl rfl ?_ | refine q_load_o rfl rfl rfl rfl rfl ?_
      refine q_mv rfl ?_
      refine q_mv rfl ?_
      refine rg_nil ?_
      refine VS_ret ?_
      exact Bd.now ⟨_, rfl, by rw [valR, if_pos (by simp [c0, ht])]⟩
theorem c_spec_put (xs : List (Int × Int)) (a b : Int) (hl : xs.length ≤ 1000000) : NewS prog 84 43 2 [prs xs, pairP (a, b)] (dP (putR xs (a, b))) := by
  refine callS_of_VS sl_spec_put (by simp) ?_
  refine VS_seq ?_
  refine VS_r0 rfl ?_
  refine q_box rfl rfl rfl trivial ?_
  refine q_mv rfl ?_
  refine rg_nil ?_
  refine VS_seq ?_
  refine VS_r2 [some ⟨43, 2, [.pv (pairP (a, b))]⟩] hmix (SubL.sub (by repeat (first | exact SubL.nil | apply SubL.none | apply SubL.some | apply SubL.sh | apply SubL.eq))) ?_
  refine q_mv rfl ?_
  first | refine q_fld_r rfl ?_ | refine q_fld_c rfl rfl ?_
  first | refine q_load_c rfl rfl rfl ?_ | refine q_load_r rfl rfl rfl rfl rfl rfl rfl ?_ | refine q_load_o rfl rfl rfl rfl rfl ?_
  refine q_callp (c_spec_keysOf xs (by omega)) rfl (by first | exact trivial | exact Sub.nil | exact Sub.refl _ | exact Sub.app _ _ | exact SubL.sub (by repeat (first | exact SubL.nil | apply SubL.none | apply SubL.some | apply SubL.sh | apply SubL.eq)) | (refine Sub.of_eq ?_; intro o ob h; rcases o with _ | _ | _ | _ | _ | o <;> simp_all)) ?_
  refine q_callp ((c_spec_below (keysR xs) a (by simp; omega)).to (y := i64 (atR xs a)) rfl) rfl (by first | exact trivial | exact Sub.nil | exact Sub.refl _ | exact Sub.app _ _ | exact SubL.sub (by repeat (first | exact SubL.nil | apply SubL.none | apply SubL.some | apply SubL.sh | apply SubL.eq)) | (refine Sub.of_eq ?_; intro o ob h; rcases o with _ | _ | _ | _ | _ | o <;> simp_all)) ?_
  refine q_mv rfl ?_
  refine rg_nil ?_
  refine VS_seq ?_
  have hat := atR_le xs a
  refine VS_r2 [some ⟨43, 2, [.pv (pairP (a, b))]⟩] hmix (SubL.sub (by repeat (first | exact SubL.nil | apply SubL.none | apply SubL.some | apply SubL.sh | apply SubL.eq))) ?_
  refine q_mv rfl ?_
  refine q_mv rfl ?_
  refine q_slc_m (xs := xs) (f := pairP) 0 (atR xs a) rfl rfl rfl ⟨rfl, rfl, by omega, by omega⟩ (fun _ => rfl) ?_
  first | refine q_load_c rfl rfl rfl ?_ | refine q_load_ra rfl rfl rfl rfl rfl (by first | (simp; done) | (simp [setAt]; done)) rfl ?_
  refine q_lit rfl rfl rfl rfl ?_
  refine q_new rfl (c_spec_copyRow ((xs.take (atR xs a)).drop 0) (by simp; omega)) (flat_P _) (by first | rfl | (repeat' (first | exact toRs_nil | refine toRs_cons ?_ ?_ | rfl | exact toR_I rfl | exact toR_P rfl | refine toR_agg2 ?_ ?_ | refine toR_agg3 ?_ ?_ ?_))) (by first | exact trivial | exact Sub.nil | exact Sub.refl _ | exact Sub.app _ _ | exact SubL.sub (by repeat (first | exact SubL.nil | apply SubL.none | apply SubL.some | apply SubL.sh | apply SubL.eq)) | (refine Sub.of_eq ?_; intro o ob h; rcases o with _ | _ | _ | _ | _ | o <;> simp_all)) ?_
  refine q_app_dm (xs := (xs.take (atR xs a)).drop 0) (ys := [(a, b)]) (f := fun k => .pv (pairP k)) rfl rfl rfl rfl ⟨by simp; omega, by simp; omega⟩ (by first | exact trivial | exact Sub.nil | exact Sub.refl _ | exact Sub.app _ _ | exact SubL.sub (by repeat (first | exact SubL.nil | apply SubL.none | apply SubL.some | apply SubL.sh | apply SubL.eq)) | (refine Sub.of_eq ?_; intro o ob h; rcases o with _ | _ | _ | _ | _ | o <;> simp_all)) ?_
  refine q_mv rfl ?_
  refine rg_nil ?_
  refine VS_seq ?_
  refine VS_seq ?_
  refine VS_r1 hmix rfl ?_
  refine q_mv rfl ?_
  refine q_mv rfl ?_
  first | refine q_len_m rfl ?_ | refine q_len_s rfl ?_ | refine q_len_o rfl ?_ | refine q_len_n rfl ?_ | refine q_len_x rfl ?_
  refine q_lss rfl rfl ?_
  refine q_mv rfl ?_
  refine q_b rfl (fun g23 => ?_) (fun g23 => ?_)
  · try simp at g23
    refine q_t rfl ?_
    refine q_mv rfl ?_
    refine q_t rfl ?_
    refine q_mv rfl ?_
    refine q_t rfl ?_
    first | refine q_idx_c _ rfl rfl (by omega) (fun _ => rfl) ?_ | refine q_idx_m rfl rfl (by omega) (by omega) (fun _ => rfl) ?_ | refine q_idx_om rfl rfl (by omega) (by omega) rfl rfl ?_
    refine q_t rfl ?_
    first | refine q_fld_r rfl ?_ | refine q_fld_c rfl rfl ?_
    refine q_t rfl ?_
    first | refine q_load_c rfl rfl rfl ?_ | refine q_load_r rfl rfl rfl rfl rfl rfl rfl ?_ | refine q_load_o rfl rfl rfl rfl rfl ?_
    refine q_t rfl ?_
    first | refine q_fld_r rfl ?_ | refine q_fld_c rfl rfl ?_
    refine q_t rfl ?_
    first | refine q_load_c rfl rfl rfl ?_ | refine q_load_r rfl rfl rfl rfl rfl rfl rfl ?_ | refine q_load_o rfl rfl rfl rfl rfl ?_
    refine q_t rfl ?_
    refine q_eql rfl rfl ?_
    refine q_pick_t rfl rfl ?_
    refine rg_nil ?_
    refine VS_cond rfl (fun c0 => ?_) (fun c0 => ?_)
    · try simp at c0
      have ht : thereR xs a = true := by simp_all [thereR]
      refine VS_r0 rfl ?_
      refine q_mv rfl ?_
      refine q_add rfl rfl (inR64 (by omega)) ?_
      refine q_mv rfl ?_
      refine rg_nil ?_
      refine VS_seq ?_
      refine VS_r0 rfl ?_
      refine q_mv rfl ?_
      refine q_mv rfl ?_
      refine q_mv rfl ?_
      first
        | fail
        | refine q_slc_m (xs := xs) (f := pairP) (atR xs a + (if thereR xs a then 1 else 0)) xs.length rfl rfl rfl ⟨by rw [ht]; simp, by simp, by rw [ht]; simp; omega, Nat.le_refl _⟩ (fun _ => rfl) ?_
      first
        | refine q_app_dm (xs := (xs.take (atR xs a)).drop 0 ++ [(a, b)]) (ys := (xs.take xs.length).drop (atR xs a + (if thereR xs a then 1 else 0))) (f := fun k => .pv (pairP k)) rfl (elems_P _) (cell_P _) rfl ⟨by simp; omega, by simp; omega⟩ trivial ?_
        | refine q_app_dm (xs := (xs.take (atR xs a)).drop 0 ++ [(a, b)]) (ys := (xs.take xs.length).drop (atR xs a)) (f := fun k => .pv (pairP k)) rfl (elems_P _) (cell_P _) rfl ⟨by simp; omega, by simp; omega⟩ trivial ?_
      refine q_mv rfl ?_
      refine rg_nil ?_
      refine VS_ret ?_
      have e : (xs.take (atR xs a)).drop 0 ++ [(a, b)] ++ (xs.take xs.length).drop (atR xs a + (if thereR xs a then 1 else 0)) = putR xs (a, b) := by cases hh : thereR xs a <;> simp [putR, hh]
      show Bd _ _ _ _
      refine Bd.renL [3] (fun i hi => by first | (exact absurd hi (Nat.not_lt_zero i)) | (have e : i = 0 := (by simp at hi; omega); subst e; rfl) | (have e : i = 0 ∨ i = 1 := (by simp at hi; omega); rcases e with rfl | rfl <;> rfl)) (by simp) [(4, ownD 0 (dP ((xs.take (atR xs a)).drop 0 ++ [(a, b)] ++ (xs.take xs.length).drop (atR xs a + (if thereR xs a then 1 else 0)))))] (by exact ⟨inv_own rfl, trivial⟩) (by exact l1 (obD_mP _)) ?_
      exact ⟨_, res_own rfl, congrArg (fun l => ownD 0 (dP l)) e, congrArg (fun l => [obD _ _ (dP l)]) e⟩
    · try simp at c0
      have ht : thereR xs a = false := by simp_all [thereR]
      refine VS_skip ?_
      refine VS_seq ?_
      refine VS_r0 rfl ?_
      refine q_mv rfl ?_
      refine q_mv rfl ?_
      refine q_mv rfl ?_
      first
        | fail
        | refine q_slc_m (xs := xs) (f := pairP) (atR xs a + (if thereR xs a then 1 else 0)) xs.length rfl rfl rfl ⟨by rw [ht]; simp, by simp, by rw [ht]; simp; omega, Nat.le_refl _⟩ (fun _ => rfl) ?_
      first
        | refine q_app_dm (xs := (xs.take (atR xs a)).drop 0 ++ [(a, b)]) (ys := (xs.take xs.length).drop (atR xs a + (if thereR xs a then 1 else 0))) (f := fun k => .pv (pairP k)) rfl (elems_P _) (cell_P _) rfl ⟨by simp; omega, by simp; omega⟩ trivial ?_
        | refine q_app_dm (xs := (xs.take (atR xs a)).drop 0 ++ [(a, b)]) (ys := (xs.take xs.length).drop (atR xs a)) (f := fun k => .pv (pairP k)) rfl (elems_P _) (cell_P _) rfl ⟨by simp; omega, by simp; omega⟩ trivial ?_
      refine q_mv rfl ?_
      refine rg_nil ?_
      refine VS_ret ?_
      have e : (xs.take (atR xs a)).drop 0 ++ [(a, b)] ++ (xs.take xs.length).drop (atR xs a + (if thereR xs a then 1 else 0)) = putR xs (a, b) := by cases hh : thereR xs a <;> simp [putR, hh]
      show Bd _ _ _ _
      refine Bd.renL [3] (fun i hi => by first | (exact absurd hi (Nat.not_lt_zero i)) | (have e : i = 0 := (by simp at hi; omega); subst e; rfl) | (have e : i = 0 ∨ i = 1 := (by simp at hi; omega); rcases e with rfl | rfl <;> rfl)) (by simp) [(4, ownD 0 (dP ((xs.take (atR xs a)).drop 0 ++ [(a, b)] ++ (xs.take xs.length).drop (atR xs a + (if thereR xs a then 1 else 0)))))] (by exact ⟨inv_own rfl, trivial⟩) (by exact l1 (obD_mP _)) ?_
      exact ⟨_, res_own rfl, congrArg (fun l => ownD 0 (dP l)) e, congrArg (fun l => [obD _ _ (dP l)]) e⟩
  · try simp at g23
    have ht : thereR xs a = false := by rw [thereR, decide_eq_false (by omega), Bool.false_and]
    refine q_f rfl ?_
    refine q_f rfl ?_
    refine q_f rfl ?_
    refine q_f rfl ?_
    refine q_f rfl ?_
    refine q_f rfl ?_
    refine q_f rfl ?_
    refine q_f rfl ?_
    refine q_pick_f rfl rfl ?_
    refine rg_nil ?_
    refine VS_cond rfl (fun e => by cases e) (fun _ => ?_)
    refine VS_skip ?_
    refine VS_seq ?_
    refine VS_r0 rfl ?_
    refine q_mv rfl ?_
    refine q_mv rfl ?_
    refine q_mv rfl ?_
    first
      | fail
      | refine q_slc_m (xs := xs) (f := pairP) (atR xs a + (if thereR xs a then 1 else 0)) xs.length rfl rfl rfl ⟨by rw [ht]; simp, by simp, by rw [ht]; simp; omega, Nat.le_refl _⟩ (fun _ => rfl) ?_
    first
      | refine q_app_dm (xs := (xs.take (atR xs a)).drop 0 ++ [(a, b)]) (ys := (xs.take xs.length).drop (atR xs a + (if thereR xs a then 1 else 0))) (f := fun k => .pv (pairP k)) rfl (elems_P _) (cell_P _) rfl ⟨by simp; omega, by simp; omega⟩ trivial ?_
      | refine q_app_dm (xs := (xs.take (atR xs a)).drop 0 ++ [(a, b)]) (ys := (xs.take xs.length).drop (atR xs a)) (f := fun k => .pv (pairP k)) rfl (elems_P _) (cell_P _) rfl ⟨by simp; omega, by simp; omega⟩ trivial ?_
    refine q_mv rfl ?_
    refine rg_nil ?_
    refine VS_ret ?_
    have e : (xs.take (atR xs a)).drop 0 ++ [(a, b)] ++ (xs.take xs.length).drop (atR xs a + (if thereR xs a then 1 else 0)) = putR xs (a, b) := by cases hh : thereR xs a <;> simp [putR, hh]
    show Bd _ _ _ _
    refine Bd.renL [3] (fun i hi => by first | (exact absurd hi (Nat.not_lt_zero i)) | (have e : i = 0 := (by simp at hi; omega); subst e; rfl) | (have e : i = 0 ∨ i = 1 := (by simp at hi; omega); rcases e with rfl | rfl <;> rfl)) (by simp) [(4, ownD 0 (dP ((xs.take (atR xs a)).drop 0 ++ [(a, b)] ++ (xs.take xs.length).drop (atR xs a + (if thereR xs a then 1 else 0)))))] (by exact ⟨inv_own rfl, trivial⟩) (by exact l1 (obD_mP _)) ?_
    exact ⟨_, res_own rfl, congrArg (fun l => ownD 0 (dP l)) e, congrArg (fun l => [obD _ _ (dP l)]) e⟩
end Go.V

set_option maxHeartbeats 4000000
namespace Go.V
open Go.Proofs.Try (prog)
theorem c_spec_goodRow (bs : List Int) (hb : isU8 bs) (hbl : bs.length ≤ 2000) (p : Int) (hp : 0 ≤ p) (hp2 : p ≤ 70000000000) : RdN prog 88 90 bs p [] (pairP) 43 2 (fun xs q => (xs.length ≤ 24 ∧ bdP 1000 xs) ∧ (p ≤ q ∧ q ≤ p + 100)) := by
  refine callS_of_VS sl_spec_goodRow (by simp) ?_
  refine VS_seq ?_
  refine VS_r0 rfl ?_
  refine q_mv rfl ?_
  refine rg_nil ?_
  refine VS_seq ?_
  refine VS_r0 rfl ?_
  refine q_lit0 ?_
  refine q_mv rfl ?_
  refine rg_nil ?_
  refine VS_seq ?_
  refine VS_seq ?_
  refine VS_r0 rfl ?_
  refine q_mv rfl ?_
  refine q_lit (xs := [6, 9, 13, 4, 20, 24, 1, 0].map (.int .i64)) rfl rfl rfl rfl ?_
  refine q_rd rfl (c_spec_reader_one bs hb hbl _ (by omega) [6, 9, 13, 4, 20, 24, 1, 0] (by simp) (by simp) (by omega)) rfl rfl (fun _ => trivial) ?_
  rintro _ q9 ⟨c, rfl, q_c, rfl⟩
  refine q_mv rfl ?_
  refine rg_nil ?_
  refine VS_block ?_
  simp only [List.mem_cons, List.not_mem_nil, or_false] at q_c
  refine VS_bd (Bd.pad ?_)
  refine VS_bd (Bd.keepL [(0, .ptr 0 0 0), (3, ownD 1 (dP ([]))), (4, .pv (i64 c))] ⟨rfl, rfl, rfl, trivial⟩ ?_)
  refine VS_loop (fun mz E S => ∃ n : Int, ∃ xs : List (Int × Int), ∃ q : Int, mz = n.toNat ∧ (-1 ≤ n ∧ n ≤ 24) ∧ (p ≤ q ∧ q ≤ p + 1 + 2 * (24 - n)) ∧ (xs.length ≤ 24) ∧ (bdP 1000 xs) ∧ E = env [(0, .ptr 0 0 0), (3, ownD 1 (dP xs)), (4, .pv (i64 n))] ∧ S = [some (rdr 90 bs q), obD 43 2 (dP xs)]) ⟨_, c, [], (p + 1), rfl, (by first | omega | (intros; omega) | simp), (by first | omega | (intros; omega) | simp), (by first | omega | (intros; omega) | simp), bdP.nil, rfl, rfl⟩ ?_
  rintro mz _ _ ⟨n, xs, q, hmeas, g0, g1, g2, g3, rfl, rfl⟩
  refine VS_seq ?_
  refine VS_seq ?_
  refine VS_r0 rfl ?_
  refine q_mv rfl ?_
  refine q_gtr rfl rfl ?_
  refine rg_nil ?_
  refine VS_cond rfl (fun c0 => ?_) (fun c0 => ?_)
  · try simp at c0
    refine VS_skip ?_
    refine VS_seq ?_
    refine VS_block ?_
    refine VS_seq ?_
    refine VS_r0 rfl ?_
    refine q_mv rfl ?_
    refine q_rd rfl (c_spec_reader_pick bs hb hbl _ (by omega) 100 (by omega) (by omega)) rfl rfl (fun _ => trivial) ?_
    rintro _ q15 ⟨a, rfl, q_a, rfl⟩
    refine q_mv rfl ?_
    refine q_rd rfl (c_spec_reader_pick bs hb hbl _ (by omega) 200 (by omega) (by omega)) rfl rfl (fun _ => trivial) ?_
    rintro _ q17 ⟨b, rfl, q_b, rfl⟩
    refine q_sub rfl rfl (inR64 (by omega)) ?_
    refine q_build rfl ?_
    refine q_alloc trivial ?_
    first | refine q_store rfl rfl rfl rfl rfl rfl ⟨rfl, rfl, by simp, rfl, by simp [isOne]⟩ rfl trivial ?_ | refine q_storeF rfl rfl rfl rfl rfl (by simp) trivial ?_ | refine q_store rfl rfl rfl rfl rfl rfl ⟨rfl, rfl, by simp, by simp [setAt, isCell_own, isCell_sl, isCell_int, isCell_nils], by simp [isOne]⟩ rfl trivial ?_
    refine rg_nil ?_
    refine VS_seq ?_
    refine VS_r0 rfl ?_
    refine q_mv rfl ?_
    first | refine q_load_c rfl rfl rfl ?_ | refine q_load_ra rfl rfl rfl rfl rfl (by first | (simp; done) | (simp [setAt]; done)) rfl ?_
    refine q_new rfl (c_spec_put xs a (b - 100) (by omega)) (flat_P _) (by first | rfl | (repeat' (first | exact toRs_nil | refine toRs_cons ?_ ?_ | rfl | exact toR_I rfl | exact toR_P rfl | refine toR_agg2 ?_ ?_ | refine toR_agg3 ?_ ?_ ?_))) trivial ?_
    refine q_len_dm rfl ?_
    refine q_leq rfl rfl ?_
    refine rg_nil ?_
    refine VS_cond rfl (fun c1 => ?_) (fun c1 => ?_)
    · try simp at c1
      refine VS_r0 rfl ?_
      refine q_mv rfl ?_
      first | refine q_load_c rfl rfl rfl ?_ | refine q_load_ra rfl rfl rfl rfl rfl (by first | (simp; done) | (simp [setAt]; done)) rfl ?_
      refine q_new rfl (c_spec_put xs a (b - 100) (by omega)) (flat_P _) (by first | rfl | (repeat' (first | exact toRs_nil | refine toRs_cons ?_ ?_ | rfl | exact toR_I rfl | exact toR_P rfl | refine toR_agg2 ?_ ?_ | refine toR_agg3 ?_ ?_ ?_))) trivial ?_
      refine q_mv rfl ?_
      refine rg_nil ?_
      refine VS_r0 rfl ?_
      refine q_mv rfl ?_
      refine q_sub rfl rfl (inR64 (by omega)) ?_
      refine q_mv rfl ?_
      refine rg_nil ?_
      refine Bd.renL [0, 4] (fun i hi => by first | (exact absurd hi (Nat.not_lt_zero i)) | (have e : i = 0 := (by simp at hi; omega); subst e; rfl) | (have e : i = 0 ∨ i = 1 := (by simp at hi; omega); rcases e with rfl | rfl <;> rfl)) (by simp) [(0, .ptr 0 0 0), (3, ownD 1 (dP (putR xs (a, b - 100)))), (4, .pv (i64 (n - 1)))] ⟨rfl, inv_own rfl, rfl, trivial⟩ (l2 rfl (obD_mP _)) ⟨_, ?_, n - 1, putR xs (a, b - 100), q + 1 + 1, rfl, ?_, ?_, ?_, ?_, rfl, rfl⟩
      · first | omega | assumption | rfl | (simp; omega)
      · first | omega | assumption | rfl | (simp; omega)
      · first | omega | assumption | rfl | (simp; omega)
      · first | omega | assumption | rfl | (simp; omega)
      · exact g3.put ⟨⟨by omega, by omega⟩, by omega, by omega⟩
    · try simp at c1
      refine VS_skip ?_
      refine VS_r0 rfl ?_
      refine q_mv rfl ?_
      refine q_sub rfl rfl (inR64 (by omega)) ?_
      refine q_mv rfl ?_
      refine rg_nil ?_
      refine Bd.renL [0, 1] (fun i hi => by first | (exact absurd hi (Nat.not_lt_zero i)) | (have e : i = 0 := (by simp at hi; omega); subst e; rfl) | (have e : i = 0 ∨ i = 1 := (by simp at hi; omega); rcases e with rfl | rfl <;> rfl)) (by simp) [(0, .ptr 0 0 0), (3, ownD 1 (dP xs)), (4, .pv (i64 (n - 1)))] ⟨rfl, inv_own rfl, rfl, trivial⟩ (l2 rfl (obD_mP _)) ⟨_, ?_, n - 1, xs, q + 1 + 1, rfl, ?_, ?_, ?_, ?_, rfl, rfl⟩
      · first | omega | assumption | rfl | (simp; omega)
      · first | omega | assumption | rfl | (simp; omega)
      · first | omega | assumption | rfl | (simp; omega)
      · first | omega | assumption | rfl | (simp; omega)
      · first | omega | assumption | rfl | (simp; omega)
  · try simp at c0
    refine VS_exit ?_
    refine VS_seq ?_
    refine VS_r0 rfl ?_
    refine q_mv rfl ?_
    refine q_mv rfl ?_
    refine rg_nil ?_
    refine VS_ret ?_
    exact Bd.now ⟨_, res_own rfl, xs, q, ⟨⟨g2, g3⟩, by omega, by omega⟩, rfl, rfl⟩
theorem c_spec_anyRow (bs : List Int) (hb : isU8 bs) (hbl : bs.length ≤ 2000) (p : Int) (hp : 0 ≤ p) (hp2 : p ≤ 60000000000) : RdN prog 55 90 bs p [] (pairP) 43 2 (fun xs q => (xs.length ≤ 25 ∧ bdP 2000 xs) ∧ (p ≤ q ∧ q ≤ p + 110)) := by
  refine callS_of_VS sl_spec_anyRow (by simp) ?_
  refine VS_seq ?_
  refine VS_r0 rfl ?_
  refine q_mv rfl ?_
  refine rg_nil ?_
  refine VS_seq ?_
  refine VS_r0 rfl ?_
  refine q_mv rfl ?_
  refine q_rdn rfl (c_spec_goodRow bs hb hbl _ (by omega) (by omega)) (fun _ _ => rfl) rfl rfl (fun _ _ => trivial) ?_
  rintro xs q5 ⟨⟨hx1, hx2⟩, hq1, hq2⟩
  refine q_mv rfl ?_
  refine rg_nil ?_
  refine VS_seq ?_
  refine VS_seq ?_
  refine VS_r0 rfl ?_
  refine q_mv rfl ?_
  refine q_rd rfl (c_spec_reader_pick bs hb hbl _ (by omega) 14 (by omega) (by omega)) rfl rfl (fun _ => trivial) ?_
  rintro _ q7 ⟨v, rfl, q_v, rfl⟩
  refine q_eql rfl rfl ?_
  refine rg_nil ?_
  refine VS_cond rfl (fun c0 => ?_) (fun c0 => ?_)
  · try simp at c0
    refine VS_r0 rfl ?_
    refine q_mv rfl ?_
    refine q_mv rfl ?_
    refine q_lit (xs := [99, 0, 100].map (.int .i64)) rfl rfl rfl rfl ?_
    refine q_rd rfl (c_spec_reader_one bs hb hbl _ (by omega) [99, 0, 100] (by simp) (by simp) (by omega)) rfl rfl (fun _ => trivial) ?_
    rintro _ q12 ⟨a, rfl, q_a, rfl⟩
    refine q_mv rfl ?_
    refine q_lit (xs := [0, 1001].map (.int .i64)) rfl rfl rfl rfl ?_
    refine q_rd rfl (c_spec_reader_one bs hb hbl _ (by omega) [0, 1001] (by simp) (by simp) (by omega)) rfl rfl (fun _ => trivial) ?_
    rintro _ q15 ⟨b, rfl, q_b, rfl⟩
    refine q_build rfl ?_
    refine q_lit rfl rfl rfl rfl ?_
    refine q_app_dm (xs := xs) (ys := [(a, b)]) (f := fun k => .pv (pairP k)) rfl rfl rfl rfl ⟨by simp; omega, by simp; omega⟩ trivial ?_
    refine q_mv rfl ?_
    refine rg_nil ?_
    refine VS_seq ?_
    refine VS_r0 rfl ?_
    refine q_mv rfl ?_
    refine q_mv rfl ?_
    refine rg_nil ?_
    refine VS_ret ?_
    show Bd _ _ _ _
    first
      | refine Bd.renL [0, 2] (fun i hi => by first | (exact absurd hi (Nat.not_lt_zero i)) | (have e : i = 0 := (by simp at hi; omega); subst e; rfl) | (have e : i = 0 ∨ i = 1 := (by simp at hi; omega); rcases e with rfl | rfl <;> rfl)) (by simp) [(2, ownD 1 (dP (xs ++ [(a, b)])))] (by exact ⟨inv_own rfl, trivial⟩) (by exact l2 rfl (obD_mP _)) ?_
      | refine Bd.renL [0, 1] (fun i hi => by first | (exact absurd hi (Nat.not_lt_zero i)) | (have e : i = 0 := (by simp at hi; omega); subst e; rfl) | (have e : i = 0 ∨ i = 1 := (by simp at hi; omega); rcases e with rfl | rfl <;> rfl)) (by simp) [(2, ownD 1 (dP xs))] (by exact ⟨inv_own rfl, trivial⟩) (by exact l2 rfl (obD_mP _)) ?_
    refine ⟨_, res_own rfl, _, _, ⟨⟨?_, ?_⟩, ?_, ?_⟩, rfl, rfl⟩
    · first | omega | (simp; omega)
    · first | exact (hx2.le (by omega)).app (bdP.one (by simp only [List.mem_cons, List.not_mem_nil, or_false] at q_a; simp only [List.mem_cons, List.not_mem_nil, or_false] at q_b; omega)) | exact hx2.le (by omega)
    · omega
    · omega
  · try simp at c0
    refine VS_skip ?_
    refine VS_seq ?_
    refine VS_r0 rfl ?_
    refine q_mv rfl ?_
    refine q_mv rfl ?_
    refine rg_nil ?_
    refine VS_ret ?_
    show Bd _ _ _ _
    first
      | refine Bd.renL [0, 2] (fun i hi => by first | (exact absurd hi (Nat.not_lt_zero i)) | (have e : i = 0 := (by simp at hi; omega); subst e; rfl) | (have e : i = 0 ∨ i = 1 := (by simp at hi; omega); rcases e with rfl | rfl <;> rfl)) (by simp) [(2, ownD 1 (dP (xs ++ [(a, b)])))] (by exact ⟨inv_own rfl, trivial⟩) (by exact l2 rfl (obD_mP _)) ?_
      | refine Bd.renL [0, 1] (fun i hi => by first | (exact absurd hi (Nat.not_lt_zero i)) | (have e : i = 0 := (by simp at hi; omega); subst e; rfl) | (have e : i = 0 ∨ i = 1 := (by simp at hi; omega); rcases e with rfl | rfl <;> rfl)) (by simp) [(2, ownD 1 (dP xs))] (by exact ⟨inv_own rfl, trivial⟩) (by exact l2 rfl (obD_mP _)) ?_
    refine ⟨_, res_own rfl, _, _, ⟨⟨?_, ?_⟩, ?_, ?_⟩, rfl, rfl⟩
    · first | omega | (simp; omega)
    · first | exact (hx2.le (by omega)).app (bdP.one (by simp only [List.mem_cons, List.not_mem_nil, or_false] at q_a; simp only [List.mem_cons, List.not_mem_nil, or_false] at q_b; omega)) | exact hx2.le (by omega)
    · omega
    · omega
end Go.V
