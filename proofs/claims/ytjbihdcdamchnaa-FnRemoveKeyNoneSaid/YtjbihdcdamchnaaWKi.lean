/- A part of the proofs about laws of the page tree (see the text that bears the law): a small language of steps, its rules, and what the functions of the program return. -/
import Derived.Test.YtjbihdcdamchnaaWKd
import Derived.Test.YtjbihdcdamchnaaPR
set_option linter.all false
set_option linter.unusedVariables false
set_option linter.unusedSimpArgs false
set_option maxHeartbeats 4000000
namespace Go.V
open Go.Proofs.Try (prog)
theorem c_spec_keysOf (xs : List (Int × Int)) (hl : xs.length ≤ 100000000) : PCon prog 63 [prs xs] (fun p => p = ints (keysR xs)) := by
  refine con_of_VS sl_spec_keysOf (by simp) ?_
  refine VS_seq ?_
  refine VS_r0 rfl ?_
  refine q_mv rfl ?_
  refine rg_nil ?_
  refine VS_seq ?_
  refine VS_r0 rfl ?_
  refine q_lit0 ?_
  refine q_mv rfl ?_
  refine rg_nil ?_
  refine VS_seq ?_
  refine VS_seq ?_
  refine VS_r0 rfl ?_
  refine q_mv rfl ?_
  refine rg_nil ?_
  refine VS_block ?_
  refine VS_bd (Bd.pad ?_)
  refine VS_bd (Bd.keepL [(0, .pv (prs xs)), (3, ownD 0 (dI ([]))), (4, .pv (i64 0))] ⟨rfl, rfl, rfl, trivial⟩ ?_)
  refine VS_loop (fun mz E S => ∃ i : Nat, ∃ ys : List Int, mz = xs.length - i ∧ (i ≤ xs.length) ∧ (ys = keysR (xs.take i)) ∧ (ys.length = i) ∧ E = env [(0, .pv (prs xs)), (3, ownD 0 (dI ys)), (4, .pv (i64 i))] ∧ S = [obD 3 1 (dI ys)]) ⟨_, 0, [], rfl, (by first | omega | (intros; omega) | simp), rfl, rfl, rfl, rfl⟩ ?_
  rintro mz _ _ ⟨i, ys, hmeas, g0, g1, g2, rfl, rfl⟩
  refine VS_seq ?_
  refine VS_seq ?_
  refine VS_r0 rfl ?_
  refine q_mv rfl ?_
  refine q_mv rfl ?_
  first | refine q_len_m rfl ?_ | refine q_len_s rfl ?_ | refine q_len_o rfl ?_ | refine q_len_n rfl ?_ | refine q_len_x rfl ?_
  refine q_lss rfl rfl ?_
  refine rg_nil ?_
  refine VS_cond rfl (fun c0 => ?_) (fun c0 => ?_)
  · try simp at c0
    refine VS_skip ?_
    refine VS_seq ?_
    refine VS_block ?_
    refine VS_r0 rfl ?_
    refine q_mv rfl ?_
    refine q_mv rfl ?_
    refine q_mv rfl ?_
    first | refine q_idx_c _ rfl rfl (by omega) (fun _ => rfl) ?_ | refine q_idx_m rfl rfl (by omega) (by omega) (fun _ => rfl) ?_ | refine q_idx_om rfl rfl (by omega) (by omega) rfl rfl ?_
    first | refine q_fld_r rfl ?_ | refine q_fld_c rfl rfl ?_
    first | refine q_load_c rfl rfl rfl ?_ | refine q_load_r rfl rfl rfl rfl rfl rfl rfl ?_ | refine q_load_o rfl rfl rfl rfl rfl ?_
    refine q_lit rfl rfl rfl rfl ?_
    refine q_app_dm (xs := ys) (ys := [(nth xs i).1]) (f := fun k => .pv (i64 k)) rfl rfl rfl rfl ⟨by simp; omega, by simp; omega⟩ (by first | exact trivial | exact Sub.nil | exact Sub.refl _ | exact Sub.app _ _ | exact SubL.sub (by repeat (first | exact SubL.nil | apply SubL.none | apply SubL.some | apply SubL.sh | apply SubL.eq)) | (refine Sub.of_eq ?_; intro o ob h; rcases o with _ | _ | _ | _ | _ | o <;> simp_all)) ?_
    refine q_mv rfl ?_
    refine rg_nil ?_
    refine VS_r0 rfl ?_
    refine q_mv rfl ?_
    refine q_add rfl rfl (inR64 (by omega)) ?_
    refine q_mv rfl ?_
    refine rg_nil ?_
    refine Bd.renL [1] (fun i hi => by first | (exact absurd hi (Nat.not_lt_zero i)) | (have e : i = 0 := (by simp at hi; omega); subst e; rfl) | (have e : i = 0 ∨ i = 1 := (by simp at hi; omega); rcases e with rfl | rfl <;> rfl)) (by simp) [(0, .pv (prs xs)), (3, ownD 0 (dI (ys ++ [(nth xs i).1]))), (4, .pv (i64 (i + 1)))] ⟨rfl, inv_own rfl, rfl, trivial⟩ (l1 (obD_mI _)) ⟨_, ?_, i + 1, ys ++ [(nth xs i).1], rfl, ?_, ?_, ?_, rfl, rfl⟩
    · first | omega | assumption | rfl | (simp; omega)
    · first | omega | assumption | rfl | (simp; omega)
    · rw [g1, take_succ_nth (by omega)]; simp
    · simp; omega
  · try simp at c0
    refine VS_exit ?_
    refine VS_seq ?_
    refine VS_r0 rfl ?_
    refine q_mv rfl ?_
    refine q_mv rfl ?_
    refine rg_nil ?_
    refine VS_ret ?_
    have e : i = xs.length := by omega
    subst e
    rw [List.take_length] at g1
    subst g1
    refine Bd.pureB 2 0 3 1 (xs := dI (keysR xs)) rfl rfl (toPVs_dI _) ?_
    exact Bd.now ⟨_, rfl, rfl⟩
theorem c_spec_copyRow (xs : List (Int × Int)) (hl : xs.length ≤ 100000000) : NewS prog 57 43 2 [prs xs] (dP xs) := by
  refine callS_of_VS sl_spec_copyRow (by simp) ?_
  refine VS_seq ?_
  refine VS_r0 rfl ?_
  refine q_mv rfl ?_
  refine rg_nil ?_
  refine VS_seq ?_
  refine VS_r0 rfl ?_
  refine q_lit0 ?_
  refine q_mv rfl ?_
  refine q_app_zm (ys := xs) (f := fun k => .pv (pairP k)) rfl (elems_P xs) (cell_P xs) ⟨by omega, by omega⟩ (by first | exact trivial | exact Sub.nil | exact Sub.refl _ | exact Sub.app _ _ | exact SubL.sub (by repeat (first | exact SubL.nil | apply SubL.none | apply SubL.some | apply SubL.sh | apply SubL.eq)) | (refine Sub.of_eq ?_; intro o ob h; rcases o with _ | _ | _ | _ | _ | o <;> simp_all)) ?_
  refine q_mv rfl ?_
  refine rg_nil ?_
  refine VS_ret ?_
  exact Bd.now ⟨ownD 0 (dP xs), by cases xs <;> rfl, rfl, rfl⟩
theorem c_spec_validRow (xs : List (Int × Int)) (hl : xs.length ≤ 100000000) : PCon prog 59 [prs xs] (fun p => p = .bool (goodR xs)) := by
  refine con_of_VS sl_spec_validRow (by simp) ?_
  refine VS_seq ?_
  refine VS_r0 rfl ?_
  refine q_mv rfl ?_
  refine rg_nil ?_
  refine VS_seq ?_
  refine VS_seq ?_
  refine VS_r0 rfl ?_
  refine q_mv rfl ?_
  refine rg_nil ?_
  refine VS_block ?_
  refine VS_bd (Bd.keepL [(0, .pv (prs xs)), (2, .pv (.bool false)), (3, .pv (i64 0))] ⟨rfl, rfl, rfl, trivial⟩ ?_)
  refine VS_loop (fun mz E S => ∃ i : Nat, mz = xs.length - i ∧ (i ≤ xs.length) ∧ (∀ j, j < i → (decide (-1000 ≤ (nth xs j).2) && decide ((nth xs j).2 ≤ 1000)) = true) ∧ E = env [(0, .pv (prs xs)), (2, .pv (.bool false)), (3, .pv (i64 i))] ∧ S = []) ⟨_, 0, rfl, (by first | omega | (intros; omega) | simp), (by first | omega | (intros; omega) | simp), rfl, rfl⟩ ?_
  rintro mz _ _ ⟨i, hmeas, g0, g1, rfl, rfl⟩
  refine VS_seq ?_
  refine VS_seq ?_
  refine VS_r0 rfl ?_
  refine q_mv rfl ?_
  refine q_mv rfl ?_
  first | refine q_len_m rfl ?_ | refine q_len_s rfl ?_ | refine q_len_o rfl ?_ | refine q_len_n rfl ?_ | refine q_len_x rfl ?_
  refine q_lss rfl rfl ?_
  refine rg_nil ?_
  refine VS_cond rfl (fun c0 => ?_) (fun c0 => ?_)
  · try simp at c0
    refine VS_skip ?_
    refine VS_seq ?_
    refine VS_block ?_
    refine VS_seq ?_
    refine VS_r0 rfl ?_
    refine q_mv rfl ?_
    refine q_mv rfl ?_
    first | refine q_idx_c _ rfl rfl (by omega) (fun _ => rfl) ?_ | refine q_idx_m rfl rfl (by omega) (by omega) (fun _ => rfl) ?_ | refine q_idx_om rfl rfl (by omega) (by omega) rfl rfl ?_
    first | refine q_fld_r rfl ?_ | refine q_fld_c rfl rfl ?_
    first | refine q_load_c rfl rfl rfl ?_ | refine q_load_r rfl rfl rfl rfl rfl rfl rfl ?_ | refine q_load_o rfl rfl rfl rfl rfl ?_
    refine q_callp (c_spec_inRange _ _ _) rfl (by first | exact trivial | exact Sub.nil | exact Sub.refl _ | exact Sub.app _ _ | exact SubL.sub (by repeat (first | exact SubL.nil | apply SubL.none | apply SubL.some | apply SubL.sh | apply SubL.eq)) | (refine Sub.of_eq ?_; intro o ob h; rcases o with _ | _ | _ | _ | _ | o <;> simp_all)) ?_
    refine q_not rfl ?_
    refine rg_nil ?_
    refine VS_cond rfl (fun c1 => ?_) (fun c1 => ?_)
    · try simp at c1
      refine VS_seq ?_
      refine VS_r0 rfl ?_
      refine q_mv rfl ?_
      refine rg_nil ?_
      refine VS_ret ?_
      refine Bd.now ⟨_, rfl, congrArg PV.bool ?_⟩
      rw [goodR, okVals_false i (by omega) (by simp; omega)]; rfl
    · try simp at c1
      refine VS_skip ?_
      refine VS_r0 rfl ?_
      refine q_mv rfl ?_
      refine q_add rfl rfl (inR64 (by omega)) ?_
      refine q_mv rfl ?_
      refine rg_nil ?_
      refine Bd.keepL [(0, .pv (prs xs)), (2, .pv (.bool false)), (3, .pv (i64 (i + 1)))] ⟨rfl, rfl, rfl, trivial⟩ ⟨_, ?_, i + 1, rfl, ?_, ?_, rfl, rfl⟩
      · first | omega | assumption | rfl | (simp; omega)
      · first | omega | assumption | rfl | (simp; omega)
      · intro j hj
        by_cases e : j = i
        · subst e; simp_all
        · exact g1 j (by omega)
  · try simp at c0
    refine VS_exit ?_
    refine VS_seq ?_
    refine VS_r0 rfl ?_
    refine q_mv rfl ?_
    first | refine q_len_m rfl ?_ | refine q_len_s rfl ?_ | refine q_len_o rfl ?_ | refine q_len_n rfl ?_ | refine q_len_x rfl ?_
    refine q_leq rfl rfl ?_
    refine q_mv rfl ?_
    refine q_b rfl (fun g20 => ?_) (fun g20 => ?_)
    · try simp at g20
      refine q_t rfl ?_
      refine q_mv rfl ?_
      refine q_t rfl ?_
      refine q_callp (c_spec_keysOf xs hl) rfl (by first | exact trivial | exact Sub.nil | exact Sub.refl _ | exact Sub.app _ _ | exact SubL.sub (by repeat (first | exact SubL.nil | apply SubL.none | apply SubL.some | apply SubL.sh | apply SubL.eq)) | (refine Sub.of_eq ?_; intro o ob h; rcases o with _ | _ | _ | _ | _ | o <;> simp_all)) ?_
      refine q_t rfl ?_
      refine q_callp (c_spec_validKeys (keysR xs) (by simp; omega)) rfl (by first | exact trivial | exact Sub.nil | exact Sub.refl _ | exact Sub.app _ _ | exact SubL.sub (by repeat (first | exact SubL.nil | apply SubL.none | apply SubL.some | apply SubL.sh | apply SubL.eq)) | (refine Sub.of_eq ?_; intro o ob h; rcases o with _ | _ | _ | _ | _ | o <;> simp_all)) ?_
      refine q_pick_t rfl rfl ?_
      refine q_mv rfl ?_
      refine rg_nil ?_
      refine VS_ret ?_
      refine Bd.now ⟨_, rfl, congrArg PV.bool ?_⟩
      rw [goodR, okVals_true fun j hj => g1 j (by omega)]
      first | (simp; done) | (simp; intros; omega) | (simp; intros; exfalso; omega) | simp_all
    · try simp at g20
      refine q_f rfl ?_
      refine q_f rfl ?_
      refine q_f rfl ?_
      refine q_pick_f rfl rfl ?_
      refine q_mv rfl ?_
      refine rg_nil ?_
      refine VS_ret ?_
      refine Bd.now ⟨_, rfl, congrArg PV.bool ?_⟩
      rw [goodR, okVals_true fun j hj => g1 j (by omega)]
      first | (simp; done) | (simp; intros; omega) | (simp; intros; exfalso; omega) | simp_all
theorem c_impl_keysOfRow (xs : List (Int × Int)) (hl : xs.length ≤ 100000000) : PCon prog 68 [prs xs] (fun p => p = ints (keysR xs)) := by
  refine con_of_VS sl_impl_keysOfRow (by simp) ?_
  refine VS_seq ?_
  refine VS_r0 rfl ?_
  refine q_mv rfl ?_
  refine rg_nil ?_
  refine VS_seq ?_
  refine VS_r0 rfl ?_
  refine q_mv rfl ?_
  first | refine q_len_m rfl ?_ | refine q_len_s rfl ?_ | refine q_len_o rfl ?_ | refine q_len_n rfl ?_ | refine q_len_x rfl ?_
  refine q_mks rfl ⟨by omega, by omega, by omega⟩ (by first | exact trivial | exact Sub.nil | exact Sub.refl _ | exact Sub.app _ _ | exact SubL.sub (by repeat (first | exact SubL.nil | apply SubL.none | apply SubL.some | apply SubL.sh | apply SubL.eq)) | (refine Sub.of_eq ?_; intro o ob h; rcases o with _ | _ | _ | _ | _ | o <;> simp_all)) ?_
  refine q_mv rfl ?_
  refine rg_nil ?_
  refine VS_seq ?_
  refine VS_seq ?_
  refine VS_r0 rfl ?_
  refine q_mv rfl ?_
  first | refine q_len_m rfl ?_ | refine q_len_s rfl ?_ | refine q_len_o rfl ?_ | refine q_len_n rfl ?_ | refine q_len_x rfl ?_
  refine q_mv rfl ?_
  refine rg_nil ?_
  refine VS_block ?_
  refine VS_bd (Bd.keepL [(0, .pv (prs xs)), (3, .own 0 xs.length), (9, .pv (prs xs)), (10, .pv (i64 xs.length)), (11, .pv (i64 0))] ⟨rfl, rfl, rfl, rfl, rfl, trivial⟩ ?_)
  refine VS_loop (fun mz E S => ∃ i : Nat, ∃ ys : List Int, mz = xs.length - i ∧ (i ≤ xs.length) ∧ (ys.take i = keysR (xs.take i)) ∧ (ys.length = xs.length) ∧ E = env [(0, .pv (prs xs)), (3, .own 0 xs.length), (9, .pv (prs xs)), (10, .pv (i64 xs.length)), (11, .pv (i64 i))] ∧ S = [some ⟨3, 1, dI ys⟩]) ⟨_, 0, List.replicate xs.length 0, rfl, (by first | omega | (intros; omega) | simp), rfl, (by simp), rfl, (by simp)⟩ ?_
  rintro mz _ _ ⟨i, ys, hmeas, g0, g1, g2, rfl, rfl⟩
  refine VS_seq ?_
  refine VS_r0 rfl ?_
  refine q_lss rfl rfl ?_
  refine rg_nil ?_
  refine VS_seq ?_
  refine VS_cond rfl (fun c0 => ?_) (fun c0 => ?_)
  · try simp at c0
    refine VS_skip ?_
    refine VS_seq ?_
    refine VS_block ?_
    refine VS_seq ?_
    refine VS_r0 rfl ?_
    refine q_mv rfl ?_
    first | refine q_idx_c _ rfl rfl (by omega) (fun _ => rfl) ?_ | refine q_idx_m rfl rfl (by omega) (by omega) (fun _ => rfl) ?_ | refine q_idx_om rfl rfl (by omega) (by omega) rfl rfl ?_
    first | refine q_load_c rfl rfl rfl ?_ | refine q_load_ra rfl rfl rfl rfl rfl (by first | (simp; done) | (simp [setAt]; done)) rfl ?_
    refine q_alloc (by first | exact trivial | exact Sub.nil | exact Sub.refl _ | exact Sub.app _ _ | exact SubL.sub (by repeat (first | exact SubL.nil | apply SubL.none | apply SubL.some | apply SubL.sh | apply SubL.eq)) | (refine Sub.of_eq ?_; intro o ob h; rcases o with _ | _ | _ | _ | _ | o <;> simp_all)) ?_
    refine q_mv rfl ?_
    first | refine q_store rfl rfl rfl rfl rfl rfl ⟨rfl, rfl, by simp, rfl, by simp [isOne]⟩ rfl (by first | exact trivial | exact Sub.nil | exact Sub.refl _ | exact Sub.app _ _ | exact SubL.sub (by repeat (first | exact SubL.nil | apply SubL.none | apply SubL.some | apply SubL.sh | apply SubL.eq)) | (refine Sub.of_eq ?_; intro o ob h; rcases o with _ | _ | _ | _ | _ | o <;> simp_all)) ?_ | refine q_storeF rfl rfl rfl rfl rfl (by simp) (by first | exact trivial | exact Sub.nil | exact Sub.refl _ | exact Sub.app _ _ | exact SubL.sub (by repeat (first | exact SubL.nil | apply SubL.none | apply SubL.some | apply SubL.sh | apply SubL.eq)) | (refine Sub.of_eq ?_; intro o ob h; rcases o with _ | _ | _ | _ | _ | o <;> simp_all)) ?_ | refine q_store rfl rfl rfl rfl rfl rfl ⟨rfl, rfl, by simp, by simp [setAt, isCell_own, isCell_sl, isCell_int, isCell_nils], by simp [isOne]⟩ rfl (by first | exact trivial | exact Sub.nil | exact Sub.refl _ | exact Sub.app _ _ | exact SubL.sub (by repeat (first | exact SubL.nil | apply SubL.none | apply SubL.some | apply SubL.sh | apply SubL.eq)) | (refine Sub.of_eq ?_; intro o ob h; rcases o with _ | _ | _ | _ | _ | o <;> simp_all)) ?_
    refine rg_nil ?_
    refine VS_r0 rfl ?_
    refine q_mv rfl ?_
    refine q_mv rfl ?_
    first | refine q_fld_r rfl ?_ | refine q_fld_c rfl rfl ?_
    first | refine q_load_c rfl rfl rfl ?_ | refine q_load_r rfl rfl rfl rfl rfl rfl rfl ?_ | refine q_load_o rfl rfl rfl rfl rfl ?_
    refine q_idx_o rfl rfl (by omega) (by omega) rfl rfl ?_
    refine q_store_e (xs := ys) rfl rfl rfl (by omega) trivial ?_
    refine rg_nil ?_
    refine VS_r0 rfl ?_
    refine q_add rfl rfl (inR64 (by omega)) ?_
    refine q_mv rfl ?_
    refine rg_nil ?_
    refine Bd.renL [0] (fun i hi => by first | (exact absurd hi (Nat.not_lt_zero i)) | (have e : i = 0 := (by simp at hi; omega); subst e; rfl) | (have e : i = 0 ∨ i = 1 := (by simp at hi; omega); rcases e with rfl | rfl <;> rfl)) (by simp) [(0, .pv (prs xs)), (3, .own 0 xs.length), (9, .pv (prs xs)), (10, .pv (i64 xs.length)), (11, .pv (i64 (i + 1)))] ⟨rfl, rfl, rfl, rfl, rfl, trivial⟩ (l1 (mpO_I _)) ⟨_, ?_, i + 1, ys.set i (nth xs i).1, rfl, ?_, ?_, ?_, rfl, rfl⟩
    · first | omega | assumption | rfl | (simp; omega)
    · first | omega | assumption | rfl | (simp; omega)
    · exact set_step (by omega) (by omega) g1
    · simp; omega
  · try simp at c0
    refine VS_exit ?_
    refine VS_seq ?_
    refine VS_r0 rfl ?_
    refine q_mv rfl ?_
    refine q_mv rfl ?_
    refine rg_nil ?_
    refine VS_ret ?_
    have e : i = xs.length := by omega
    subst e
    rw [List.take_length, List.take_of_length_le (by omega)] at g1
    subst g1
    refine Bd.pureOB 2 0 rfl rfl (by simp) (toPVs_dI _) ?_
    exact Bd.now ⟨_, rfl, rfl⟩
theorem c_impl_ValidRow (xs : List (Int × Int)) (hl : xs.length ≤ 100000000) : PCon prog 31 [prs xs] (fun p => p = .bool (goodR xs)) := by
  refine con_of_VS sl_impl_ValidRow (by simp) ?_
  refine VS_seq ?_
  refine VS_r0 rfl ?_
  refine q_mv rfl ?_
  refine rg_nil ?_
  refine VS_seq ?_
  refine VS_seq ?_
  refine VS_r0 rfl ?_
  refine q_mv rfl ?_
  first | refine q_len_m rfl ?_ | refine q_len_s rfl ?_ | refine q_len_o rfl ?_ | refine q_len_n rfl ?_ | refine q_len_x rfl ?_
  refine q_gtr rfl rfl ?_
  refine rg_nil ?_
  refine VS_cond rfl (fun c0 => ?_) (fun c0 => ?_)
  · try simp at c0
    refine VS_seq ?_
    refine VS_r0 rfl ?_
    refine q_mv rfl ?_
    refine rg_nil ?_
    refine VS_ret ?_
    refine Bd.now ⟨_, rfl, congrArg PV.bool ?_⟩
    have : ¬ xs.length ≤ 24 := by omega
    simp [goodR, this]
  · try simp at c0
    refine VS_skip ?_
    refine VS_seq ?_
    refine VS_seq ?_
    refine VS_r0 rfl ?_
    refine q_mv rfl ?_
    first | refine q_len_m rfl ?_ | refine q_len_s rfl ?_ | refine q_len_o rfl ?_ | refine q_len_n rfl ?_ | refine q_len_x rfl ?_
    refine q_mv rfl ?_
    refine rg_nil ?_
    refine VS_block ?_
    refine VS_bd (Bd.keepL [(0, .pv (prs xs)), (2, .pv (.bool false)), (8, .pv (prs xs)), (9, .pv (i64 xs.length)), (10, .pv (i64 0))] ⟨rfl, rfl, rfl, rfl, rfl, trivial⟩ ?_)
    refine VS_loop (fun mz E S => ∃ i : Nat, mz = xs.length - i ∧ (i ≤ xs.length) ∧ (∀ j, j < i → (decide (-1000 ≤ (nth xs j).2) && decide ((nth xs j).2 ≤ 1000)) = true) ∧ E = env [(0, .pv (prs xs)), (2, .pv (.bool false)), (8, .pv (prs xs)), (9, .pv (i64 xs.length)), (10, .pv (i64 i))] ∧ S = []) ⟨_, 0, rfl, (by first | omega | (intros; omega) | simp), (by first | omega | (intros; omega) | simp), rfl, rfl⟩ ?_
    rintro mz _ _ ⟨i, hmeas, g0, g1, rfl, rfl⟩
    refine VS_seq ?_
    refine VS_r0 rfl ?_
    refine q_lss rfl rfl ?_
    refine rg_nil ?_
    refine VS_seq ?_
    refine VS_cond rfl (fun c1 => ?_) (fun c1 => ?_)
    · try simp at c1
      refine VS_skip ?_
      refine VS_seq ?_
      refine VS_block ?_
      refine VS_seq ?_
      refine VS_r0 rfl ?_
      first | refine q_idx_c _ rfl rfl (by omega) (fun _ => rfl) ?_ | refine q_idx_m rfl rfl (by omega) (by omega) (fun _ => rfl) ?_ | refine q_idx_om rfl rfl (by omega) (by omega) rfl rfl ?_
      first | refine q_load_c rfl rfl rfl ?_ | refine q_load_ra rfl rfl rfl rfl rfl (by first | (simp; done) | (simp [setAt]; done)) rfl ?_
      refine q_alloc (by first | exact trivial | exact Sub.nil | exact Sub.refl _ | exact Sub.app _ _ | exact SubL.sub (by repeat (first | exact SubL.nil | apply SubL.none | apply SubL.some | apply SubL.sh | apply SubL.eq)) | (refine Sub.of_eq ?_; intro o ob h; rcases o with _ | _ | _ | _ | _ | o <;> simp_all)) ?_
      first | refine q_store rfl rfl rfl rfl rfl rfl ⟨rfl, rfl, by simp, rfl, by simp [isOne]⟩ rfl (by first | exact trivial | exact Sub.nil | exact Sub.refl _ | exact Sub.app _ _ | exact SubL.sub (by repeat (first | exact SubL.nil | apply SubL.none | apply SubL.some | apply SubL.sh | apply SubL.eq)) | (refine Sub.of_eq ?_; intro o ob h; rcases o with _ | _ | _ | _ | _ | o <;> simp_all)) ?_ | refine q_storeF rfl rfl rfl rfl rfl (by simp) (by first | exact trivial | exact Sub.nil | exact Sub.refl _ | exact Sub.app _ _ | exact SubL.sub (by repeat (first | exact SubL.nil | apply SubL.none | apply SubL.some | apply SubL.sh | apply SubL.eq)) | (refine Sub.of_eq ?_; intro o ob h; rcases o with _ | _ | _ | _ | _ | o <;> simp_all)) ?_ | refine q_store rfl rfl rfl rfl rfl rfl ⟨rfl, rfl, by simp, by simp [setAt, isCell_own, isCell_sl, isCell_int, isCell_nils], by simp [isOne]⟩ rfl (by first | exact trivial | exact Sub.nil | exact Sub.refl _ | exact Sub.app _ _ | exact SubL.sub (by repeat (first | exact SubL.nil | apply SubL.none | apply SubL.some | apply SubL.sh | apply SubL.eq)) | (refine Sub.of_eq ?_; intro o ob h; rcases o with _ | _ | _ | _ | _ | o <;> simp_all)) ?_
      refine rg_nil ?_
      refine VS_seq ?_
      refine VS_r0 rfl ?_
      first | refine q_fld_r rfl ?_ | refine q_fld_c rfl rfl ?_
      first | refine q_load_c rfl rfl rfl ?_ | refine q_load_r rfl rfl rfl rfl rfl rfl rfl ?_ | refine q_load_o rfl rfl rfl rfl rfl ?_
      refine q_callp (c_impl_isValue _) rfl (by first | exact trivial | exact Sub.nil | exact Sub.refl _ | exact Sub.app _ _ | exact SubL.sub (by repeat (first | exact SubL.nil | apply SubL.none | apply SubL.some | apply SubL.sh | apply SubL.eq)) | (refine Sub.of_eq ?_; intro o ob h; rcases o with _ | _ | _ | _ | _ | o <;> simp_all)) ?_
      refine q_not rfl ?_
      refine rg_nil ?_
      refine VS_cond rfl (fun c2 => ?_) (fun c2 => ?_)
      · try simp at c2
        refine VS_seq ?_
        refine VS_r0 rfl ?_
        refine q_mv rfl ?_
        refine rg_nil ?_
        refine VS_ret ?_
        refine Bd.now ⟨_, rfl, congrArg PV.bool ?_⟩
        rw [goodR, okVals_false i (by omega) (by simp; omega)]; rfl
      · try simp at c2
        refine VS_skip ?_
        refine VS_r0 rfl ?_
        refine q_add rfl rfl (inR64 (by omega)) ?_
        refine q_mv rfl ?_
        refine rg_nil ?_
        refine Bd.renL [] (fun i hi => by first | (exact absurd hi (Nat.not_lt_zero i)) | (have e : i = 0 := (by simp at hi; omega); subst e; rfl) | (have e : i = 0 ∨ i = 1 := (by simp at hi; omega); rcases e with rfl | rfl <;> rfl)) (by simp) [(0, .pv (prs xs)), (2, .pv (.bool false)), (8, .pv (prs xs)), (9, .pv (i64 xs.length)), (10, .pv (i64 (i + 1)))] ⟨rfl, rfl, rfl, rfl, rfl, trivial⟩ rfl ⟨_, ?_, i + 1, rfl, ?_, ?_, rfl, rfl⟩
        · first | omega | assumption | rfl | (simp; omega)
        · first | omega | assumption | rfl | (simp; omega)
        · intro j hj
          by_cases e : j = i
          · subst e; simp_all
          · exact g1 j (by omega)
    · try simp at c1
      refine VS_exit ?_
      refine VS_seq ?_
      refine VS_r0 rfl ?_
      refine q_mv rfl ?_
      refine q_callp (c_impl_keysOfRow xs hl) rfl (by first | exact trivial | exact Sub.nil | exact Sub.refl _ | exact Sub.app _ _ | exact SubL.sub (by repeat (first | exact SubL.nil | apply SubL.none | apply SubL.some | apply SubL.sh | apply SubL.eq)) | (refine Sub.of_eq ?_; intro o ob h; rcases o with _ | _ | _ | _ | _ | o <;> simp_all)) ?_
      refine q_callp (c_impl_ValidKeys (keysR xs) (by simp; omega)) rfl (by first | exact trivial | exact Sub.nil | exact Sub.refl _ | exact Sub.app _ _ | exact SubL.sub (by repeat (first | exact SubL.nil | apply SubL.none | apply SubL.some | apply SubL.sh | apply SubL.eq)) | (refine Sub.of_eq ?_; intro o ob h; rcases o with _ | _ | _ | _ | _ | o <;> simp_all)) ?_
      refine q_mv rfl ?_
      refine rg_nil ?_
      refine VS_ret ?_
      refine Bd.now ⟨_, rfl, congrArg PV.bool ?_⟩
      have : xs.length ≤ 24 := by omega
      rw [goodR, okVals_true fun j hj => g1 j (by omega)]; simp [this]
end Go.V
