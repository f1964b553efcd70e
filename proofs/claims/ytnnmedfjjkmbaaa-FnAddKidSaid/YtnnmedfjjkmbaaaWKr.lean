/- A part of the proofs about laws of the page tree (see the text that bears the law): a small language of steps, its rules, and what the functions of the program return. -/
import Derived.Test.YtnnmedfjjkmbaaaWKn
import Derived.Test.YtnnmedfjjkmbaaaWKd
import Derived.Test.YtnnmedfjjkmbaaaPY
set_option linter.all false
set_option linter.unusedVariables false
set_option linter.unusedSimpArgs false
set_option maxHeartbeats 4000000
namespace Go.V
open Go.Proofs.Try (prog)
theorem c_slices_Clone_int_p (xs : List Int) (hl : xs.length ≤ 1000000000) : PCon prog 58 [ints xs] (fun p => p = ints xs) := by
  refine con_of_VS sl_slices_Clone_int (by simp) ?_
  refine VS_seq ?_
  refine VS_r0 rfl ?_
  refine q_mv rfl ?_
  refine rg_nil ?_
  refine VS_seq ?_
  refine VS_seq ?_
  refine VS_r0 rfl ?_
  refine q_mv rfl ?_
  refine q_isnil_m rfl (by first | exact trivial | exact Sub.nil | exact Sub.refl _ | exact Sub.app _ _ | exact SubL.sub (by repeat (first | exact SubL.nil | apply SubL.none | apply SubL.some | apply SubL.sh | apply SubL.eq)) | (refine Sub.of_eq ?_; intro o ob h; rcases o with _ | _ | _ | _ | _ | o <;> simp_all)) ?_ ?_
  · skip
    refine rg_nil ?_
    refine VS_cond rfl (fun e => by cases e) (fun _ => ?_)
    refine VS_skip ?_
    refine VS_seq ?_
    refine VS_r0 rfl ?_
    refine q_lit0 ?_
    refine q_mv rfl ?_
    refine q_app_zm (ys := xs) (f := fun k => .pv (i64 k)) rfl (elems_I xs) (cell_I xs) ⟨by omega, by omega⟩ (by first | exact trivial | exact Sub.nil | exact Sub.refl _ | exact Sub.app _ _ | exact SubL.sub (by repeat (first | exact SubL.nil | apply SubL.none | apply SubL.some | apply SubL.sh | apply SubL.eq)) | (refine Sub.of_eq ?_; intro o ob h; rcases o with _ | _ | _ | _ | _ | o <;> simp_all)) ?_
    refine q_mv rfl ?_
    refine rg_nil ?_
    refine VS_ret ?_
    refine Bd.pureB 2 0 3 1 (xs := dI xs) rfl rfl (toPVs_dI _) ?_
    exact Bd.now ⟨_, rfl, rfl⟩
  · intro hn
    rw [List.map_eq_nil_iff] at hn
    subst hn
    refine rg_nil ?_
    refine VS_cond rfl (fun _ => ?_) (fun e => by cases e)
    refine VS_seq ?_
    refine VS_r0 rfl ?_
    refine q_mv rfl ?_
    refine rg_nil ?_
    refine VS_ret ?_
    exact Bd.now ⟨_, rfl, rfl⟩
theorem c_slices_Clone_Pair_p (xs : List (Int × Int)) (hl : xs.length ≤ 1000000000) : PCon prog 81 [prs xs] (fun p => p = prs xs) := by
  refine con_of_VS sl_slices_Clone_Pair (by simp) ?_
  refine VS_seq ?_
  refine VS_r0 rfl ?_
  refine q_mv rfl ?_
  refine rg_nil ?_
  refine VS_seq ?_
  refine VS_seq ?_
  refine VS_r0 rfl ?_
  refine q_mv rfl ?_
  refine q_isnil_m rfl (by first | exact trivial | exact Sub.nil | exact Sub.refl _ | exact Sub.app _ _ | exact SubL.sub (by repeat (first | exact SubL.nil | apply SubL.none | apply SubL.some | apply SubL.sh | apply SubL.eq)) | (refine Sub.of_eq ?_; intro o ob h; rcases o with _ | _ | _ | _ | _ | o <;> simp_all)) ?_ ?_
  · skip
    refine rg_nil ?_
    refine VS_cond rfl (fun e => by cases e) (fun _ => ?_)
    refine VS_skip ?_
    refine VS_seq ?_
    refine VS_r0 rfl ?_
    refine q_lit0 ?_
    refine q_mv rfl ?_
    refine q_app_zm (ys := xs) (f := fun k => .pv (pairP k)) rfl (elems_P xs) (cell_P xs) ⟨by omega, by omega⟩ (by first | exact trivial | exact Sub.nil | exact Sub.refl _ | exact Sub.app _ _ | exact SubL.sub (by repeat (first | exact SubL.nil | apply SubL.none | apply SubL.some | apply SubL.sh | apply SubL.eq)) | (refine Sub.of_eq ?_; intro o ob h; rcases o with _ | _ | _ | _ | _ | o <;> simp_all)) ?_
    refine q_mv rfl ?_
    refine rg_nil ?_
    refine VS_ret ?_
    refine Bd.pureB 2 0 25 2 (xs := dP xs) rfl rfl (toPVs_dP _) ?_
    exact Bd.now ⟨_, rfl, rfl⟩
  · intro hn
    rw [List.map_eq_nil_iff] at hn
    subst hn
    refine rg_nil ?_
    refine VS_cond rfl (fun _ => ?_) (fun e => by cases e)
    refine VS_seq ?_
    refine VS_r0 rfl ?_
    refine q_mv rfl ?_
    refine rg_nil ?_
    refine VS_ret ?_
    exact Bd.now ⟨_, rfl, rfl⟩
theorem c_spec_copyInts_p (xs : List Int) (hl : xs.length ≤ 1000000000) : PCon prog 85 [ints xs] (fun p => p = ints xs) := by
  refine con_of_VS sl_spec_copyInts (by simp) ?_
  refine VS_seq ?_
  refine VS_r0 rfl ?_
  refine q_mv rfl ?_
  refine rg_nil ?_
  refine VS_seq ?_
  refine VS_r0 rfl ?_
  refine q_lit0 ?_
  refine q_mv rfl ?_
  refine q_app_zm (ys := xs) (f := fun k => .pv (i64 k)) rfl (elems_I xs) (cell_I xs) ⟨by omega, by omega⟩ (by first | exact trivial | exact Sub.nil | exact Sub.refl _ | exact Sub.app _ _ | exact SubL.sub (by repeat (first | exact SubL.nil | apply SubL.none | apply SubL.some | apply SubL.sh | apply SubL.eq)) | (refine Sub.of_eq ?_; intro o ob h; rcases o with _ | _ | _ | _ | _ | o <;> simp_all)) ?_
  refine q_mv rfl ?_
  refine rg_nil ?_
  refine VS_ret ?_
  refine Bd.pureB 2 0 3 1 (xs := dI xs) rfl rfl (toPVs_dI _) ?_
  exact Bd.now ⟨_, rfl, rfl⟩
theorem c_spec_copyRow_p (xs : List (Int × Int)) (hl : xs.length ≤ 100000000) : PCon prog 68 [prs xs] (fun p => p = prs xs) := by
  refine con_of_VS sl_spec_copyRow (by simp) ?_
  refine VS_seq ?_
  refine VS_r0 rfl ?_
  refine q_mv rfl ?_
  refine rg_nil ?_
  refine VS_seq ?_
  refine VS_r0 rfl ?_
  refine q_lit0 ?_
  refine q_mv rfl ?_
  refine q_app_zm (ys := xs) (f := fun k => .pv (pairP k)) rfl (elems_P xs) (cell_P xs) ⟨by omega, by omega⟩ (by first | exact trivial | exact Sub.nil | exact Sub.refl _ | exact Sub.app _ _ | exact SubL.sub (by repeat (first | exact SubL.nil | apply SubL.none | apply SubL.some | apply SubL.sh | apply SubL.eq)) | (refine Sub.of_eq ?_; intro o ob h; rcases o with _ | _ | _ | _ | _ | o <;> simp_all)) ?_
  refine q_mv rfl ?_
  refine rg_nil ?_
  refine VS_ret ?_
  refine Bd.pureB 2 0 25 2 (xs := dP xs) rfl rfl (toPVs_dP _) ?_
  exact Bd.now ⟨_, rfl, rfl⟩
end Go.V
