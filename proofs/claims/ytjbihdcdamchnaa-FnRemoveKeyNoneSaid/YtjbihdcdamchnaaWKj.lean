/- A part of the proofs about laws of the page tree (see the text that bears the law): a small language of steps, its rules, and what the functions of the program return. -/
import Derived.Test.YtjbihdcdamchnaaWKi
set_option linter.all false
set_option linter.unusedVariables false
set_option linter.unusedSimpArgs false
set_option maxHeartbeats 4000000
namespace Go.V
open Go.Proofs.Try (prog)
theorem c_impl_placeInRow (xs : List (Int × Int)) (k : Int) (hl : xs.length ≤ 100000000) (hg : goodKeys (keysR xs) = true) : PCon prog 60 [prs xs, i64 k] (fun p => p = .tup [i64 (atR xs k), .bool (thereR xs k)]) := by
  refine con_of_VS sl_impl_placeInRow (by simp) ?_
  refine VS_seq ?_
  refine VS_r0 rfl ?_
  refine q_mv rfl ?_
  refine q_mv rfl ?_
  refine rg_nil ?_
  refine VS_seq ?_
  refine VS_r0 rfl ?_
  refine q_mv rfl ?_
  refine q_callp (c_impl_keysOfRow xs hl) rfl (by first | exact trivial | exact Sub.nil | exact Sub.refl _ | exact Sub.app _ _ | exact SubL.sub (by repeat (first | exact SubL.nil | apply SubL.none | apply SubL.some | apply SubL.sh | apply SubL.eq)) | (refine Sub.of_eq ?_; intro o ob h; rcases o with _ | _ | _ | _ | _ | o <;> simp_all)) ?_
  refine q_mv rfl ?_
  refine q_callp ((c_impl_KeysBelow (keysR xs) k (by simp; omega)).to (y := i64 (atR xs k)) (by rw [if_pos hg]; rfl)) rfl (by first | exact trivial | exact Sub.nil | exact Sub.refl _ | exact Sub.app _ _ | exact SubL.sub (by repeat (first | exact SubL.nil | apply SubL.none | apply SubL.some | apply SubL.sh | apply SubL.eq)) | (refine Sub.of_eq ?_; intro o ob h; rcases o with _ | _ | _ | _ | _ | o <;> simp_all)) ?_
  refine q_mv rfl ?_
  refine rg_nil ?_
  refine VS_seq ?_
  refine VS_r1 hmix rfl ?_
  refine q_mv rfl ?_
  refine q_mv rfl ?_
  refine q_geq_v true rfl rfl (decide_eq_true (by omega)) ?_
  refine q_mv rfl ?_
  refine q_t rfl ?_
  refine q_mv rfl ?_
  refine q_t rfl ?_
  refine q_mv rfl ?_
  refine q_t rfl ?_
  first | refine q_len_m rfl ?_ | refine q_len_s rfl ?_ | refine q_len_o rfl ?_ | refine q_len_n rfl ?_ | refine q_len_x rfl ?_
  refine q_t rfl ?_
  refine q_lss rfl rfl ?_
  refine q_pick_t rfl rfl ?_
  refine q_mv rfl ?_
  refine q_b rfl (fun g20 => ?_) (fun g20 => ?_)
  · try simp at g20
    refine q_t rfl ?_
    refine q_mv rfl ?_
    refine q_t rfl ?_
    refine q_mv rfl ?_
    refine q_t rfl ?_
    first | refine q_idx_c _ rfl rfl (by omega) (fun _ => rfl) ?_ | refine q_idx_m rfl rfl (by omega) (by omega) (fun _ => rfl) ?_ | refine q_idx_om rfl rfl (by omega) (by omega) rfl rfl ?_
    refine q_t rfl ?_
    first | refine q_fld_r rfl ?_ | refine q_fld_c rfl rfl ?_
    refine q_t rfl ?_
    first | refine q_load_c rfl rfl rfl ?_ | refine q_load_r rfl rfl rfl rfl rfl rfl rfl ?_ | refine q_load_o rfl rfl rfl rfl rfl ?_
    refine q_t rfl ?_
    refine q_mv rfl ?_
    refine q_t rfl ?_
    refine q_eql rfl rfl ?_
    refine q_pick_t rfl rfl ?_
    refine q_mv rfl ?_
    refine q_mv rfl ?_
    refine rg_nil ?_
    refine VS_ret ?_
    refine Bd.now ⟨_, rfl, ?_⟩
    first | rw [thereR, decide_eq_true (by omega), Bool.true_and] | rw [thereR, decide_eq_false (by omega), Bool.false_and]
  · try simp at g20
    refine q_f rfl ?_
    refine q_f rfl ?_
    refine q_f rfl ?_
    refine q_f rfl ?_
    refine q_f rfl ?_
    refine q_f rfl ?_
    refine q_f rfl ?_
    refine q_pick_f rfl rfl ?_
    refine q_mv rfl ?_
    refine q_mv rfl ?_
    refine rg_nil ?_
    refine VS_ret ?_
    refine Bd.now ⟨_, rfl, ?_⟩
    first | rw [thereR, decide_eq_true (by omega), Bool.true_and] | rw [thereR, decide_eq_false (by omega), Bool.false_and]
theorem c_impl_ValueIn (xs : List (Int × Int)) (k : Int) (hl : xs.length ≤ 100000000) : PCon prog 25 [prs xs, i64 k] (fun p => p = valR xs k) := by
  refine con_of_VS sl_impl_ValueIn (by simp) ?_
  refine VS_seq ?_
  refine VS_r0 rfl ?_
  refine q_mv rfl ?_
  refine q_mv rfl ?_
  refine rg_nil ?_
  refine VS_seq ?_
  refine VS_seq ?_
  refine VS_r0 rfl ?_
  refine q_mv rfl ?_
  refine q_callp (c_impl_ValidRow xs hl) rfl (by first | exact trivial | exact Sub.nil | exact Sub.refl _ | exact Sub.app _ _ | exact SubL.sub (by repeat (first | exact SubL.nil | apply SubL.none | apply SubL.some | apply SubL.sh | apply SubL.eq)) | (refine Sub.of_eq ?_; intro o ob h; rcases o with _ | _ | _ | _ | _ | o <;> simp_all)) ?_
  refine q_not rfl ?_
  refine rg_nil ?_
  refine VS_cond rfl (fun c0 => ?_) (fun c0 => ?_)
  · try simp at c0
    refine VS_seq ?_
    refine VS_r0 rfl ?_
    refine q_mv rfl ?_
    refine q_mv rfl ?_
    refine rg_nil ?_
    refine VS_ret ?_
    exact Bd.now ⟨_, rfl, by rw [valR, if_neg (by simp [c0])]⟩
  · try simp at c0
    refine VS_skip ?_
    refine VS_seq ?_
    refine VS_r0 rfl ?_
    refine q_mv rfl ?_
    refine q_mv rfl ?_
    refine q_callp (c_impl_placeInRow xs k hl (goodR_keys c0)) rfl (by first | exact trivial | exact Sub.nil | exact Sub.refl _ | exact Sub.app _ _ | exact SubL.sub (by repeat (first | exact SubL.nil | apply SubL.none | apply SubL.some | apply SubL.sh | apply SubL.eq)) | (refine Sub.of_eq ?_; intro o ob h; rcases o with _ | _ | _ | _ | _ | o <;> simp_all)) ?_
    refine q_mv rfl ?_
    refine q_ext rfl rfl ?_
    refine q_ext rfl rfl ?_
    refine q_mv rfl ?_
    refine q_mv rfl ?_
    refine rg_nil ?_
    refine VS_seq ?_
    refine VS_seq ?_
    refine VS_r0 rfl ?_
    refine q_mv rfl ?_
    refine q_not rfl ?_
    refine rg_nil ?_
    refine VS_cond rfl (fun c1 => ?_) (fun c1 => ?_)
    · try simp at c1
      refine VS_seq ?_
      refine VS_r0 rfl ?_
      refine q_mv rfl ?_
      refine q_mv rfl ?_
      refine rg_nil ?_
      refine VS_ret ?_
      exact Bd.now ⟨_, rfl, by rw [valR, if_neg (by simp_all)]⟩
    · try simp at c1
      have ht : thereR xs k = true := by simpa using c1
      have ht2 := thereR_lt ht
      refine VS_skip ?_
      refine VS_seq ?_
      refine VS_r0 rfl ?_
      refine q_mv rfl ?_
      refine q_mv rfl ?_
      first | refine q_idx_c _ rfl rfl (by omega) (fun _ => rfl) ?_ | refine q_idx_m rfl rfl (by omega) (by omega) (fun _ => rfl) ?_ | refine q_idx_om rfl rfl (by omega) (by omega) rfl rfl ?_
      first | refine q_fld_r rfl ?_ | refine q_fld_c rfl rfl ?_
      first | refine q_load_c rfl rfl rfl ?_ | refine q_load_r rfl rfl rfl rfl rfl rfl rfl ?_ | refine q_load_o rfl rfl rfl rfl rfl ?_
      refine q_mv rfl ?_
      refine q_mv rfl ?_
      refine rg_nil ?_
      refine VS_ret ?_
      exact Bd.now ⟨_, rfl, by rw [valR, if_pos (by simp [c0, ht])]⟩
theorem c_spec_put (xs : List (Int × Int)) (a b : Int) (hl : xs.length ≤ 1000000) : NewS prog 84 43 2 [prs xs, pairP (a, b)] (dP (putR xs (a, b))) := by
  refine callS_of_VS sl_spec_put (by simp) ?_
  refine VS_seq ?_
  refine VS_r0 rfl ?_
  refine q_box rfl rfl rfl (by first | exact trivial | exact Sub.nil | exact Sub.refl _ | exact Sub.app _ _ | exact SubL.sub (by repeat (first | exact SubL.nil | apply SubL.none | apply SubL.some | apply SubL.sh | apply SubL.eq)) | (refine Sub.of_eq ?_; intro o ob h; rcases o with _ | _ | _ | _ | _ | o <;> simp_all)) ?_
  refine q_mv rfl ?_
  refine rg_nil ?_
  refine VS_seq ?_
  refine VS_r2 [some ⟨43, 2, [.pv (pairP (a, b))]⟩] hmix (SubL.sub (by repeat (first | exact SubL.nil | apply SubL.none | apply SubL.some | apply SubL.sh | apply SubL.eq))) ?_
  refine q_mv rfl ?_
  first | refine q_fld_r rfl ?_ | refine q_fld_c rfl rfl ?_
  first | refine q_load_c rfl rfl rfl ?_ | refine q_load_r rfl rfl rfl rfl rfl rfl rfl ?_ | refine q_load_o rfl rfl rfl rfl rfl ?_
  refine q_callp (c_spec_keysOf xs (by omega)) rfl (by first | exact trivial | exact Sub.nil | exact Sub.refl _ | exact Sub.app _ _ | exact SubL.sub (by repeat (first | exact SubL.nil | apply SubL.none | apply SubL.some | apply SubL.sh | apply SubL.eq)) | (refine Sub.of_eq ?_; intro o ob h; rcases o with _ | _ | _ | _ | _ | o <;> simp_all)) ?_
  refine q_callp ((c_spec_below (keysR xs) a (by simp; omega)).to (y := i64 (atR xs a)) rfl) rfl (by first | exact trivial | exact Sub.nil | exact Sub.refl _ | exact Sub.app _ _ | exact SubL.sub (by repeat (first | exact SubL.nil | apply SubL.none | apply SubL.some | apply SubL.sh | apply SubL.eq)) | (refine Sub.of_eq ?_; intro o ob h; rcases o with _ | _ | _ | _ | _ | o <;> simp_all)) ?_
  refine q_mv rfl ?_
  refine rg_nil ?_
  refine VS_seq ?_
  have hat := atR_le xs a
  refine VS_r2 [some ⟨43, 2, [.pv (pairP (a, b))]⟩] hmix (SubL.sub (by repeat (first | exact SubL.nil | apply SubL.none | apply SubL.some | apply SubL.sh | apply SubL.eq))) ?_
  refine q_mv rfl ?_
  refine q_mv rfl ?_
  refine q_slc_m (xs := xs) (f := pairP) 0 (atR xs a) rfl rfl rfl ⟨rfl, rfl, by omega, by omega⟩ (fun _ => rfl) ?_
  first | refine q_load_c rfl rfl rfl ?_ | refine q_load_ra rfl rfl rfl rfl rfl (by first | (simp; done) | (simp [setAt]; done)) rfl ?_
  refine q_lit rfl rfl rfl rfl ?_
  refine q_new rfl (c_spec_copyRow ((xs.take (atR xs a)).drop 0) (by simp; omega)) (flat_P _) (by first | rfl | (repeat' (first | exact toRs_nil | refine toRs_cons ?_ ?_ | rfl | exact toR_I rfl | exact toR_P rfl | refine toR_agg2 ?_ ?_ | refine toR_agg3 ?_ ?_ ?_))) (by first | exact trivial | exact Sub.nil | exact Sub.refl _ | exact Sub.app _ _ | exact SubL.sub (by repeat (first | exact SubL.nil | apply SubL.none | apply SubL.some | apply SubL.sh | apply SubL.eq)) | (refine Sub.of_eq ?_; intro o ob h; rcases o with _ | _ | _ | _ | _ | o <;> simp_all)) ?_
  refine q_app_dm (xs := (xs.take (atR xs a)).drop 0) (ys := [(a, b)]) (f := fun k => .pv (pairP k)) rfl rfl rfl rfl ⟨by simp; omega, by simp; omega⟩ (by first | exact trivial | exact Sub.nil | exact Sub.refl _ | exact Sub.app _ _ | exact SubL.sub (by repeat (first | exact SubL.nil | apply SubL.none | apply SubL.some | apply SubL.sh | apply SubL.eq)) | (refine Sub.of_eq ?_; intro o ob h; rcases o with _ | _ | _ | _ | _ | o <;> simp_all)) ?_
  refine q_mv rfl ?_
  refine rg_nil ?_
  refine VS_seq ?_
  refine VS_seq ?_
  refine VS_r1 hmix rfl ?_
  refine q_mv rfl ?_
  refine q_mv rfl ?_
  first | refine q_len_m rfl ?_ | refine q_len_s rfl ?_ | refine q_len_o rfl ?_ | refine q_len_n rfl ?_ | refine q_len_x rfl ?_
  refine q_lss rfl rfl ?_
  refine q_mv rfl ?_
  refine q_b rfl (fun g23 => ?_) (fun g23 => ?_)
  · try simp at g23
    refine q_t rfl ?_
    refine q_mv rfl ?_
    refine q_t rfl ?_
    refine q_mv rfl ?_
    refine q_t rfl ?_
    first | refine q_idx_c _ rfl rfl (by omega) (fun _ => rfl) ?_ | refine q_idx_m rfl rfl (by omega) (by omega) (fun _ => rfl) ?_ | refine q_idx_om rfl rfl (by omega) (by omega) rfl rfl ?_
    refine q_t rfl ?_
    first | refine q_fld_r rfl ?_ | refine q_fld_c rfl rfl ?_
    refine q_t rfl ?_
    first | refine q_load_c rfl rfl rfl ?_ | refine q_load_r rfl rfl rfl rfl rfl rfl rfl ?_ | refine q_load_o rfl rfl rfl rfl rfl ?_
    refine q_t rfl ?_
    first | refine q_fld_r rfl ?_ | refine q_fld_c rfl rfl ?_
    refine q_t rfl ?_
    first | refine q_load_c rfl rfl rfl ?_ | refine q_load_r rfl rfl rfl rfl rfl rfl rfl ?_ | refine q_load_o rfl rfl rfl rfl rfl ?_
    refine q_t rfl ?_
    refine q_eql rfl rfl ?_
    refine q_pick_t rfl rfl ?_
    refine rg_nil ?_
    refine VS_cond rfl (fun c0 => ?_) (fun c0 => ?_)
    · try simp at c0
      have ht : thereR xs a = true := by simp_all [thereR]
      refine VS_r0 rfl ?_
      refine q_mv rfl ?_
      refine q_add rfl rfl (inR64 (by omega)) ?_
      refine q_mv rfl ?_
      refine rg_nil ?_
      refine VS_seq ?_
      refine VS_r0 rfl ?_
      refine q_mv rfl ?_
      refine q_mv rfl ?_
      refine q_mv rfl ?_
      first
        | fail
        | refine q_slc_m (xs := xs) (f := pairP) (atR xs a + (if thereR xs a then 1 else 0)) xs.length rfl rfl rfl ⟨by rw [ht]; simp, by simp, by rw [ht]; simp; omega, Nat.le_refl _⟩ (fun _ => rfl) ?_
      first
        | refine q_app_dm (xs := (xs.take (atR xs a)).drop 0 ++ [(a, b)]) (ys := (xs.take xs.length).drop (atR xs a + (if thereR xs a then 1 else 0))) (f := fun k => .pv (pairP k)) rfl (elems_P _) (cell_P _) rfl ⟨by simp; omega, by simp; omega⟩ (by first | exact trivial | exact Sub.nil | exact Sub.refl _ | exact Sub.app _ _ | exact SubL.sub (by repeat (first | exact SubL.nil | apply SubL.none | apply SubL.some | apply SubL.sh | apply SubL.eq)) | (refine Sub.of_eq ?_; intro o ob h; rcases o with _ | _ | _ | _ | _ | o <;> simp_all)) ?_
        | refine q_app_dm (xs := (xs.take (atR xs a)).drop 0 ++ [(a, b)]) (ys := (xs.take xs.length).drop (atR xs a)) (f := fun k => .pv (pairP k)) rfl (elems_P _) (cell_P _) rfl ⟨by simp; omega, by simp; omega⟩ (by first | exact trivial | exact Sub.nil | exact Sub.refl _ | exact Sub.app _ _ | exact SubL.sub (by repeat (first | exact SubL.nil | apply SubL.none | apply SubL.some | apply SubL.sh | apply SubL.eq)) | (refine Sub.of_eq ?_; intro o ob h; rcases o with _ | _ | _ | _ | _ | o <;> simp_all)) ?_
      refine q_mv rfl ?_
      refine rg_nil ?_
      refine VS_ret ?_
      have e : (xs.take (atR xs a)).drop 0 ++ [(a, b)] ++ (xs.take xs.length).drop (atR xs a + (if thereR xs a then 1 else 0)) = putR xs (a, b) := by cases hh : thereR xs a <;> simp [putR, hh]
      show Bd _ _ _ _
      refine Bd.renL [3] (fun i hi => by first | (exact absurd hi (Nat.not_lt_zero i)) | (have e : i = 0 := (by simp at hi; omega); subst e; rfl) | (have e : i = 0 ∨ i = 1 := (by simp at hi; omega); rcases e with rfl | rfl <;> rfl)) (by simp) [(4, ownD 0 (dP ((xs.take (atR xs a)).drop 0 ++ [(a, b)] ++ (xs.take xs.length).drop (atR xs a + (if thereR xs a then 1 else 0)))))] (by exact ⟨inv_own rfl, trivial⟩) (by exact l1 (obD_mP _)) ?_
      exact ⟨_, res_own rfl, congrArg (fun l => ownD 0 (dP l)) e, congrArg (fun l => [obD _ _ (dP l)]) e⟩
    · try simp at c0
      have ht : thereR xs a = false := by simp_all [thereR]
      refine VS_skip ?_
      refine VS_seq ?_
      refine VS_r0 rfl ?_
      refine q_mv rfl ?_
      refine q_mv rfl ?_
      refine q_mv rfl ?_
      first
        | fail
        | refine q_slc_m (xs := xs) (f := pairP) (atR xs a + (if thereR xs a then 1 else 0)) xs.length rfl rfl rfl ⟨by rw [ht]; simp, by simp, by rw [ht]; simp; omega, Nat.le_refl _⟩ (fun _ => rfl) ?_
      first
        | refine q_app_dm (xs := (xs.take (atR xs a)).drop 0 ++ [(a, b)]) (ys := (xs.take xs.length).drop (atR xs a + (if thereR xs a then 1 else 0))) (f := fun k => .pv (pairP k)) rfl (elems_P _) (cell_P _) rfl ⟨by simp; omega, by simp; omega⟩ (by first | exact trivial | exact Sub.nil | exact Sub.refl _ | exact Sub.app _ _ | exact SubL.sub (by repeat (first | exact SubL.nil | apply SubL.none | apply SubL.some | apply SubL.sh | apply SubL.eq)) | (refine Sub.of_eq ?_; intro o ob h; rcases o with _ | _ | _ | _ | _ | o <;> simp_all)) ?_
        | refine q_app_dm (xs := (xs.take (atR xs a)).drop 0 ++ [(a, b)]) (ys := (xs.take xs.length).drop (atR xs a)) (f := fun k => .pv (pairP k)) rfl (elems_P _) (cell_P _) rfl ⟨by simp; omega, by simp; omega⟩ (by first | exact trivial | exact Sub.nil | exact Sub.refl _ | exact Sub.app _ _ | exact SubL.sub (by repeat (first | exact SubL.nil | apply SubL.none | apply SubL.some | apply SubL.sh | apply SubL.eq)) | (refine Sub.of_eq ?_; intro o ob h; rcases o with _ | _ | _ | _ | _ | o <;> simp_all)) ?_
      refine q_mv rfl ?_
      refine rg_nil ?_
      refine VS_ret ?_
      have e : (xs.take (atR xs a)).drop 0 ++ [(a, b)] ++ (xs.take xs.length).drop (atR xs a + (if thereR xs a then 1 else 0)) = putR xs (a, b) := by cases hh : thereR xs a <;> simp [putR, hh]
      show Bd _ _ _ _
      refine Bd.renL [3] (fun i hi => by first | (exact absurd hi (Nat.not_lt_zero i)) | (have e : i = 0 := (by simp at hi; omega); subst e; rfl) | (have e : i = 0 ∨ i = 1 := (by simp at hi; omega); rcases e with rfl | rfl <;> rfl)) (by simp) [(4, ownD 0 (dP ((xs.take (atR xs a)).drop 0 ++ [(a, b)] ++ (xs.take xs.length).drop (atR xs a + (if thereR xs a then 1 else 0)))))] (by exact ⟨inv_own rfl, trivial⟩) (by exact l1 (obD_mP _)) ?_
      exact ⟨_, res_own rfl, congrArg (fun l => ownD 0 (dP l)) e, congrArg (fun l => [obD _ _ (dP l)]) e⟩
  · try simp at g23
    have ht : thereR xs a = false := by rw [thereR, decide_eq_false (by omega), Bool.false_and]
    refine q_f rfl ?_
    refine q_f rfl ?_
    refine q_f rfl ?_
    refine q_f rfl ?_
    refine q_f rfl ?_
    refine q_f rfl ?_
    refine q_f rfl ?_
    refine q_f rfl ?_
    refine q_pick_f rfl rfl ?_
    refine rg_nil ?_
    refine VS_cond rfl (fun e => by cases e) (fun _ => ?_)
    refine VS_skip ?_
    refine VS_seq ?_
    refine VS_r0 rfl ?_
    refine q_mv rfl ?_
    refine q_mv rfl ?_
    refine q_mv rfl ?_
    first
      | fail
      | refine q_slc_m (xs := xs) (f := pairP) (atR xs a + (if thereR xs a then 1 else 0)) xs.length rfl rfl rfl ⟨by rw [ht]; simp, by simp, by rw [ht]; simp; omega, Nat.le_refl _⟩ (fun _ => rfl) ?_
    first
      | refine q_app_dm (xs := (xs.take (atR xs a)).drop 0 ++ [(a, b)]) (ys := (xs.take xs.length).drop (atR xs a + (if thereR xs a then 1 else 0))) (f := fun k => .pv (pairP k)) rfl (elems_P _) (cell_P _) rfl ⟨by simp; omega, by simp; omega⟩ (by first | exact trivial | exact Sub.nil | exact Sub.refl _ | exact Sub.app _ _ | exact SubL.sub (by repeat (first | exact SubL.nil | apply SubL.none | apply SubL.some | apply SubL.sh | apply SubL.eq)) | (refine Sub.of_eq ?_; intro o ob h; rcases o with _ | _ | _ | _ | _ | o <;> simp_all)) ?_
      | refine q_app_dm (xs := (xs.take (atR xs a)).drop 0 ++ [(a, b)]) (ys := (xs.take xs.length).drop (atR xs a)) (f := fun k => .pv (pairP k)) rfl (elems_P _) (cell_P _) rfl ⟨by simp; omega, by simp; omega⟩ (by first | exact trivial | exact Sub.nil | exact Sub.refl _ | exact Sub.app _ _ | exact SubL.sub (by repeat (first | exact SubL.nil | apply SubL.none | apply SubL.some | apply SubL.sh | apply SubL.eq)) | (refine Sub.of_eq ?_; intro o ob h; rcases o with _ | _ | _ | _ | _ | o <;> simp_all)) ?_
    refine q_mv rfl ?_
    refine rg_nil ?_
    refine VS_ret ?_
    have e : (xs.take (atR xs a)).drop 0 ++ [(a, b)] ++ (xs.take xs.length).drop (atR xs a + (if thereR xs a then 1 else 0)) = putR xs (a, b) := by cases hh : thereR xs a <;> simp [putR, hh]
    show Bd _ _ _ _
    refine Bd.renL [3] (fun i hi => by first | (exact absurd hi (Nat.not_lt_zero i)) | (have e : i = 0 := (by simp at hi; omega); subst e; rfl) | (have e : i = 0 ∨ i = 1 := (by simp at hi; omega); rcases e with rfl | rfl <;> rfl)) (by simp) [(4, ownD 0 (dP ((xs.take (atR xs a)).drop 0 ++ [(a, b)] ++ (xs.take xs.length).drop (atR xs a + (if thereR xs a then 1 else 0)))))] (by exact ⟨inv_own rfl, trivial⟩) (by exact l1 (obD_mP _)) ?_
    exact ⟨_, res_own rfl, congrArg (fun l => ownD 0 (dP l)) e, congrArg (fun l => [obD _ _ (dP l)]) e⟩
end Go.V
