/- A part of the proofs about laws of the page tree (see the text that bears the law): a small language of steps, its rules, and what the functions of the program return. -/
import Derived.Test.YtjbihdcdamchnaaWKb
import Derived.Test.YtjbihdcdamchnaaPN
set_option linter.all false
set_option linter.unusedVariables false
set_option linter.unusedSimpArgs false
set_option maxHeartbeats 4000000
namespace Go.V
open Go.Proofs.Try (prog)
theorem c_slices_Clone_int (xs : List Int) (hl : xs.length ≤ 1000000000) : NewS prog 72 3 1 [ints xs] (dI xs) := by
  refine callS_of_VS sl_slices_Clone_int (by simp) ?_
  refine VS_seq ?_
  refine VS_r0 rfl ?_
  refine q_mv rfl ?_
  refine rg_nil ?_
  refine VS_seq ?_
  refine VS_seq ?_
  refine VS_r0 rfl ?_
  refine q_mv rfl ?_
  refine q_isnil_m rfl (by first | exact trivial | exact Sub.nil | exact Sub.refl _ | exact Sub.app _ _ | exact SubL.sub (by repeat (first | exact SubL.nil | apply SubL.none | apply SubL.some | apply SubL.sh | apply SubL.eq)) | (refine Sub.of_eq ?_; intro o ob h; rcases o with _ | _ | _ | _ | _ | o <;> simp_all)) ?_ ?_
  · skip
    refine rg_nil ?_
    refine VS_cond rfl (fun e => by cases e) (fun _ => ?_)
    refine VS_skip ?_
    refine VS_seq ?_
    refine VS_r0 rfl ?_
    refine q_lit0 ?_
    refine q_mv rfl ?_
    refine q_app_zm (ys := xs) (f := fun k => .pv (i64 k)) rfl (elems_I xs) (cell_I xs) ⟨by omega, by omega⟩ (by first | exact trivial | exact Sub.nil | exact Sub.refl _ | exact Sub.app _ _ | exact SubL.sub (by repeat (first | exact SubL.nil | apply SubL.none | apply SubL.some | apply SubL.sh | apply SubL.eq)) | (refine Sub.of_eq ?_; intro o ob h; rcases o with _ | _ | _ | _ | _ | o <;> simp_all)) ?_
    refine q_mv rfl ?_
    refine rg_nil ?_
    refine VS_ret ?_
    exact Bd.now ⟨ownD 0 (dI xs), by cases xs <;> rfl, rfl, rfl⟩
  · intro hn
    rw [List.map_eq_nil_iff] at hn
    subst hn
    refine rg_nil ?_
    refine VS_cond rfl (fun _ => ?_) (fun e => by cases e)
    refine VS_seq ?_
    refine VS_r0 rfl ?_
    refine q_mv rfl ?_
    refine rg_nil ?_
    refine VS_ret ?_
    exact Bd.pad ⟨.nils, rfl, rfl, rfl⟩
theorem c_slices_Clone_Pair (xs : List (Int × Int)) (hl : xs.length ≤ 1000000000) : NewS prog 90 43 2 [prs xs] (dP xs) := by
  refine callS_of_VS sl_slices_Clone_Pair (by simp) ?_
  refine VS_seq ?_
  refine VS_r0 rfl ?_
  refine q_mv rfl ?_
  refine rg_nil ?_
  refine VS_seq ?_
  refine VS_seq ?_
  refine VS_r0 rfl ?_
  refine q_mv rfl ?_
  refine q_isnil_m rfl (by first | exact trivial | exact Sub.nil | exact Sub.refl _ | exact Sub.app _ _ | exact SubL.sub (by repeat (first | exact SubL.nil | apply SubL.none | apply SubL.some | apply SubL.sh | apply SubL.eq)) | (refine Sub.of_eq ?_; intro o ob h; rcases o with _ | _ | _ | _ | _ | o <;> simp_all)) ?_ ?_
  · skip
    refine rg_nil ?_
    refine VS_cond rfl (fun e => by cases e) (fun _ => ?_)
    refine VS_skip ?_
    refine VS_seq ?_
    refine VS_r0 rfl ?_
    refine q_lit0 ?_
    refine q_mv rfl ?_
    refine q_app_zm (ys := xs) (f := fun k => .pv (pairP k)) rfl (elems_P xs) (cell_P xs) ⟨by omega, by omega⟩ (by first | exact trivial | exact Sub.nil | exact Sub.refl _ | exact Sub.app _ _ | exact SubL.sub (by repeat (first | exact SubL.nil | apply SubL.none | apply SubL.some | apply SubL.sh | apply SubL.eq)) | (refine Sub.of_eq ?_; intro o ob h; rcases o with _ | _ | _ | _ | _ | o <;> simp_all)) ?_
    refine q_mv rfl ?_
    refine rg_nil ?_
    refine VS_ret ?_
    exact Bd.now ⟨ownD 0 (dP xs), by cases xs <;> rfl, rfl, rfl⟩
  · intro hn
    rw [List.map_eq_nil_iff] at hn
    subst hn
    refine rg_nil ?_
    refine VS_cond rfl (fun _ => ?_) (fun e => by cases e)
    refine VS_seq ?_
    refine VS_r0 rfl ?_
    refine q_mv rfl ?_
    refine rg_nil ?_
    refine VS_ret ?_
    exact Bd.pad ⟨.nils, rfl, rfl, rfl⟩
theorem c_slices_Delete_int (xs : List Int) (i j : Nat) (h1 : i < j) (h2 : j ≤ xs.length) (hl : xs.length ≤ 1000000000) : DelS prog 79 3 1 (dI xs) [i64 i, i64 j] (ints (xs.take i ++ xs.drop j)) := by
  unfold DelS
  rw [show (dI xs).length = xs.length by simp]
  refine callS_of_VS sl_slices_Delete_int (by simp) ?_
  refine VS_seq ?_
  refine VS_r0 rfl ?_
  refine q_mv rfl ?_
  refine rg_nil ?_
  refine VS_bd (Bd.open 0 rfl fun cap hc1 hc2 => ?_)
  refine VS_seq ?_
  refine VS_r0 rfl ?_
  refine q_mv rfl ?_
  refine q_mv rfl ?_
  refine q_mv rfl ?_
  refine q_mv rfl ?_
  first | refine q_len_m rfl ?_ | refine q_len_s rfl ?_ | refine q_len_o rfl ?_ | refine q_len_n rfl ?_ | refine q_len_x rfl ?_
  refine q_slc3 rfl rfl rfl rfl ⟨by omega, by omega, by omega, by omega⟩ ?_
  refine rg_nil ?_
  refine VS_seq ?_
  refine VS_seq ?_
  refine VS_r0 rfl ?_
  refine q_mv rfl ?_
  refine q_mv rfl ?_
  refine q_eql_v false rfl rfl (decide_eq_false (by omega)) ?_
  refine rg_nil ?_
  refine VS_cond rfl (fun e => by cases e) (fun _ => ?_)
  refine VS_skip ?_
  refine VS_seq ?_
  refine VS_r0 rfl ?_
  refine q_mv rfl ?_
  first | refine q_len_m rfl ?_ | refine q_len_s rfl ?_ | refine q_len_o rfl ?_ | refine q_len_n rfl ?_ | refine q_len_x rfl ?_
  refine q_mv rfl ?_
  refine rg_nil ?_
  refine VS_seq ?_
  refine VS_r2 [some ⟨3, 1, []⟩] hmix (SubL.sub (by repeat (first | exact SubL.nil | apply SubL.none | apply SubL.some | apply SubL.sh | apply SubL.eq))) ?_
  refine q_mv rfl ?_
  refine q_mv rfl ?_
  refine q_slc_s 0 i cap rfl rfl rfl rfl rfl ⟨by omega, by omega, by omega⟩ ⟨by omega, by omega, by omega⟩ (fun h => absurd h (by omega)) (fun _ => ?_)
  refine q_mv rfl ?_
  refine q_mv rfl ?_
  refine q_slc_s j (xs.length - j) (cap - j) rfl rfl rfl rfl rfl ⟨by omega, by omega, by omega⟩ ⟨by omega, by omega, by omega⟩ ?_ ?_
  · intro hcj
    have hd : (xs.drop j).map (fun k => D.pv (i64 k)) = [] := by rw [List.drop_of_length_le (by omega)]; rfl
    first
      | refine q_app_in (ys := (xs.drop j).map (fun k => .pv (i64 k))) (m := xs.length - j) rfl (drop_elems _ rfl (by omega)) (cell_I _) rfl rfl (by simp; omega) (by simp) (by omega) (by first | exact trivial | exact Sub.nil | exact Sub.refl _ | exact Sub.app _ _ | exact SubL.sub (by repeat (first | exact SubL.nil | apply SubL.none | apply SubL.some | apply SubL.sh | apply SubL.eq)) | (refine Sub.of_eq ?_; intro o ob h; rcases o with _ | _ | _ | _ | _ | o <;> simp_all)) ?_
      | refine q_app_in (ys := (xs.drop j).map (fun k => .pv (i64 k))) (m := xs.length - j) rfl (by rw [hd]; rfl) (cell_I _) rfl rfl (by simp; omega) (by simp) (by omega) (by first | exact trivial | exact Sub.nil | exact Sub.refl _ | exact Sub.app _ _ | exact SubL.sub (by repeat (first | exact SubL.nil | apply SubL.none | apply SubL.some | apply SubL.sh | apply SubL.eq)) | (refine Sub.of_eq ?_; intro o ob h; rcases o with _ | _ | _ | _ | _ | o <;> simp_all)) ?_
    refine q_mv rfl ?_
    refine rg_nil ?_
    refine VS_seq ?_
    refine VS_r0 rfl ?_
    refine q_mv rfl ?_
    refine q_mv rfl ?_
    first | refine q_len_m rfl ?_ | refine q_len_s rfl ?_ | refine q_len_o rfl ?_ | refine q_len_n rfl ?_ | refine q_len_x rfl ?_
    refine q_mv rfl ?_
    refine q_slc_s (i + (xs.length - j)) (xs.length - (i + (xs.length - j))) (cap - (i + (xs.length - j))) rfl rfl rfl rfl rfl ⟨by omega, by omega, by omega⟩ ⟨by omega, by omega, by omega⟩ (fun h => absurd h (by omega)) (fun _ => ?_)
    refine q_clear_s rfl rfl rfl (splice_le (by simp; omega) (by simp; omega)) (by omega) rfl ⟨trivial, ?_⟩
    refine rg_nil ?_
    refine VS_seq ?_
    refine VS_r0 rfl ?_
    refine q_mv rfl ?_
    refine q_mv rfl ?_
    refine rg_nil ?_
    refine VS_bd (Bd.subP (ps := (xs.take i ++ xs.drop j).map (fun k => (i64 k))) 6 rfl rfl (splice_le (splice_le (by simp; omega) (by simp; omega)) (splice_le (by simp; omega) (by simp; omega))) (by rw [Nat.zero_add, del_some _ (by omega) h2]; exact toPVs_dI _) ?_)
    refine VS_ret ?_
    exact Bd.now ⟨_, rfl, rfl, rfl⟩
  · intro hcj
    first
      | refine q_app_in (ys := (xs.drop j).map (fun k => .pv (i64 k))) (m := xs.length - j) rfl (drop_elems _ rfl (by omega)) (cell_I _) rfl rfl (by simp; omega) (by simp) (by omega) (by first | exact trivial | exact Sub.nil | exact Sub.refl _ | exact Sub.app _ _ | exact SubL.sub (by repeat (first | exact SubL.nil | apply SubL.none | apply SubL.some | apply SubL.sh | apply SubL.eq)) | (refine Sub.of_eq ?_; intro o ob h; rcases o with _ | _ | _ | _ | _ | o <;> simp_all)) ?_
      | refine q_app_in (ys := (xs.drop j).map (fun k => .pv (i64 k))) (m := xs.length - j) rfl (by rw [hd]; rfl) (cell_I _) rfl rfl (by simp; omega) (by simp) (by omega) (by first | exact trivial | exact Sub.nil | exact Sub.refl _ | exact Sub.app _ _ | exact SubL.sub (by repeat (first | exact SubL.nil | apply SubL.none | apply SubL.some | apply SubL.sh | apply SubL.eq)) | (refine Sub.of_eq ?_; intro o ob h; rcases o with _ | _ | _ | _ | _ | o <;> simp_all)) ?_
    refine q_mv rfl ?_
    refine rg_nil ?_
    refine VS_seq ?_
    refine VS_r0 rfl ?_
    refine q_mv rfl ?_
    refine q_mv rfl ?_
    first | refine q_len_m rfl ?_ | refine q_len_s rfl ?_ | refine q_len_o rfl ?_ | refine q_len_n rfl ?_ | refine q_len_x rfl ?_
    refine q_mv rfl ?_
    refine q_slc_s (i + (xs.length - j)) (xs.length - (i + (xs.length - j))) (cap - (i + (xs.length - j))) rfl rfl rfl rfl rfl ⟨by omega, by omega, by omega⟩ ⟨by omega, by omega, by omega⟩ (fun h => absurd h (by omega)) (fun _ => ?_)
    refine q_clear_s rfl rfl rfl (splice_le (by simp; omega) (by simp; omega)) (by omega) rfl ⟨trivial, ?_⟩
    refine rg_nil ?_
    refine VS_seq ?_
    refine VS_r0 rfl ?_
    refine q_mv rfl ?_
    refine q_mv rfl ?_
    refine rg_nil ?_
    refine VS_bd (Bd.subP (ps := (xs.take i ++ xs.drop j).map (fun k => (i64 k))) 6 rfl rfl (splice_le (splice_le (by simp; omega) (by simp; omega)) (splice_le (by simp; omega) (by simp; omega))) (by rw [Nat.zero_add, del_some _ (by omega) h2]; exact toPVs_dI _) ?_)
    refine VS_ret ?_
    exact Bd.now ⟨_, rfl, rfl, rfl⟩
end Go.V
