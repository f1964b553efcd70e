/- A part of the proofs about laws of the page tree (see the text that bears the law): a small language of steps, its rules, and what the functions of the program return. -/
import Derived.Test.YtmckgagiibllpaaWKd
import Derived.Test.YtmckgagiibllpaaPK
set_option linter.all false
set_option linter.unusedVariables false
set_option linter.unusedSimpArgs false
namespace Go.V
open Go.Proofs.Try (prog)
theorem c_laws_FnRemoveKeyOrder (bs : List Int) (hb : isU8 bs) : PCon prog 4 [u8s bs] (fun p => p = .bool true) := by
  refine con_of_VS sl_laws_FnRemoveKeyOrder (by simp) ?_
  refine VS_seq ?_
  refine VS_r0 rfl ?_
  refine q_mv rfl ?_
  refine rg_nil ?_
  refine VS_seq ?_
  refine VS_seq ?_
  refine VS_r0 rfl ?_
  refine q_mv rfl ?_
  first | refine q_len_m rfl ?_ | refine q_len_s rfl ?_ | refine q_len_o rfl ?_ | refine q_len_n rfl ?_ | refine q_len_x rfl ?_
  refine q_gtr rfl rfl ?_
  refine rg_nil ?_
  refine VS_cond rfl (fun c0 => ?_) (fun c0 => ?_)
  · try simp at c0
    refine VS_seq ?_
    refine VS_r0 rfl ?_
    refine q_mv rfl ?_
    refine rg_nil ?_
    refine VS_ret ?_
    exact Bd.now ⟨_, rfl, rfl⟩
  · try simp at c0
    refine VS_skip ?_
    refine VS_seq ?_
    refine VS_r0 rfl ?_
    refine q_mv rfl ?_
    refine q_calle rfl (c_spec_DrawRemoveKey bs hb (by omega)) rfl (by first | exact trivial | exact Sub.nil | exact Sub.refl _ | exact Sub.app _ _ | exact SubL.sub (by repeat (first | exact SubL.nil | apply SubL.none | apply SubL.some | apply SubL.sh | apply SubL.eq)) | (refine Sub.of_eq ?_; intro o ob h; rcases o with _ | _ | _ | _ | _ | o <;> simp_all)) ?_
    rintro _ ⟨ks, k, rfl, ⟨hx1, hx2⟩, hk1, hk2⟩
    refine q_mv rfl ?_
    refine q_ext rfl rfl ?_
    refine q_ext rfl rfl ?_
    refine q_mv rfl ?_
    refine q_mv rfl ?_
    refine rg_nil ?_
    refine VS_seq ?_
    cases hg : goodKeys ks && ks.contains k
    · skip
      refine VS_r0 rfl ?_
      refine q_mv rfl ?_
      refine q_mv rfl ?_
      refine q_callp ((c_impl_RemoveKey ks k (by omega)).to (y := .tup [ints [], .bool false]) (by rw [hg]; rfl)) rfl (by first | exact trivial | exact Sub.nil | exact Sub.refl _ | exact Sub.app _ _ | exact SubL.sub (by repeat (first | exact SubL.nil | apply SubL.none | apply SubL.some | apply SubL.sh | apply SubL.eq)) | (refine Sub.of_eq ?_; intro o ob h; rcases o with _ | _ | _ | _ | _ | o <;> simp_all)) ?_
      refine q_mv rfl ?_
      refine q_ext rfl rfl ?_
      refine q_ext rfl rfl ?_
      refine q_mv rfl ?_
      refine q_mv rfl ?_
      refine rg_nil ?_
      refine VS_seq ?_
      refine VS_r0 rfl ?_
      refine q_mv rfl ?_
      refine q_mv rfl ?_
      refine q_callp ((c_spec_RemoveKey ks k (by omega)).to (y := .tup [ints [], .bool false]) (by rw [hg]; rfl)) rfl (by first | exact trivial | exact Sub.nil | exact Sub.refl _ | exact Sub.app _ _ | exact SubL.sub (by repeat (first | exact SubL.nil | apply SubL.none | apply SubL.some | apply SubL.sh | apply SubL.eq)) | (refine Sub.of_eq ?_; intro o ob h; rcases o with _ | _ | _ | _ | _ | o <;> simp_all)) ?_
      refine q_mv rfl ?_
      refine q_ext rfl rfl ?_
      refine q_ext rfl rfl ?_
      refine q_mv rfl ?_
      refine q_mv rfl ?_
      refine rg_nil ?_
      refine VS_seq ?_
      refine VS_seq ?_
      refine VS_r0 rfl ?_
      refine q_mv rfl ?_
      refine q_mv rfl ?_
      refine q_callp (x := .bool true) ((c_laws_equalInts [] [] (by simp) (by simp)).eqT rfl) rfl (by first | exact trivial | exact Sub.nil | exact Sub.refl _ | exact Sub.app _ _ | exact SubL.sub (by repeat (first | exact SubL.nil | apply SubL.none | apply SubL.some | apply SubL.sh | apply SubL.eq)) | (refine Sub.of_eq ?_; intro o ob h; rcases o with _ | _ | _ | _ | _ | o <;> simp_all)) ?_
      refine q_not rfl ?_
      refine q_mv rfl ?_
      refine q_t rfl ?_
      refine q_mv rfl ?_
      refine q_t rfl ?_
      refine q_mv rfl ?_
      refine q_t rfl ?_
      refine q_beq_v false rfl rfl (rfl) ?_
      refine q_pick_f rfl rfl ?_
      refine q_mv rfl ?_
      refine q_t rfl ?_
      refine q_mv rfl ?_
      refine q_t rfl ?_
      refine q_not_v true rfl (rfl) ?_
      refine q_pick_f rfl rfl ?_
      refine q_mv rfl ?_
      refine q_f rfl ?_
      refine q_f rfl ?_
      refine q_f rfl ?_
      refine q_pick_t rfl rfl ?_
      refine rg_nil ?_
      refine VS_cond rfl (fun _ => ?_) (fun e => by cases e)
      refine VS_seq ?_
      refine VS_r0 rfl ?_
      refine q_mv rfl ?_
      refine q_mv rfl ?_
      refine q_callp (x := .bool true) ((c_laws_equalInts [] [] (by simp) (by simp)).eqT rfl) rfl (by first | exact trivial | exact Sub.nil | exact Sub.refl _ | exact Sub.app _ _ | exact SubL.sub (by repeat (first | exact SubL.nil | apply SubL.none | apply SubL.some | apply SubL.sh | apply SubL.eq)) | (refine Sub.of_eq ?_; intro o ob h; rcases o with _ | _ | _ | _ | _ | o <;> simp_all)) ?_
      refine q_mv rfl ?_
      refine q_t rfl ?_
      refine q_mv rfl ?_
      refine q_t rfl ?_
      refine q_mv rfl ?_
      refine q_t rfl ?_
      refine q_beq_v true rfl rfl (rfl) ?_
      refine q_pick_t rfl rfl ?_
      refine q_mv rfl ?_
      refine rg_nil ?_
      refine VS_ret ?_
      exact Bd.now ⟨_, rfl, rfl⟩
    · skip
      have l1 : (rmK ks k).length ≤ ks.length := rmK_len
      have hg1 : goodKeys ks = true := by simp_all
      have hg2 : ks.contains k = true := by simp_all
      refine VS_r0 rfl ?_
      refine q_mv rfl ?_
      refine q_mv rfl ?_
      refine q_callp ((c_impl_RemoveKey (ks) (k) (by omega)).to (y := .tup [ints (rmK (ks) (k)), .bool true]) (by rw [if_pos hg, hg])) rfl (by first | exact trivial | exact Sub.nil | exact Sub.refl _ | exact Sub.app _ _ | exact SubL.sub (by repeat (first | exact SubL.nil | apply SubL.none | apply SubL.some | apply SubL.sh | apply SubL.eq)) | (refine Sub.of_eq ?_; intro o ob h; rcases o with _ | _ | _ | _ | _ | o <;> simp_all)) ?_
      refine q_mv rfl ?_
      refine q_ext rfl rfl ?_
      refine q_ext rfl rfl ?_
      refine q_mv rfl ?_
      refine q_mv rfl ?_
      refine rg_nil ?_
      refine VS_seq ?_
      refine VS_r0 rfl ?_
      refine q_mv rfl ?_
      refine q_mv rfl ?_
      refine q_callp ((c_spec_RemoveKey ks k (by omega)).to (y := .tup [ints (rmK ks k), .bool true]) (by rw [if_pos hg, hg])) rfl (by first | exact trivial | exact Sub.nil | exact Sub.refl _ | exact Sub.app _ _ | exact SubL.sub (by repeat (first | exact SubL.nil | apply SubL.none | apply SubL.some | apply SubL.sh | apply SubL.eq)) | (refine Sub.of_eq ?_; intro o ob h; rcases o with _ | _ | _ | _ | _ | o <;> simp_all)) ?_
      refine q_mv rfl ?_
      refine q_ext rfl rfl ?_
      refine q_ext rfl rfl ?_
      refine q_mv rfl ?_
      refine q_mv rfl ?_
      refine rg_nil ?_
      refine VS_seq ?_
      refine VS_seq ?_
      refine VS_r0 rfl ?_
      refine q_mv rfl ?_
      refine q_mv rfl ?_
      refine q_callp (x := .bool true) ((c_laws_equalInts _ _ (by omega) (by omega)).eqT (by first | exact hr4 | rfl)) rfl (by first | exact trivial | exact Sub.nil | exact Sub.refl _ | exact Sub.app _ _ | exact SubL.sub (by repeat (first | exact SubL.nil | apply SubL.none | apply SubL.some | apply SubL.sh | apply SubL.eq)) | (refine Sub.of_eq ?_; intro o ob h; rcases o with _ | _ | _ | _ | _ | o <;> simp_all)) ?_
      refine q_not rfl ?_
      refine q_mv rfl ?_
      refine q_t rfl ?_
      refine q_mv rfl ?_
      refine q_t rfl ?_
      refine q_mv rfl ?_
      refine q_t rfl ?_
      refine q_beq_v false rfl rfl (rfl) ?_
      refine q_pick_f rfl rfl ?_
      refine q_mv rfl ?_
      refine q_t rfl ?_
      refine q_mv rfl ?_
      refine q_t rfl ?_
      refine q_not_v false rfl (rfl) ?_
      refine q_pick_f rfl rfl ?_
      refine q_mv rfl ?_
      refine q_t rfl ?_
      refine q_mv rfl ?_
      refine q_t rfl ?_
      first | refine q_len_m rfl ?_ | refine q_len_s rfl ?_ | refine q_len_o rfl ?_ | refine q_len_n rfl ?_ | refine q_len_x rfl ?_
      refine q_t rfl ?_
      refine q_eql rfl rfl ?_
      refine q_pick_f rfl rfl ?_
      refine rg_nil ?_
      refine VS_cond rfl (fun c1 => ?_) (fun c1 => ?_)
      · try simp at c1
        refine VS_seq ?_
        refine VS_r0 rfl ?_
        refine q_mv rfl ?_
        refine q_mv rfl ?_
        refine q_callp (x := .bool true) ((c_laws_equalInts _ _ (by omega) (by omega)).eqT (by first | exact hr4 | rfl)) rfl (by first | exact trivial | exact Sub.nil | exact Sub.refl _ | exact Sub.app _ _ | exact SubL.sub (by repeat (first | exact SubL.nil | apply SubL.none | apply SubL.some | apply SubL.sh | apply SubL.eq)) | (refine Sub.of_eq ?_; intro o ob h; rcases o with _ | _ | _ | _ | _ | o <;> simp_all)) ?_
        refine q_mv rfl ?_
        refine q_t rfl ?_
        refine q_mv rfl ?_
        refine q_t rfl ?_
        refine q_mv rfl ?_
        refine q_t rfl ?_
        refine q_beq_v true rfl rfl (rfl) ?_
        refine q_pick_t rfl rfl ?_
        refine q_mv rfl ?_
        refine rg_nil ?_
        refine VS_ret ?_
        exact Bd.now ⟨_, rfl, rfl⟩
      · try simp at c1
        have l0 : 0 < (rmK ks k).length := List.length_pos_iff.2 (by simpa using c1)
        have hr := rm_order hg1 hg2 l0
        have hr1 := hr.1
        have hr2 := hr.2.1
        have hr3 := hr.2.2.1
        have hr4 := hr.2.2.2
        have l2 : (rmK (rmK ks k) (nth (rmK ks k) 0)).length ≤ (rmK ks k).length := rmK_len
        have l3 : (rmK ks (nth (rmK ks k) 0)).length ≤ ks.length := rmK_len
        have l4 : (rmK (rmK ks (nth (rmK ks k) 0)) k).length ≤ (rmK ks (nth (rmK ks k) 0)).length := rmK_len
        refine VS_skip ?_
        refine VS_seq ?_
        refine VS_r0 rfl ?_
        refine q_mv rfl ?_
        first | refine q_idx_n 0 rfl rfl rfl (by omega) (fun _ => rfl) ?_ | refine q_idx_om rfl rfl (by omega) (by omega) rfl rfl ?_
        first | refine q_load_c rfl rfl rfl ?_ | refine q_load_r rfl rfl rfl rfl rfl rfl rfl ?_ | refine q_load_o rfl rfl rfl rfl rfl ?_
        refine q_mv rfl ?_
        refine rg_nil ?_
        refine VS_seq ?_
        refine VS_r0 rfl ?_
        refine q_mv rfl ?_
        refine q_mv rfl ?_
        refine q_callp ((c_impl_RemoveKey (rmK ks k) (nth (rmK ks k) 0) (by omega)).to (y := .tup [ints (rmK (rmK ks k) (nth (rmK ks k) 0)), .bool true]) (by rw [if_pos hr1, hr1])) rfl (by first | exact trivial | exact Sub.nil | exact Sub.refl _ | exact Sub.app _ _ | exact SubL.sub (by repeat (first | exact SubL.nil | apply SubL.none | apply SubL.some | apply SubL.sh | apply SubL.eq)) | (refine Sub.of_eq ?_; intro o ob h; rcases o with _ | _ | _ | _ | _ | o <;> simp_all)) ?_
        refine q_mv rfl ?_
        refine q_ext rfl rfl ?_
        refine q_ext rfl rfl ?_
        refine q_mv rfl ?_
        refine q_mv rfl ?_
        refine rg_nil ?_
        refine VS_seq ?_
        refine VS_r0 rfl ?_
        refine q_mv rfl ?_
        refine q_mv rfl ?_
        refine q_callp ((c_impl_RemoveKey (ks) (nth (rmK ks k) 0) (by omega)).to (y := .tup [ints (rmK (ks) (nth (rmK ks k) 0)), .bool true]) (by rw [if_pos hr2, hr2])) rfl (by first | exact trivial | exact Sub.nil | exact Sub.refl _ | exact Sub.app _ _ | exact SubL.sub (by repeat (first | exact SubL.nil | apply SubL.none | apply SubL.some | apply SubL.sh | apply SubL.eq)) | (refine Sub.of_eq ?_; intro o ob h; rcases o with _ | _ | _ | _ | _ | o <;> simp_all)) ?_
        refine q_mv rfl ?_
        refine q_ext rfl rfl ?_
        refine q_ext rfl rfl ?_
        refine q_mv rfl ?_
        refine q_mv rfl ?_
        refine rg_nil ?_
        refine VS_seq ?_
        refine VS_r0 rfl ?_
        refine q_mv rfl ?_
        refine q_mv rfl ?_
        refine q_callp ((c_impl_RemoveKey (rmK ks (nth (rmK ks k) 0)) (k) (by omega)).to (y := .tup [ints (rmK (rmK ks (nth (rmK ks k) 0)) (k)), .bool true]) (by rw [if_pos hr3, hr3])) rfl (by first | exact trivial | exact Sub.nil | exact Sub.refl _ | exact Sub.app _ _ | exact SubL.sub (by repeat (first | exact SubL.nil | apply SubL.none | apply SubL.some | apply SubL.sh | apply SubL.eq)) | (refine Sub.of_eq ?_; intro o ob h; rcases o with _ | _ | _ | _ | _ | o <;> simp_all)) ?_
        refine q_mv rfl ?_
        refine q_ext rfl rfl ?_
        refine q_ext rfl rfl ?_
        refine q_mv rfl ?_
        refine q_mv rfl ?_
        refine rg_nil ?_
        refine VS_seq ?_
        refine VS_r0 rfl ?_
        refine q_mv rfl ?_
        refine q_mv rfl ?_
        refine q_t rfl ?_
        refine q_mv rfl ?_
        refine q_pick_t rfl rfl ?_
        refine q_mv rfl ?_
        refine q_t rfl ?_
        refine q_mv rfl ?_
        refine q_pick_t rfl rfl ?_
        refine q_mv rfl ?_
        refine q_t rfl ?_
        refine q_mv rfl ?_
        refine q_t rfl ?_
        refine q_mv rfl ?_
        refine q_t rfl ?_
        refine q_callp (x := .bool true) ((c_laws_equalInts _ _ (by omega) (by omega)).eqT (by first | exact hr4 | rfl)) rfl (by first | exact trivial | exact Sub.nil | exact Sub.refl _ | exact Sub.app _ _ | exact SubL.sub (by repeat (first | exact SubL.nil | apply SubL.none | apply SubL.some | apply SubL.sh | apply SubL.eq)) | (refine Sub.of_eq ?_; intro o ob h; rcases o with _ | _ | _ | _ | _ | o <;> simp_all)) ?_
        refine q_pick_t rfl rfl ?_
        refine q_mv rfl ?_
        refine rg_nil ?_
        refine VS_ret ?_
        exact Bd.now ⟨_, rfl, rfl⟩
end Go.V
