/- A part of the proofs about laws of the page tree (see the text that bears the law): a small language of steps, its rules, and what the functions of the program return. -/
import Derived.Test.YtjbihdcdamchnaaWKc
import Derived.Test.YtjbihdcdamchnaaPK
set_option linter.all false
set_option linter.unusedVariables false
set_option linter.unusedSimpArgs false
set_option maxHeartbeats 4000000
namespace Go.V
open Go.Proofs.Try (prog)
theorem c_laws_equalInts (xs ys : List Int) (hx : xs.length ≤ 1000000000) (hy : ys.length ≤ 1000000000) : PCon prog 35 [ints xs, ints ys] (fun p => p = .bool (decide (xs = ys))) := by
  refine con_of_VS sl_laws_equalInts (by simp) ?_
  refine VS_seq ?_
  refine VS_r0 rfl ?_
  refine q_mv rfl ?_
  refine rg_nil ?_
  refine VS_seq ?_
  refine VS_seq ?_
  refine VS_r0 rfl ?_
  refine q_mv rfl ?_
  first | refine q_len_m rfl ?_ | refine q_len_s rfl ?_ | refine q_len_o rfl ?_ | refine q_len_n rfl ?_ | refine q_len_x rfl ?_
  refine q_mv rfl ?_
  first | refine q_len_m rfl ?_ | refine q_len_s rfl ?_ | refine q_len_o rfl ?_ | refine q_len_n rfl ?_ | refine q_len_x rfl ?_
  refine q_neq rfl rfl ?_
  refine rg_nil ?_
  refine VS_cond rfl (fun c0 => ?_) (fun c0 => ?_)
  · try simp at c0
    refine VS_seq ?_
    refine VS_r0 rfl ?_
    refine q_mv rfl ?_
    refine rg_nil ?_
    refine VS_ret ?_
    refine Bd.now ⟨_, rfl, congrArg PV.bool (decide_eq_false fun e => ?_).symm⟩
    subst e; omega
  · try simp at c0
    refine VS_skip ?_
    refine VS_seq ?_
    refine VS_seq ?_
    refine VS_r0 rfl ?_
    refine q_mv rfl ?_
    refine rg_nil ?_
    refine VS_block ?_
    refine VS_bd (Bd.keepL [(0, .pv (ints xs)), (1, .pv (ints ys)), (4, .pv (.bool false)), (5, .pv (i64 0))] ⟨rfl, rfl, rfl, rfl, trivial⟩ ?_)
    refine VS_loop (fun mz E S => ∃ i : Nat, mz = xs.length - i ∧ (i ≤ xs.length) ∧ (∀ j, j < i → nth xs j = nth ys j) ∧ E = env [(0, .pv (ints xs)), (1, .pv (ints ys)), (4, .pv (.bool false)), (5, .pv (i64 i))] ∧ S = []) ⟨_, 0, rfl, (by first | omega | (intros; omega) | simp), (by first | omega | (intros; omega) | simp), rfl, rfl⟩ ?_
    rintro mz _ _ ⟨i, hmeas, g0, g1, rfl, rfl⟩
    refine VS_seq ?_
    refine VS_seq ?_
    refine VS_r0 rfl ?_
    refine q_mv rfl ?_
    refine q_mv rfl ?_
    first | refine q_len_m rfl ?_ | refine q_len_s rfl ?_ | refine q_len_o rfl ?_ | refine q_len_n rfl ?_ | refine q_len_x rfl ?_
    refine q_lss rfl rfl ?_
    refine rg_nil ?_
    refine VS_cond rfl (fun c1 => ?_) (fun c1 => ?_)
    · try simp at c1
      refine VS_skip ?_
      refine VS_seq ?_
      refine VS_block ?_
      refine VS_seq ?_
      refine VS_r1 hmix rfl ?_
      refine q_mv rfl ?_
      refine q_mv rfl ?_
      first | refine q_idx_c _ rfl rfl (by omega) (fun _ => rfl) ?_ | refine q_idx_m rfl rfl (by omega) (by omega) (fun _ => rfl) ?_ | refine q_idx_om rfl rfl (by omega) (by omega) rfl rfl ?_
      first | refine q_load_c rfl rfl rfl ?_ | refine q_load_r rfl rfl rfl rfl rfl rfl rfl ?_ | refine q_load_o rfl rfl rfl rfl rfl ?_
      refine q_mv rfl ?_
      refine q_mv rfl ?_
      first | refine q_idx_c _ rfl rfl (by omega) (fun _ => rfl) ?_ | refine q_idx_m rfl rfl (by omega) (by omega) (fun _ => rfl) ?_ | refine q_idx_om rfl rfl (by omega) (by omega) rfl rfl ?_
      first | refine q_load_c rfl rfl rfl ?_ | refine q_load_r rfl rfl rfl rfl rfl rfl rfl ?_ | refine q_load_o rfl rfl rfl rfl rfl ?_
      refine q_neq rfl rfl ?_
      refine rg_nil ?_
      refine VS_cond rfl (fun c2 => ?_) (fun c2 => ?_)
      · try simp at c2
        refine VS_seq ?_
        refine VS_r0 rfl ?_
        refine q_mv rfl ?_
        refine rg_nil ?_
        refine VS_ret ?_
        refine Bd.now ⟨_, rfl, congrArg PV.bool (decide_eq_false fun e => ?_).symm⟩
        subst e; exact c2 rfl
      · try simp at c2
        refine VS_skip ?_
        refine VS_r0 rfl ?_
        refine q_mv rfl ?_
        refine q_add rfl rfl (inR64 (by omega)) ?_
        refine q_mv rfl ?_
        refine rg_nil ?_
        refine Bd.keepL [(0, .pv (ints xs)), (1, .pv (ints ys)), (4, .pv (.bool false)), (5, .pv (i64 (i + 1)))] ⟨rfl, rfl, rfl, rfl, trivial⟩ ⟨_, ?_, i + 1, rfl, ?_, ?_, rfl, rfl⟩
        · first | omega | assumption | rfl | (simp; omega)
        · first | omega | assumption | rfl | (simp; omega)
        · intro j hj
          by_cases e : j = i
          · subst e; simpa using c2
          · exact g1 j (by omega)
    · try simp at c1
      refine VS_exit ?_
      refine VS_seq ?_
      refine VS_r0 rfl ?_
      refine q_mv rfl ?_
      refine rg_nil ?_
      refine VS_ret ?_
      exact Bd.now ⟨_, rfl, congrArg PV.bool (decide_eq_true (list_ext_nth (by omega) fun j hj => g1 j (by omega))).symm⟩
theorem c_impl_RemoveKey (xs : List Int) (k : Int) (hl : xs.length ≤ 1000000000) : PCon prog 40 [ints xs, i64 k] (fun p => p = .tup [ints (if goodKeys xs && xs.contains k then rmK xs k else []), .bool (goodKeys xs && xs.contains k)]) := by
  refine con_of_VS sl_impl_RemoveKey (by simp) ?_
  refine VS_seq ?_
  refine VS_r0 rfl ?_
  refine q_mv rfl ?_
  refine q_mv rfl ?_
  refine rg_nil ?_
  refine VS_seq ?_
  refine VS_seq ?_
  refine VS_r0 rfl ?_
  refine q_mv rfl ?_
  refine q_callp (c_impl_ValidKeys _ (by omega)) rfl (by first | exact trivial | exact Sub.nil | exact Sub.refl _ | exact Sub.app _ _ | exact SubL.sub (by repeat (first | exact SubL.nil | apply SubL.none | apply SubL.some | apply SubL.sh | apply SubL.eq)) | (refine Sub.of_eq ?_; intro o ob h; rcases o with _ | _ | _ | _ | _ | o <;> simp_all)) ?_
  refine q_not rfl ?_
  refine rg_nil ?_
  refine VS_cond rfl (fun c0 => ?_) (fun c0 => ?_)
  · try simp at c0
    refine VS_seq ?_
    refine VS_r0 rfl ?_
    refine q_mv rfl ?_
    refine q_mv rfl ?_
    refine rg_nil ?_
    refine VS_ret ?_
    exact Bd.now ⟨_, rfl, by simp [c0]⟩
  · try simp at c0
    refine VS_skip ?_
    refine VS_seq ?_
    refine VS_r0 rfl ?_
    refine q_mv rfl ?_
    refine q_mv rfl ?_
    refine q_callp ((c_impl_KeysBelow xs k hl).to (y := i64 (upTo xs (k - 1))) (by rw [if_pos c0])) rfl (by first | exact trivial | exact Sub.nil | exact Sub.refl _ | exact Sub.app _ _ | exact SubL.sub (by repeat (first | exact SubL.nil | apply SubL.none | apply SubL.some | apply SubL.sh | apply SubL.eq)) | (refine Sub.of_eq ?_; intro o ob h; rcases o with _ | _ | _ | _ | _ | o <;> simp_all)) ?_
    refine q_mv rfl ?_
    refine rg_nil ?_
    have l1 := contains_below (k := k) c0
    have l2 := upTo_le xs (k - 1)
    refine VS_seq ?_
    refine VS_seq ?_
    refine VS_r0 rfl ?_
    refine q_mv rfl ?_
    refine q_mv rfl ?_
    first | refine q_len_m rfl ?_ | refine q_len_s rfl ?_ | refine q_len_o rfl ?_ | refine q_len_n rfl ?_ | refine q_len_x rfl ?_
    refine q_eql rfl rfl ?_
    refine q_mv rfl ?_
    refine q_b rfl (fun g17 => ?_) (fun g17 => ?_)
    · try simp at g17
      refine q_t rfl ?_
      refine q_mv rfl ?_
      refine q_t rfl ?_
      refine q_mv rfl ?_
      refine q_t rfl ?_
      first | refine q_idx_c _ rfl rfl (by omega) (fun _ => rfl) ?_ | refine q_idx_m rfl rfl (by omega) (by omega) (fun _ => rfl) ?_ | refine q_idx_om rfl rfl (by omega) (by omega) rfl rfl ?_
      refine q_t rfl ?_
      first | refine q_load_c rfl rfl rfl ?_ | refine q_load_r rfl rfl rfl rfl rfl rfl rfl ?_ | refine q_load_o rfl rfl rfl rfl rfl ?_
      refine q_t rfl ?_
      refine q_mv rfl ?_
      refine q_t rfl ?_
      refine q_neq rfl rfl ?_
      refine q_pick_f rfl rfl ?_
      refine rg_nil ?_
      refine VS_cond rfl (fun c1 => ?_) (fun c1 => ?_)
      · try simp at c1
        refine VS_seq ?_
        refine VS_r0 rfl ?_
        refine q_mv rfl ?_
        refine q_mv rfl ?_
        refine rg_nil ?_
        refine VS_ret ?_
        refine Bd.now ⟨_, rfl, ?_⟩
        have l3 : xs.contains k = false := by
          rw [l1]
          by_cases e : upTo xs (k - 1) = xs.length
          · simp [e]
          · first | (exfalso; omega) | simp_all
        rw [c0, l3]; rfl
      · try simp at c1
        refine VS_skip ?_
        refine VS_seq ?_
        refine VS_r0 rfl ?_
        refine q_mv rfl ?_
        refine q_new rfl (c_slices_Clone_int _ (by first | omega | (simp; omega))) (flat_I _) (by first | rfl | (repeat' (first | exact toRs_nil | refine toRs_cons ?_ ?_ | rfl | exact toR_I rfl | exact toR_P rfl | refine toR_agg2 ?_ ?_ | refine toR_agg3 ?_ ?_ ?_))) (by first | exact trivial | exact Sub.nil | exact Sub.refl _ | exact Sub.app _ _ | exact SubL.sub (by repeat (first | exact SubL.nil | apply SubL.none | apply SubL.some | apply SubL.sh | apply SubL.eq)) | (refine Sub.of_eq ?_; intro o ob h; rcases o with _ | _ | _ | _ | _ | o <;> simp_all)) ?_
        refine q_mv rfl ?_
        refine q_mv rfl ?_
        refine q_add rfl rfl (inR64 (by omega)) ?_
        refine q_del rfl (c_slices_Delete_int xs (upTo xs (k - 1)) (upTo xs (k - 1) + 1) (by omega) (by omega) hl) (ne_map (by omega)) (dI_mp _) rfl rfl (by first | exact trivial | exact Sub.nil | exact Sub.refl _ | exact Sub.app _ _ | exact SubL.sub (by repeat (first | exact SubL.nil | apply SubL.none | apply SubL.some | apply SubL.sh | apply SubL.eq)) | (refine Sub.of_eq ?_; intro o ob h; rcases o with _ | _ | _ | _ | _ | o <;> simp_all)) ?_
        refine q_mv rfl ?_
        refine q_mv rfl ?_
        refine rg_nil ?_
        refine VS_ret ?_
        have l3 : xs.contains k = true := by rw [l1]; simp_all; omega
        exact Bd.now ⟨_, rfl, by rw [c0, l3]; rfl⟩
    · try simp at g17
      refine q_f rfl ?_
      refine q_f rfl ?_
      refine q_f rfl ?_
      refine q_f rfl ?_
      refine q_f rfl ?_
      refine q_f rfl ?_
      refine q_pick_t rfl rfl ?_
      refine rg_nil ?_
      refine VS_cond rfl (fun _ => ?_) (fun e => by cases e)
      refine VS_seq ?_
      refine VS_r0 rfl ?_
      refine q_mv rfl ?_
      refine q_mv rfl ?_
      refine rg_nil ?_
      refine VS_ret ?_
      refine Bd.now ⟨_, rfl, ?_⟩
      have l3 : xs.contains k = false := by
        rw [l1]
        by_cases e : upTo xs (k - 1) = xs.length
        · simp [e]
        · first | (exfalso; omega) | simp_all
      rw [c0, l3]; rfl
theorem c_spec_RemoveKey (xs : List Int) (k : Int) (hl : xs.length ≤ 1000000000) : PCon prog 43 [ints xs, i64 k] (fun p => p = .tup [ints (if goodKeys xs && xs.contains k then rmK xs k else []), .bool (goodKeys xs && xs.contains k)]) := by
  refine con_of_VS sl_spec_RemoveKey (by simp) ?_
  refine VS_seq ?_
  refine VS_r0 rfl ?_
  refine q_mv rfl ?_
  refine q_mv rfl ?_
  refine rg_nil ?_
  refine VS_seq ?_
  refine VS_seq ?_
  refine VS_r0 rfl ?_
  refine q_mv rfl ?_
  refine q_callp (c_spec_validKeys _ (by omega)) rfl (by first | exact trivial | exact Sub.nil | exact Sub.refl _ | exact Sub.app _ _ | exact SubL.sub (by repeat (first | exact SubL.nil | apply SubL.none | apply SubL.some | apply SubL.sh | apply SubL.eq)) | (refine Sub.of_eq ?_; intro o ob h; rcases o with _ | _ | _ | _ | _ | o <;> simp_all)) ?_
  refine q_not rfl ?_
  refine q_mv rfl ?_
  refine q_b rfl (fun g10 => ?_) (fun g10 => ?_)
  · try simp at g10
    refine q_t rfl ?_
    refine q_mv rfl ?_
    refine q_t rfl ?_
    refine q_mv rfl ?_
    refine q_t rfl ?_
    refine q_callp (c_spec_isIn _ _ (by omega)) rfl (by first | exact trivial | exact Sub.nil | exact Sub.refl _ | exact Sub.app _ _ | exact SubL.sub (by repeat (first | exact SubL.nil | apply SubL.none | apply SubL.some | apply SubL.sh | apply SubL.eq)) | (refine Sub.of_eq ?_; intro o ob h; rcases o with _ | _ | _ | _ | _ | o <;> simp_all)) ?_
    refine q_t rfl ?_
    refine q_not rfl ?_
    refine q_pick_f rfl rfl ?_
    refine rg_nil ?_
    refine VS_cond rfl (fun c0 => ?_) (fun c0 => ?_)
    · try simp at c0
      refine VS_seq ?_
      refine VS_r0 rfl ?_
      refine q_mv rfl ?_
      refine q_mv rfl ?_
      refine rg_nil ?_
      refine VS_ret ?_
      refine Bd.now ⟨_, rfl, ?_⟩
      have : (goodKeys xs && xs.contains k) = false := by simp_all
      rw [this]; rfl
    · try simp at c0
      refine VS_skip ?_
      refine VS_seq ?_
      refine VS_r0 rfl ?_
      refine q_mv rfl ?_
      refine q_mv rfl ?_
      refine q_callp (c_spec_below xs k hl) rfl (by first | exact trivial | exact Sub.nil | exact Sub.refl _ | exact Sub.app _ _ | exact SubL.sub (by repeat (first | exact SubL.nil | apply SubL.none | apply SubL.some | apply SubL.sh | apply SubL.eq)) | (refine Sub.of_eq ?_; intro o ob h; rcases o with _ | _ | _ | _ | _ | o <;> simp_all)) ?_
      refine q_mv rfl ?_
      refine rg_nil ?_
      have l0 : goodKeys xs = true := by simp_all
      have l3 : xs.contains k = true := by simp_all
      have l1 := contains_below (k := k) l0
      have l2 : upTo xs (k - 1) < xs.length := by rw [l3] at l1; simp at l1; omega
      refine VS_seq ?_
      refine VS_r2 [] hmix Sub.nil ?_
      refine q_mv rfl ?_
      refine q_mv rfl ?_
      refine q_slc_m (xs := xs) (f := fun k => i64 k) 0 (upTo xs (k - 1)) rfl rfl rfl ⟨rfl, rfl, by omega, by omega⟩ (fun _ => rfl) ?_
      refine q_mv rfl ?_
      refine q_mv rfl ?_
      refine q_add rfl rfl (inR64 (by omega)) ?_
      refine q_slc_m (xs := xs) (f := fun k => i64 k) (upTo xs (k - 1) + 1) xs.length rfl rfl rfl ⟨rfl, by simp, by omega, by omega⟩ (fun _ => rfl) ?_
      refine q_new rfl (c_spec_copyInts ((xs.take (upTo xs (k - 1))).drop 0) (by first | omega | (simp; omega))) (flat_I _) (by first | rfl | (repeat' (first | exact toRs_nil | refine toRs_cons ?_ ?_ | rfl | exact toR_I rfl | exact toR_P rfl | refine toR_agg2 ?_ ?_ | refine toR_agg3 ?_ ?_ ?_))) (by first | exact trivial | exact Sub.nil | exact Sub.refl _ | exact Sub.app _ _ | exact SubL.sub (by repeat (first | exact SubL.nil | apply SubL.none | apply SubL.some | apply SubL.sh | apply SubL.eq)) | (refine Sub.of_eq ?_; intro o ob h; rcases o with _ | _ | _ | _ | _ | o <;> simp_all)) ?_
      refine q_app_dm (xs := (xs.take (upTo xs (k - 1))).drop 0) (ys := (xs.take xs.length).drop (upTo xs (k - 1) + 1)) (f := fun k => .pv (i64 k)) rfl (elems_I _) (cell_I _) rfl ⟨by simp; omega, by simp; omega⟩ (by first | exact trivial | exact Sub.nil | exact Sub.refl _ | exact Sub.app _ _ | exact SubL.sub (by repeat (first | exact SubL.nil | apply SubL.none | apply SubL.some | apply SubL.sh | apply SubL.eq)) | (refine Sub.of_eq ?_; intro o ob h; rcases o with _ | _ | _ | _ | _ | o <;> simp_all)) ?_
      refine q_mv rfl ?_
      refine q_mv rfl ?_
      refine rg_nil ?_
      refine VS_ret ?_
      refine Bd.pureB 4 1 3 1 (xs := dI ((xs.take (upTo xs (k - 1))).drop 0 ++ (xs.take xs.length).drop (upTo xs (k - 1) + 1))) rfl rfl (toPVs_dI _) ?_
      exact Bd.now ⟨_, rfl, by rw [l0, l3]; simp [rmK]⟩
  · try simp at g10
    refine q_f rfl ?_
    refine q_f rfl ?_
    refine q_f rfl ?_
    refine q_f rfl ?_
    refine q_pick_t rfl rfl ?_
    refine rg_nil ?_
    refine VS_cond rfl (fun _ => ?_) (fun e => by cases e)
    refine VS_seq ?_
    refine VS_r0 rfl ?_
    refine q_mv rfl ?_
    refine q_mv rfl ?_
    refine rg_nil ?_
    refine VS_ret ?_
    refine Bd.now ⟨_, rfl, ?_⟩
    have : (goodKeys xs && xs.contains k) = false := by simp_all
    rw [this]; rfl
theorem c_spec_DrawKeysBelow (bs : List Int) (hb : isU8 bs) (hl : bs.length ≤ 1048576) : PCon prog 69 [u8s bs] (fun p => ∃ (ks : List Int) (k : Int), p = .tup [ints ks, i64 k] ∧ (ks.length ≤ 20 ∧ bdI 1000000000 ks) ∧ -1000000001 ≤ k ∧ k ≤ 1000000001) := by
  refine con_of_VS sl_spec_DrawKeysBelow (by simp) ?_
  refine VS_seq ?_
  refine VS_r0 rfl ?_
  refine q_mv rfl ?_
  refine q_mv rfl ?_
  refine rg_nil ?_
  refine VS_seq ?_
  refine VS_r0 rfl ?_
  refine q_mv rfl ?_
  refine q_newRd rfl (c_spec_newReader _ hb hl) rfl (fun _ => (by first | exact trivial | exact Sub.nil | exact Sub.refl _ | exact Sub.app _ _ | exact SubL.sub (by repeat (first | exact SubL.nil | apply SubL.none | apply SubL.some | apply SubL.sh | apply SubL.eq)) | (refine Sub.of_eq ?_; intro o ob h; rcases o with _ | _ | _ | _ | _ | o <;> simp_all))) ?_
  rintro bs ⟨hb, hbl⟩
  refine q_mv rfl ?_
  refine rg_nil ?_
  refine VS_seq ?_
  refine VS_r0 rfl ?_
  refine q_mv rfl ?_
  refine q_rd rfl (c_spec_someKeys bs hb hbl _ (by omega) (by omega)) rfl rfl (fun _ => (by first | exact trivial | exact Sub.nil | exact Sub.set (Sub.refl _) _ _ (by simp) | exact SubL.sub (by repeat (first | exact SubL.nil | apply SubL.none | apply SubL.some | apply SubL.sh | apply SubL.eq)) | (refine Sub.of_eq ?_; intro o ob h; rcases o with _ | _ | _ | _ | o <;> simp_all))) ?_
  rintro _ q9 ⟨ks, rfl, ⟨hx1, hx2⟩, ⟨hq1, hq2⟩⟩
  refine q_mv rfl ?_
  refine rg_nil ?_
  refine VS_seq ?_
  refine VS_r0 rfl ?_
  refine q_mv rfl ?_
  refine q_mv rfl ?_
  refine q_mv rfl ?_
  refine q_rd rfl (c_spec_keyNear bs hb hbl _ (by omega) ks (by omega) hx2 (by omega)) rfl rfl (fun _ => (by first | exact trivial | exact Sub.nil | exact Sub.set (Sub.refl _) _ _ (by simp) | exact SubL.sub (by repeat (first | exact SubL.nil | apply SubL.none | apply SubL.some | apply SubL.sh | apply SubL.eq)) | (refine Sub.of_eq ?_; intro o ob h; rcases o with _ | _ | _ | _ | o <;> simp_all))) ?_
  rintro _ q13 ⟨k, rfl, q_k, ⟨hq3, hq4⟩⟩
  refine q_mv rfl ?_
  refine q_mv rfl ?_
  refine rg_nil ?_
  refine VS_ret ?_
  exact Bd.now ⟨_, rfl, ks, k, rfl, ⟨hx1, hx2⟩, q_k⟩
theorem c_spec_DrawRemoveKey (bs : List Int) (hb : isU8 bs) (hl : bs.length ≤ 1048576) : PCon prog 42 [u8s bs] (fun p => ∃ (ks : List Int) (k : Int), p = .tup [ints ks, i64 k] ∧ (ks.length ≤ 20 ∧ bdI 1000000000 ks) ∧ -1000000001 ≤ k ∧ k ≤ 1000000001) := by
  refine con_of_VS sl_spec_DrawRemoveKey (by simp) ?_
  refine VS_seq ?_
  refine VS_r0 rfl ?_
  refine q_mv rfl ?_
  refine q_mv rfl ?_
  refine rg_nil ?_
  refine VS_seq ?_
  refine VS_r0 rfl ?_
  refine q_mv rfl ?_
  refine q_calle rfl (c_spec_DrawKeysBelow bs hb hl) rfl (by first | exact trivial | exact Sub.nil | exact Sub.refl _ | exact Sub.app _ _ | exact SubL.sub (by repeat (first | exact SubL.nil | apply SubL.none | apply SubL.some | apply SubL.sh | apply SubL.eq)) | (refine Sub.of_eq ?_; intro o ob h; rcases o with _ | _ | _ | _ | _ | o <;> simp_all)) ?_
  rintro _ ⟨ks, k, rfl, ⟨hx1, hx2⟩, q_k⟩
  refine q_ext rfl rfl ?_
  refine q_ext rfl rfl ?_
  refine q_mv rfl ?_
  refine q_mv rfl ?_
  refine rg_nil ?_
  refine VS_ret ?_
  exact Bd.now ⟨_, rfl, ks, k, rfl, ⟨hx1, hx2⟩, q_k⟩
end Go.V
