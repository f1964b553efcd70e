/- A part of the proofs about laws of the page tree (see the text that bears the law): a small language of steps, its rules, and what the functions of the program return. -/
import Derived.Test.YtjbihdcdamchnaaWKm
import Derived.Test.YtjbihdcdamchnaaPR
set_option linter.all false
set_option linter.unusedVariables false
set_option linter.unusedSimpArgs false
set_option maxHeartbeats 4000000
namespace Go.V
open Go.Proofs.Try (prog)
theorem c_slices_Grow_int (n : Nat) (hn : n ≤ 1000000000) : GrowS prog 97 3 1 n := by
  refine callS_of_VS sl_slices_Grow_int (by simp) ?_
  refine VS_seq ?_
  refine VS_r0 rfl ?_
  refine q_mv rfl ?_
  refine rg_nil ?_
  refine VS_seq ?_
  refine VS_seq ?_
  refine VS_r0 rfl ?_
  refine q_mv rfl ?_
  refine q_lss_v false rfl rfl (decide_eq_false (by omega)) ?_
  refine rg_nil ?_
  refine VS_cond rfl (fun e => by cases e) (fun _ => ?_)
  refine VS_skip ?_
  refine VS_seq ?_
  refine VS_seq ?_
  refine VS_r0 rfl ?_
  refine q_mv rfl ?_
  refine q_mv rfl ?_
  first | refine q_cap rfl ?_ | refine q_cap_n rfl ?_
  refine q_mv rfl ?_
  first | refine q_len_m rfl ?_ | refine q_len_s rfl ?_ | refine q_len_o rfl ?_ | refine q_len_n rfl ?_ | refine q_len_x rfl ?_
  refine q_sub rfl rfl (inR64 (by omega)) ?_
  refine q_sub_to (n : Int) rfl rfl (by omega) (inR64 (by omega)) ?_
  refine q_mv rfl ?_
  refine rg_nil ?_
  refine VS_seq ?_
  refine VS_r0 rfl ?_
  refine q_mv rfl ?_
  refine q_gtr rfl rfl ?_
  refine rg_nil ?_
  refine VS_cond rfl (fun c1 => ?_) (fun c1 => ?_)
  · try simp at c1
    refine VS_r0 rfl ?_
    refine q_mv rfl ?_
    refine q_mv rfl ?_
    first | refine q_cap rfl ?_ | refine q_cap_n rfl ?_
    refine q_slc_nil rfl rfl rfl ?_
    refine q_mv rfl ?_
    refine q_appz_n (m := n) rfl rfl ⟨by omega, by omega, by unfold maxLen; omega⟩ ⟨(by first | exact trivial | exact Sub.nil | exact Sub.refl _ | exact Sub.app _ _ | exact SubL.sub (by repeat (first | exact SubL.nil | apply SubL.none | apply SubL.some | apply SubL.sh | apply SubL.eq)) | (refine Sub.of_eq ?_; intro o ob h; rcases o with _ | _ | _ | _ | _ | o <;> simp_all)), ?_⟩
    refine q_mv rfl ?_
    first | refine q_len_m rfl ?_ | refine q_len_s rfl ?_ | refine q_len_o rfl ?_ | refine q_len_n rfl ?_ | refine q_len_x rfl ?_
    refine q_slc_o (m := 0) rfl rfl rfl ⟨rfl, by omega⟩ ?_
    refine q_mv rfl ?_
    refine rg_nil ?_
    refine VS_seq ?_
    refine VS_r0 rfl ?_
    refine q_mv rfl ?_
    refine q_mv rfl ?_
    refine rg_nil ?_
    refine VS_ret ?_
    first | exact Bd.cut 0 0 rfl ⟨_, rfl, .inr ⟨by omega, rfl, rfl⟩⟩ | exact Bd.now ⟨_, rfl, .inl ⟨by omega, rfl, rfl⟩⟩
  · try simp at c1
    refine VS_skip ?_
    refine VS_seq ?_
    refine VS_r0 rfl ?_
    refine q_mv rfl ?_
    refine q_mv rfl ?_
    refine rg_nil ?_
    refine VS_ret ?_
    first | exact Bd.cut 0 0 rfl ⟨_, rfl, .inr ⟨by omega, rfl, rfl⟩⟩ | exact Bd.now ⟨_, rfl, .inl ⟨by omega, rfl, rfl⟩⟩
theorem c_slices_Grow_Pair (n : Nat) (hn : n ≤ 1000000000) : GrowS prog 89 43 2 n := by
  refine callS_of_VS sl_slices_Grow_Pair (by simp) ?_
  refine VS_seq ?_
  refine VS_r0 rfl ?_
  refine q_mv rfl ?_
  refine rg_nil ?_
  refine VS_seq ?_
  refine VS_seq ?_
  refine VS_r0 rfl ?_
  refine q_mv rfl ?_
  refine q_lss_v false rfl rfl (decide_eq_false (by omega)) ?_
  refine rg_nil ?_
  refine VS_cond rfl (fun e => by cases e) (fun _ => ?_)
  refine VS_skip ?_
  refine VS_seq ?_
  refine VS_seq ?_
  refine VS_r0 rfl ?_
  refine q_mv rfl ?_
  refine q_mv rfl ?_
  first | refine q_cap rfl ?_ | refine q_cap_n rfl ?_
  refine q_mv rfl ?_
  first | refine q_len_m rfl ?_ | refine q_len_s rfl ?_ | refine q_len_o rfl ?_ | refine q_len_n rfl ?_ | refine q_len_x rfl ?_
  refine q_sub rfl rfl (inR64 (by omega)) ?_
  refine q_sub_to (n : Int) rfl rfl (by omega) (inR64 (by omega)) ?_
  refine q_mv rfl ?_
  refine rg_nil ?_
  refine VS_seq ?_
  refine VS_r0 rfl ?_
  refine q_mv rfl ?_
  refine q_gtr rfl rfl ?_
  refine rg_nil ?_
  refine VS_cond rfl (fun c1 => ?_) (fun c1 => ?_)
  · try simp at c1
    refine VS_r0 rfl ?_
    refine q_mv rfl ?_
    refine q_mv rfl ?_
    first | refine q_cap rfl ?_ | refine q_cap_n rfl ?_
    refine q_slc_nil rfl rfl rfl ?_
    refine q_mv rfl ?_
    refine q_appz_n (m := n) rfl rfl ⟨by omega, by omega, by unfold maxLen; omega⟩ ⟨(by first | exact trivial | exact Sub.nil | exact Sub.refl _ | exact Sub.app _ _ | exact SubL.sub (by repeat (first | exact SubL.nil | apply SubL.none | apply SubL.some | apply SubL.sh | apply SubL.eq)) | (refine Sub.of_eq ?_; intro o ob h; rcases o with _ | _ | _ | _ | _ | o <;> simp_all)), ?_⟩
    refine q_mv rfl ?_
    first | refine q_len_m rfl ?_ | refine q_len_s rfl ?_ | refine q_len_o rfl ?_ | refine q_len_n rfl ?_ | refine q_len_x rfl ?_
    refine q_slc_o (m := 0) rfl rfl rfl ⟨rfl, by omega⟩ ?_
    refine q_mv rfl ?_
    refine rg_nil ?_
    refine VS_seq ?_
    refine VS_r0 rfl ?_
    refine q_mv rfl ?_
    refine q_mv rfl ?_
    refine rg_nil ?_
    refine VS_ret ?_
    first | exact Bd.cut 0 0 rfl ⟨_, rfl, .inr ⟨by omega, rfl, rfl⟩⟩ | exact Bd.now ⟨_, rfl, .inl ⟨by omega, rfl, rfl⟩⟩
  · try simp at c1
    refine VS_skip ?_
    refine VS_seq ?_
    refine VS_r0 rfl ?_
    refine q_mv rfl ?_
    refine q_mv rfl ?_
    refine rg_nil ?_
    refine VS_ret ?_
    first | exact Bd.cut 0 0 rfl ⟨_, rfl, .inr ⟨by omega, rfl, rfl⟩⟩ | exact Bd.now ⟨_, rfl, .inl ⟨by omega, rfl, rfl⟩⟩
theorem c_slices_Concat_int (xss : List (List Int)) (hn : xss.length ≤ 1000000) (hl : xss.flatten.length ≤ 100000000) : PCon prog 87 [.sl (xss.map fun xs => ints xs)] (fun p => p = ints xss.flatten) := by
  refine con_of_VS sl_slices_Concat_int (by simp) ?_
  refine VS_seq ?_
  refine VS_r0 rfl ?_
  refine q_mv rfl ?_
  refine rg_nil ?_
  refine VS_seq ?_
  refine VS_r0 rfl ?_
  refine q_mv rfl ?_
  refine rg_nil ?_
  refine VS_seq ?_
  refine VS_seq ?_
  refine VS_r0 rfl ?_
  refine q_mv rfl ?_
  first | refine q_len_m rfl ?_ | refine q_len_s rfl ?_ | refine q_len_o rfl ?_ | refine q_len_n rfl ?_ | refine q_len_x rfl ?_
  refine q_mv rfl ?_
  refine rg_nil ?_
  refine VS_block ?_
  refine VS_bd (Bd.keepL [(0, .pv (.sl (xss.map fun xs => ints xs))), (3, .pv (i64 ((xss.take 0).flatten.length : Nat))), (9, .pv (.sl (xss.map fun xs => ints xs))), (10, .pv (i64 xss.length)), (11, .pv (i64 0))] ⟨rfl, rfl, rfl, rfl, rfl, trivial⟩ ?_)
  refine VS_loop (fun mz E S => ∃ i : Nat, mz = xss.length - i ∧ (i ≤ xss.length) ∧ E = env [(0, .pv (.sl (xss.map fun xs => ints xs))), (3, .pv (i64 ((xss.take i).flatten.length : Nat))), (9, .pv (.sl (xss.map fun xs => ints xs))), (10, .pv (i64 xss.length)), (11, .pv (i64 i))] ∧ S = []) ⟨_, 0, rfl, (by first | omega | (intros; omega) | simp), rfl, rfl⟩ ?_
  rintro mz _ _ ⟨i, hmeas, g0, rfl, rfl⟩
  refine VS_seq ?_
  refine VS_r0 rfl ?_
  refine q_lss rfl rfl ?_
  refine rg_nil ?_
  refine VS_seq ?_
  refine VS_cond rfl (fun c0 => ?_) (fun c0 => ?_)
  · try simp at c0
    have hf := flat_step (xss := xss) (i := i) (by omega)
    have hf1 : (xss.take (i + 1)).flatten.length = (xss.take i).flatten.length + (nth xss i).length := by rw [hf, List.length_append]
    have hf2 := flat_le xss (i + 1)
    refine VS_skip ?_
    refine VS_seq ?_
    refine VS_block ?_
    refine VS_seq ?_
    refine VS_r0 rfl ?_
    first | refine q_idx_c _ rfl rfl (by omega) (fun _ => rfl) ?_ | refine q_idx_m rfl rfl (by omega) (by omega) (fun _ => rfl) ?_ | refine q_idx_om rfl rfl (by omega) (by omega) rfl rfl ?_
    first | refine q_load_c rfl rfl rfl ?_ | refine q_load_r rfl rfl rfl rfl rfl rfl rfl ?_ | refine q_load_o rfl rfl rfl rfl rfl ?_
    refine q_mv rfl ?_
    refine rg_nil ?_
    refine VS_seq ?_
    refine VS_r0 rfl ?_
    refine q_mv rfl ?_
    refine q_mv rfl ?_
    first | refine q_len_m rfl ?_ | refine q_len_s rfl ?_ | refine q_len_o rfl ?_ | refine q_len_n rfl ?_ | refine q_len_x rfl ?_
    refine q_add_to (((xss.take (i + 1)).flatten.length : Nat) : Int) rfl rfl (by omega) (inR64 (by omega)) ?_
    refine q_mv rfl ?_
    refine rg_nil ?_
    refine VS_seq ?_
    refine VS_r0 rfl ?_
    refine q_mv rfl ?_
    refine q_lss_v false rfl rfl (decide_eq_false (by omega)) ?_
    refine rg_nil ?_
    refine VS_cond rfl (fun e => by cases e) (fun _ => ?_)
    refine VS_skip ?_
    refine VS_r0 rfl ?_
    refine q_add rfl rfl (inR64 (by omega)) ?_
    refine q_mv rfl ?_
    refine rg_nil ?_
    refine Bd.keepL [(0, .pv (.sl (xss.map fun xs => ints xs))), (3, .pv (i64 ((xss.take (i + 1)).flatten.length : Nat))), (9, .pv (.sl (xss.map fun xs => ints xs))), (10, .pv (i64 xss.length)), (11, .pv (i64 (i + 1)))] ⟨rfl, rfl, rfl, rfl, rfl, trivial⟩ ⟨_, ?_, i + 1, rfl, ?_, rfl, rfl⟩
    · first | omega | assumption | rfl | (simp; omega)
    · first | omega | assumption | rfl | (simp; omega)
  · try simp at c0
    refine VS_exit ?_
    refine VS_seq ?_
    obtain rfl : i = xss.length := by omega
    rw [List.take_length]
    by_cases hz : xss.flatten.length = 0
    · skip
      refine VS_r0 rfl ?_
      refine q_mv rfl ?_
      refine q_grow rfl (c_slices_Grow_int xss.flatten.length (by omega)) rfl (by first | exact trivial | exact Sub.nil | exact Sub.refl _ | exact Sub.app _ _ | exact SubL.sub (by repeat (first | exact SubL.nil | apply SubL.none | apply SubL.some | apply SubL.sh | apply SubL.eq)) | (refine Sub.of_eq ?_; intro o ob h; rcases o with _ | _ | _ | _ | _ | o <;> simp_all)) (by first | exact trivial | exact Sub.nil | exact Sub.refl _ | exact Sub.app _ _ | exact SubL.sub (by repeat (first | exact SubL.nil | apply SubL.none | apply SubL.some | apply SubL.sh | apply SubL.eq)) | (refine Sub.of_eq ?_; intro o ob h; rcases o with _ | _ | _ | _ | _ | o <;> simp_all)) (fun _ => ?_) (fun h => absurd h (by omega))
      refine q_mv rfl ?_
      refine rg_nil ?_
      refine VS_seq ?_
      refine VS_seq ?_
      refine VS_r0 rfl ?_
      refine q_mv rfl ?_
      first | refine q_len_m rfl ?_ | refine q_len_s rfl ?_ | refine q_len_o rfl ?_ | refine q_len_n rfl ?_ | refine q_len_x rfl ?_
      refine q_mv rfl ?_
      refine rg_nil ?_
      refine VS_block ?_
      refine VS_bd (Bd.keepL [(6, .nils), (25, .pv (.sl (xss.map fun xs => ints xs))), (26, .pv (i64 xss.length)), (27, .pv (i64 0))] ⟨rfl, rfl, rfl, rfl, trivial⟩ ?_)
      refine VS_loop (fun mz E S => ∃ i : Nat, mz = xss.length - i ∧ (i ≤ xss.length) ∧ E = env [(6, .nils), (25, .pv (.sl (xss.map fun xs => ints xs))), (26, .pv (i64 xss.length)), (27, .pv (i64 i))] ∧ S = []) ⟨_, 0, rfl, (by first | omega | (intros; omega) | simp), rfl, rfl⟩ ?_
      rintro mz _ _ ⟨i, hmeas, g0, rfl, rfl⟩
      refine VS_seq ?_
      refine VS_r0 rfl ?_
      refine q_lss rfl rfl ?_
      refine rg_nil ?_
      refine VS_seq ?_
      refine VS_cond rfl (fun c2 => ?_) (fun c2 => ?_)
      · try simp at c2
        have hf := flat_step (xss := xss) (i := i) (by omega)
        have hf1 : (xss.take (i + 1)).flatten.length = (xss.take i).flatten.length + (nth xss i).length := by rw [hf, List.length_append]
        have hf2 := flat_le xss (i + 1)
        refine VS_skip ?_
        refine VS_seq ?_
        refine VS_block ?_
        refine VS_seq ?_
        refine VS_r0 rfl ?_
        first | refine q_idx_c _ rfl rfl (by omega) (fun _ => rfl) ?_ | refine q_idx_m rfl rfl (by omega) (by omega) (fun _ => rfl) ?_ | refine q_idx_om rfl rfl (by omega) (by omega) rfl rfl ?_
        first | refine q_load_c rfl rfl rfl ?_ | refine q_load_r rfl rfl rfl rfl rfl rfl rfl ?_ | refine q_load_o rfl rfl rfl rfl rfl ?_
        refine q_mv rfl ?_
        refine rg_nil ?_
        refine VS_r0 rfl ?_
        refine q_mv rfl ?_
        refine q_mv rfl ?_
        refine q_app_n (ys := dI (nth xss i)) rfl (elems_I _) (cell_I _) (fun _ => ⟨(by first | exact trivial | exact Sub.nil | exact Sub.refl _ | exact Sub.app _ _ | exact SubL.sub (by repeat (first | exact SubL.nil | apply SubL.none | apply SubL.some | apply SubL.sh | apply SubL.eq)) | (refine Sub.of_eq ?_; intro o ob h; rcases o with _ | _ | _ | _ | _ | o <;> simp_all)), ?_⟩) (fun h => absurd (by have : nth xss i = [] := List.length_eq_zero_iff.1 (by omega); rw [this]; rfl) h)
        refine q_mv rfl ?_
        refine rg_nil ?_
        refine VS_r0 rfl ?_
        refine q_add rfl rfl (inR64 (by omega)) ?_
        refine q_mv rfl ?_
        refine rg_nil ?_
        refine Bd.keepL [(6, .nils), (25, .pv (.sl (xss.map fun xs => ints xs))), (26, .pv (i64 xss.length)), (27, .pv (i64 (i + 1)))] ⟨rfl, rfl, rfl, rfl, trivial⟩ ⟨_, ?_, i + 1, rfl, ?_, rfl, rfl⟩
        · first | omega | assumption | rfl | (simp; omega)
        · first | omega | assumption | rfl | (simp; omega)
      · try simp at c2
        refine VS_exit ?_
        refine VS_seq ?_
        refine VS_r0 rfl ?_
        refine q_mv rfl ?_
        refine q_mv rfl ?_
        refine rg_nil ?_
        refine VS_ret ?_
        have hfl : xss.flatten = [] := List.length_eq_zero_iff.1 hz
        exact Bd.now ⟨_, rfl, by rw [hfl]; rfl⟩
    · skip
      refine VS_r0 rfl ?_
      refine q_mv rfl ?_
      refine q_grow rfl (c_slices_Grow_int xss.flatten.length (by omega)) rfl (by first | exact trivial | exact Sub.nil | exact Sub.refl _ | exact Sub.app _ _ | exact SubL.sub (by repeat (first | exact SubL.nil | apply SubL.none | apply SubL.some | apply SubL.sh | apply SubL.eq)) | (refine Sub.of_eq ?_; intro o ob h; rcases o with _ | _ | _ | _ | _ | o <;> simp_all)) (by first | exact trivial | exact Sub.nil | exact Sub.refl _ | exact Sub.app _ _ | exact SubL.sub (by repeat (first | exact SubL.nil | apply SubL.none | apply SubL.some | apply SubL.sh | apply SubL.eq)) | (refine Sub.of_eq ?_; intro o ob h; rcases o with _ | _ | _ | _ | _ | o <;> simp_all)) (fun h => absurd h hz) (fun _ => ?_)
      refine q_mv rfl ?_
      refine rg_nil ?_
      refine VS_seq ?_
      refine VS_seq ?_
      refine VS_r0 rfl ?_
      refine q_mv rfl ?_
      first | refine q_len_m rfl ?_ | refine q_len_s rfl ?_ | refine q_len_o rfl ?_ | refine q_len_n rfl ?_ | refine q_len_x rfl ?_
      refine q_mv rfl ?_
      refine rg_nil ?_
      refine VS_block ?_
      refine VS_bd (Bd.keepL [(6, .own 0 ((([] : List Int))).length), (25, .pv (.sl (xss.map fun xs => ints xs))), (26, .pv (i64 xss.length)), (27, .pv (i64 0))] ⟨rfl, rfl, rfl, rfl, trivial⟩ ?_)
      refine VS_loop (fun mz E S => ∃ i : Nat, ∃ acc : List Int, mz = xss.length - i ∧ (i ≤ xss.length) ∧ (acc = (xss.take i).flatten) ∧ (acc.length = (xss.take i).flatten.length) ∧ E = env [(6, .own 0 (acc).length), (25, .pv (.sl (xss.map fun xs => ints xs))), (26, .pv (i64 xss.length)), (27, .pv (i64 i))] ∧ S = [some ⟨3, 1, dI acc⟩]) ⟨_, 0, ([] : List Int), rfl, (by first | omega | (intros; omega) | simp), rfl, rfl, rfl, rfl⟩ ?_
      rintro mz _ _ ⟨i, acc, hmeas, g0, g1, g2, rfl, rfl⟩
      refine VS_seq ?_
      refine VS_r0 rfl ?_
      refine q_lss rfl rfl ?_
      refine rg_nil ?_
      refine VS_seq ?_
      refine VS_cond rfl (fun c2 => ?_) (fun c2 => ?_)
      · try simp at c2
        have hf := flat_step (xss := xss) (i := i) (by omega)
        have hf1 : (xss.take (i + 1)).flatten.length = (xss.take i).flatten.length + (nth xss i).length := by rw [hf, List.length_append]
        have hf2 := flat_le xss (i + 1)
        refine VS_skip ?_
        refine VS_seq ?_
        refine VS_block ?_
        refine VS_seq ?_
        refine VS_r0 rfl ?_
        first | refine q_idx_c _ rfl rfl (by omega) (fun _ => rfl) ?_ | refine q_idx_m rfl rfl (by omega) (by omega) (fun _ => rfl) ?_ | refine q_idx_om rfl rfl (by omega) (by omega) rfl rfl ?_
        first | refine q_load_c rfl rfl rfl ?_ | refine q_load_r rfl rfl rfl rfl rfl rfl rfl ?_ | refine q_load_o rfl rfl rfl rfl rfl ?_
        refine q_mv rfl ?_
        refine rg_nil ?_
        refine VS_r0 rfl ?_
        refine q_mv rfl ?_
        refine q_mv rfl ?_
        refine q_app_om (xs := acc) (ys := nth xss i) (g := fun k => .pv (i64 k)) rfl (elems_I _) (cell_I _) rfl ⟨by omega, by unfold maxLen; omega⟩ (by first | exact trivial | exact Sub.nil | exact Sub.refl _ | exact Sub.app _ _ | exact SubL.sub (by repeat (first | exact SubL.nil | apply SubL.none | apply SubL.some | apply SubL.sh | apply SubL.eq)) | (refine Sub.of_eq ?_; intro o ob h; rcases o with _ | _ | _ | _ | _ | o <;> simp_all)) (by first | exact trivial | exact Sub.nil | exact Sub.refl _ | exact Sub.app _ _ | exact SubL.sub (by repeat (first | exact SubL.nil | apply SubL.none | apply SubL.some | apply SubL.sh | apply SubL.eq)) | (refine Sub.of_eq ?_; intro o ob h; rcases o with _ | _ | _ | _ | _ | o <;> simp_all)) ?_ ?_
        · intro hys
          refine q_mv rfl ?_
          refine rg_nil ?_
          refine VS_r0 rfl ?_
          refine q_add rfl rfl (inR64 (by omega)) ?_
          refine q_mv rfl ?_
          refine rg_nil ?_
          refine Bd.renL [0] (fun i hi => by first | (exact absurd hi (Nat.not_lt_zero i)) | (have e : i = 0 := (by simp at hi; omega); subst e; rfl) | (have e : i = 0 ∨ i = 1 := (by simp at hi; omega); rcases e with rfl | rfl <;> rfl)) (by simp) [(6, .own 0 (acc).length), (25, .pv (.sl (xss.map fun xs => ints xs))), (26, .pv (i64 xss.length)), (27, .pv (i64 (i + 1)))] ⟨rfl, rfl, rfl, rfl, trivial⟩ (l1 (mpO_I _)) ⟨_, ?_, i + 1, acc, rfl, ?_, ?_, ?_, rfl, rfl⟩
          · first | omega | assumption | rfl | (simp; omega)
          · first | omega | assumption | rfl | (simp; omega)
          · rw [hf, hys, List.append_nil]; exact g1
          · rw [hf1, hys]; simpa using g2
        · intro hys
          refine q_mv rfl ?_
          refine rg_nil ?_
          refine VS_r0 rfl ?_
          refine q_add rfl rfl (inR64 (by omega)) ?_
          refine q_mv rfl ?_
          refine rg_nil ?_
          refine Bd.renL [1] (fun i hi => by first | (exact absurd hi (Nat.not_lt_zero i)) | (have e : i = 0 := (by simp at hi; omega); subst e; rfl) | (have e : i = 0 ∨ i = 1 := (by simp at hi; omega); rcases e with rfl | rfl <;> rfl)) (by simp) [(6, .own 0 ((acc ++ nth xss i)).length), (25, .pv (.sl (xss.map fun xs => ints xs))), (26, .pv (i64 xss.length)), (27, .pv (i64 (i + 1)))] ⟨rfl, rfl, rfl, rfl, trivial⟩ (l1 (mpO_I _)) ⟨_, ?_, i + 1, acc ++ nth xss i, rfl, ?_, ?_, ?_, rfl, rfl⟩
          · first | omega | assumption | rfl | (simp; omega)
          · first | omega | assumption | rfl | (simp; omega)
          · rw [hf, g1]
          · rw [hf1, List.length_append]; omega
      · try simp at c2
        refine VS_exit ?_
        refine VS_seq ?_
        refine VS_r0 rfl ?_
        refine q_mv rfl ?_
        refine q_mv rfl ?_
        refine rg_nil ?_
        refine VS_ret ?_
        have e : i = xss.length := by omega
        subst e
        rw [List.take_length] at g1
        subst g1
        refine Bd.pureOB 2 0 rfl rfl (List.length_map ..) (toPVs_dI _) ?_
        exact Bd.now ⟨_, rfl, rfl⟩
theorem c_slices_Concat_Pair (xss : List (List (Int × Int))) (hn : xss.length ≤ 1000000) (hl : xss.flatten.length ≤ 100000000) : PCon prog 58 [.sl (xss.map fun xs => prs xs)] (fun p => p = prs xss.flatten) := by
  refine con_of_VS sl_slices_Concat_Pair (by simp) ?_
  refine VS_seq ?_
  refine VS_r0 rfl ?_
  refine q_mv rfl ?_
  refine rg_nil ?_
  refine VS_seq ?_
  refine VS_r0 rfl ?_
  refine q_mv rfl ?_
  refine rg_nil ?_
  refine VS_seq ?_
  refine VS_seq ?_
  refine VS_r0 rfl ?_
  refine q_mv rfl ?_
  first | refine q_len_m rfl ?_ | refine q_len_s rfl ?_ | refine q_len_o rfl ?_ | refine q_len_n rfl ?_ | refine q_len_x rfl ?_
  refine q_mv rfl ?_
  refine rg_nil ?_
  refine VS_block ?_
  refine VS_bd (Bd.keepL [(0, .pv (.sl (xss.map fun xs => prs xs))), (3, .pv (i64 ((xss.take 0).flatten.length : Nat))), (9, .pv (.sl (xss.map fun xs => prs xs))), (10, .pv (i64 xss.length)), (11, .pv (i64 0))] ⟨rfl, rfl, rfl, rfl, rfl, trivial⟩ ?_)
  refine VS_loop (fun mz E S => ∃ i : Nat, mz = xss.length - i ∧ (i ≤ xss.length) ∧ E = env [(0, .pv (.sl (xss.map fun xs => prs xs))), (3, .pv (i64 ((xss.take i).flatten.length : Nat))), (9, .pv (.sl (xss.map fun xs => prs xs))), (10, .pv (i64 xss.length)), (11, .pv (i64 i))] ∧ S = []) ⟨_, 0, rfl, (by first | omega | (intros; omega) | simp), rfl, rfl⟩ ?_
  rintro mz _ _ ⟨i, hmeas, g0, rfl, rfl⟩
  refine VS_seq ?_
  refine VS_r0 rfl ?_
  refine q_lss rfl rfl ?_
  refine rg_nil ?_
  refine VS_seq ?_
  refine VS_cond rfl (fun c0 => ?_) (fun c0 => ?_)
  · try simp at c0
    have hf := flat_step (xss := xss) (i := i) (by omega)
    have hf1 : (xss.take (i + 1)).flatten.length = (xss.take i).flatten.length + (nth xss i).length := by rw [hf, List.length_append]
    have hf2 := flat_le xss (i + 1)
    refine VS_skip ?_
    refine VS_seq ?_
    refine VS_block ?_
    refine VS_seq ?_
    refine VS_r0 rfl ?_
    first | refine q_idx_c _ rfl rfl (by omega) (fun _ => rfl) ?_ | refine q_idx_m rfl rfl (by omega) (by omega) (fun _ => rfl) ?_ | refine q_idx_om rfl rfl (by omega) (by omega) rfl rfl ?_
    first | refine q_load_c rfl rfl rfl ?_ | refine q_load_r rfl rfl rfl rfl rfl rfl rfl ?_ | refine q_load_o rfl rfl rfl rfl rfl ?_
    refine q_mv rfl ?_
    refine rg_nil ?_
    refine VS_seq ?_
    refine VS_r0 rfl ?_
    refine q_mv rfl ?_
    refine q_mv rfl ?_
    first | refine q_len_m rfl ?_ | refine q_len_s rfl ?_ | refine q_len_o rfl ?_ | refine q_len_n rfl ?_ | refine q_len_x rfl ?_
    refine q_add_to (((xss.take (i + 1)).flatten.length : Nat) : Int) rfl rfl (by omega) (inR64 (by omega)) ?_
    refine q_mv rfl ?_
    refine rg_nil ?_
    refine VS_seq ?_
    refine VS_r0 rfl ?_
    refine q_mv rfl ?_
    refine q_lss_v false rfl rfl (decide_eq_false (by omega)) ?_
    refine rg_nil ?_
    refine VS_cond rfl (fun e => by cases e) (fun _ => ?_)
    refine VS_skip ?_
    refine VS_r0 rfl ?_
    refine q_add rfl rfl (inR64 (by omega)) ?_
    refine q_mv rfl ?_
    refine rg_nil ?_
    refine Bd.keepL [(0, .pv (.sl (xss.map fun xs => prs xs))), (3, .pv (i64 ((xss.take (i + 1)).flatten.length : Nat))), (9, .pv (.sl (xss.map fun xs => prs xs))), (10, .pv (i64 xss.length)), (11, .pv (i64 (i + 1)))] ⟨rfl, rfl, rfl, rfl, rfl, trivial⟩ ⟨_, ?_, i + 1, rfl, ?_, rfl, rfl⟩
    · first | omega | assumption | rfl | (simp; omega)
    · first | omega | assumption | rfl | (simp; omega)
  · try simp at c0
    refine VS_exit ?_
    refine VS_seq ?_
    obtain rfl : i = xss.length := by omega
    rw [List.take_length]
    by_cases hz : xss.flatten.length = 0
    · skip
      refine VS_r0 rfl ?_
      refine q_mv rfl ?_
      refine q_grow rfl (c_slices_Grow_Pair xss.flatten.length (by omega)) rfl (by first | exact trivial | exact Sub.nil | exact Sub.refl _ | exact Sub.app _ _ | exact SubL.sub (by repeat (first | exact SubL.nil | apply SubL.none | apply SubL.some | apply SubL.sh | apply SubL.eq)) | (refine Sub.of_eq ?_; intro o ob h; rcases o with _ | _ | _ | _ | _ | o <;> simp_all)) (by first | exact trivial | exact Sub.nil | exact Sub.refl _ | exact Sub.app _ _ | exact SubL.sub (by repeat (first | exact SubL.nil | apply SubL.none | apply SubL.some | apply SubL.sh | apply SubL.eq)) | (refine Sub.of_eq ?_; intro o ob h; rcases o with _ | _ | _ | _ | _ | o <;> simp_all)) (fun _ => ?_) (fun h => absurd h (by omega))
      refine q_mv rfl ?_
      refine rg_nil ?_
      refine VS_seq ?_
      refine VS_seq ?_
      refine VS_r0 rfl ?_
      refine q_mv rfl ?_
      first | refine q_len_m rfl ?_ | refine q_len_s rfl ?_ | refine q_len_o rfl ?_ | refine q_len_n rfl ?_ | refine q_len_x rfl ?_
      refine q_mv rfl ?_
      refine rg_nil ?_
      refine VS_block ?_
      refine VS_bd (Bd.keepL [(6, .nils), (25, .pv (.sl (xss.map fun xs => prs xs))), (26, .pv (i64 xss.length)), (27, .pv (i64 0))] ⟨rfl, rfl, rfl, rfl, trivial⟩ ?_)
      refine VS_loop (fun mz E S => ∃ i : Nat, mz = xss.length - i ∧ (i ≤ xss.length) ∧ E = env [(6, .nils), (25, .pv (.sl (xss.map fun xs => prs xs))), (26, .pv (i64 xss.length)), (27, .pv (i64 i))] ∧ S = []) ⟨_, 0, rfl, (by first | omega | (intros; omega) | simp), rfl, rfl⟩ ?_
      rintro mz _ _ ⟨i, hmeas, g0, rfl, rfl⟩
      refine VS_seq ?_
      refine VS_r0 rfl ?_
      refine q_lss rfl rfl ?_
      refine rg_nil ?_
      refine VS_seq ?_
      refine VS_cond rfl (fun c2 => ?_) (fun c2 => ?_)
      · try simp at c2
        have hf := flat_step (xss := xss) (i := i) (by omega)
        have hf1 : (xss.take (i + 1)).flatten.length = (xss.take i).flatten.length + (nth xss i).length := by rw [hf, List.length_append]
        have hf2 := flat_le xss (i + 1)
        refine VS_skip ?_
        refine VS_seq ?_
        refine VS_block ?_
        refine VS_seq ?_
        refine VS_r0 rfl ?_
        first | refine q_idx_c _ rfl rfl (by omega) (fun _ => rfl) ?_ | refine q_idx_m rfl rfl (by omega) (by omega) (fun _ => rfl) ?_ | refine q_idx_om rfl rfl (by omega) (by omega) rfl rfl ?_
        first | refine q_load_c rfl rfl rfl ?_ | refine q_load_r rfl rfl rfl rfl rfl rfl rfl ?_ | refine q_load_o rfl rfl rfl rfl rfl ?_
        refine q_mv rfl ?_
        refine rg_nil ?_
        refine VS_r0 rfl ?_
        refine q_mv rfl ?_
        refine q_mv rfl ?_
        refine q_app_n (ys := dP (nth xss i)) rfl (elems_P _) (cell_P _) (fun _ => ⟨(by first | exact trivial | exact Sub.nil | exact Sub.refl _ | exact Sub.app _ _ | exact SubL.sub (by repeat (first | exact SubL.nil | apply SubL.none | apply SubL.some | apply SubL.sh | apply SubL.eq)) | (refine Sub.of_eq ?_; intro o ob h; rcases o with _ | _ | _ | _ | _ | o <;> simp_all)), ?_⟩) (fun h => absurd (by have : nth xss i = [] := List.length_eq_zero_iff.1 (by omega); rw [this]; rfl) h)
        refine q_mv rfl ?_
        refine rg_nil ?_
        refine VS_r0 rfl ?_
        refine q_add rfl rfl (inR64 (by omega)) ?_
        refine q_mv rfl ?_
        refine rg_nil ?_
        refine Bd.keepL [(6, .nils), (25, .pv (.sl (xss.map fun xs => prs xs))), (26, .pv (i64 xss.length)), (27, .pv (i64 (i + 1)))] ⟨rfl, rfl, rfl, rfl, trivial⟩ ⟨_, ?_, i + 1, rfl, ?_, rfl, rfl⟩
        · first | omega | assumption | rfl | (simp; omega)
        · first | omega | assumption | rfl | (simp; omega)
      · try simp at c2
        refine VS_exit ?_
        refine VS_seq ?_
        refine VS_r0 rfl ?_
        refine q_mv rfl ?_
        refine q_mv rfl ?_
        refine rg_nil ?_
        refine VS_ret ?_
        have hfl : xss.flatten = [] := List.length_eq_zero_iff.1 hz
        exact Bd.now ⟨_, rfl, by rw [hfl]; rfl⟩
    · skip
      refine VS_r0 rfl ?_
      refine q_mv rfl ?_
      refine q_grow rfl (c_slices_Grow_Pair xss.flatten.length (by omega)) rfl (by first | exact trivial | exact Sub.nil | exact Sub.refl _ | exact Sub.app _ _ | exact SubL.sub (by repeat (first | exact SubL.nil | apply SubL.none | apply SubL.some | apply SubL.sh | apply SubL.eq)) | (refine Sub.of_eq ?_; intro o ob h; rcases o with _ | _ | _ | _ | _ | o <;> simp_all)) (by first | exact trivial | exact Sub.nil | exact Sub.refl _ | exact Sub.app _ _ | exact SubL.sub (by repeat (first | exact SubL.nil | apply SubL.none | apply SubL.some | apply SubL.sh | apply SubL.eq)) | (refine Sub.of_eq ?_; intro o ob h; rcases o with _ | _ | _ | _ | _ | o <;> simp_all)) (fun h => absurd h hz) (fun _ => ?_)
      refine q_mv rfl ?_
      refine rg_nil ?_
      refine VS_seq ?_
      refine VS_seq ?_
      refine VS_r0 rfl ?_
      refine q_mv rfl ?_
      first | refine q_len_m rfl ?_ | refine q_len_s rfl ?_ | refine q_len_o rfl ?_ | refine q_len_n rfl ?_ | refine q_len_x rfl ?_
      refine q_mv rfl ?_
      refine rg_nil ?_
      refine VS_block ?_
      refine VS_bd (Bd.keepL [(6, .own 0 ((([] : List (Int × Int)))).length), (25, .pv (.sl (xss.map fun xs => prs xs))), (26, .pv (i64 xss.length)), (27, .pv (i64 0))] ⟨rfl, rfl, rfl, rfl, trivial⟩ ?_)
      refine VS_loop (fun mz E S => ∃ i : Nat, ∃ acc : List (Int × Int), mz = xss.length - i ∧ (i ≤ xss.length) ∧ (acc = (xss.take i).flatten) ∧ (acc.length = (xss.take i).flatten.length) ∧ E = env [(6, .own 0 (acc).length), (25, .pv (.sl (xss.map fun xs => prs xs))), (26, .pv (i64 xss.length)), (27, .pv (i64 i))] ∧ S = [some ⟨43, 2, dP acc⟩]) ⟨_, 0, ([] : List (Int × Int)), rfl, (by first | omega | (intros; omega) | simp), rfl, rfl, rfl, rfl⟩ ?_
      rintro mz _ _ ⟨i, acc, hmeas, g0, g1, g2, rfl, rfl⟩
      refine VS_seq ?_
      refine VS_r0 rfl ?_
      refine q_lss rfl rfl ?_
      refine rg_nil ?_
      refine VS_seq ?_
      refine VS_cond rfl (fun c2 => ?_) (fun c2 => ?_)
      · try simp at c2
        have hf := flat_step (xss := xss) (i := i) (by omega)
        have hf1 : (xss.take (i + 1)).flatten.length = (xss.take i).flatten.length + (nth xss i).length := by rw [hf, List.length_append]
        have hf2 := flat_le xss (i + 1)
        refine VS_skip ?_
        refine VS_seq ?_
        refine VS_block ?_
        refine VS_seq ?_
        refine VS_r0 rfl ?_
        first | refine q_idx_c _ rfl rfl (by omega) (fun _ => rfl) ?_ | refine q_idx_m rfl rfl (by omega) (by omega) (fun _ => rfl) ?_ | refine q_idx_om rfl rfl (by omega) (by omega) rfl rfl ?_
        first | refine q_load_c rfl rfl rfl ?_ | refine q_load_r rfl rfl rfl rfl rfl rfl rfl ?_ | refine q_load_o rfl rfl rfl rfl rfl ?_
        refine q_mv rfl ?_
        refine rg_nil ?_
        refine VS_r0 rfl ?_
        refine q_mv rfl ?_
        refine q_mv rfl ?_
        refine q_app_om (xs := acc) (ys := nth xss i) (g := fun k => .pv (pairP k)) rfl (elems_P _) (cell_P _) rfl ⟨by omega, by unfold maxLen; omega⟩ (by first | exact trivial | exact Sub.nil | exact Sub.refl _ | exact Sub.app _ _ | exact SubL.sub (by repeat (first | exact SubL.nil | apply SubL.none | apply SubL.some | apply SubL.sh | apply SubL.eq)) | (refine Sub.of_eq ?_; intro o ob h; rcases o with _ | _ | _ | _ | _ | o <;> simp_all)) (by first | exact trivial | exact Sub.nil | exact Sub.refl _ | exact Sub.app _ _ | exact SubL.sub (by repeat (first | exact SubL.nil | apply SubL.none | apply SubL.some | apply SubL.sh | apply SubL.eq)) | (refine Sub.of_eq ?_; intro o ob h; rcases o with _ | _ | _ | _ | _ | o <;> simp_all)) ?_ ?_
        · intro hys
          refine q_mv rfl ?_
          refine rg_nil ?_
          refine VS_r0 rfl ?_
          refine q_add rfl rfl (inR64 (by omega)) ?_
          refine q_mv rfl ?_
          refine rg_nil ?_
          refine Bd.renL [0] (fun i hi => by first | (exact absurd hi (Nat.not_lt_zero i)) | (have e : i = 0 := (by simp at hi; omega); subst e; rfl) | (have e : i = 0 ∨ i = 1 := (by simp at hi; omega); rcases e with rfl | rfl <;> rfl)) (by simp) [(6, .own 0 (acc).length), (25, .pv (.sl (xss.map fun xs => prs xs))), (26, .pv (i64 xss.length)), (27, .pv (i64 (i + 1)))] ⟨rfl, rfl, rfl, rfl, trivial⟩ (l1 (mpO_P _)) ⟨_, ?_, i + 1, acc, rfl, ?_, ?_, ?_, rfl, rfl⟩
          · first | omega | assumption | rfl | (simp; omega)
          · first | omega | assumption | rfl | (simp; omega)
          · rw [hf, hys, List.append_nil]; exact g1
          · rw [hf1, hys]; simpa using g2
        · intro hys
          refine q_mv rfl ?_
          refine rg_nil ?_
          refine VS_r0 rfl ?_
          refine q_add rfl rfl (inR64 (by omega)) ?_
          refine q_mv rfl ?_
          refine rg_nil ?_
          refine Bd.renL [1] (fun i hi => by first | (exact absurd hi (Nat.not_lt_zero i)) | (have e : i = 0 := (by simp at hi; omega); subst e; rfl) | (have e : i = 0 ∨ i = 1 := (by simp at hi; omega); rcases e with rfl | rfl <;> rfl)) (by simp) [(6, .own 0 ((acc ++ nth xss i)).length), (25, .pv (.sl (xss.map fun xs => prs xs))), (26, .pv (i64 xss.length)), (27, .pv (i64 (i + 1)))] ⟨rfl, rfl, rfl, rfl, trivial⟩ (l1 (mpO_P _)) ⟨_, ?_, i + 1, acc ++ nth xss i, rfl, ?_, ?_, ?_, rfl, rfl⟩
          · first | omega | assumption | rfl | (simp; omega)
          · first | omega | assumption | rfl | (simp; omega)
          · rw [hf, g1]
          · rw [hf1, List.length_append]; omega
      · try simp at c2
        refine VS_exit ?_
        refine VS_seq ?_
        refine VS_r0 rfl ?_
        refine q_mv rfl ?_
        refine q_mv rfl ?_
        refine rg_nil ?_
        refine VS_ret ?_
        have e : i = xss.length := by omega
        subst e
        rw [List.take_length] at g1
        subst g1
        refine Bd.pureOB 2 0 rfl rfl (List.length_map ..) (toPVs_dP _) ?_
        exact Bd.now ⟨_, rfl, rfl⟩
end Go.V
