/- A part of the proofs about laws of the page tree (see the text that bears the law): a small language of steps, its rules, and what the functions of the program return. -/
import Derived.Test.YtnnmedfjjkmbaaaWKy
import Derived.Test.YtnnmedfjjkmbaaaWKl
import Derived.Test.YtnnmedfjjkmbaaaWKg
set_option linter.all false
set_option linter.unusedVariables false
set_option linter.unusedSimpArgs false
set_option maxHeartbeats 4000000
namespace Go.V
open Go.Proofs.Try (prog)
theorem c_laws_without (xs : List (Int × Int)) (k : Int) (hl : xs.length ≤ 1000000) : PCon prog 17 [prs xs, i64 k] (fun p => p = prs (wout xs k)) := by
  refine con_of_VS sl_laws_without (by simp) ?_
  refine VS_seq ?_
  refine VS_r0 rfl ?_
  refine q_mv rfl ?_
  refine rg_nil ?_
  refine VS_seq ?_
  refine VS_r0 rfl ?_
  refine q_lit0 ?_
  refine q_mv rfl ?_
  refine rg_nil ?_
  refine VS_seq ?_
  refine VS_seq ?_
  refine VS_r0 rfl ?_
  refine q_mv rfl ?_
  refine rg_nil ?_
  refine VS_block ?_
  refine VS_bd (Bd.pad ?_)
  refine VS_bd (Bd.keepL [(0, .pv (prs xs)), (1, .pv (i64 k)), (5, ownD 0 (dP ([]))), (6, .pv (i64 0))] ⟨rfl, rfl, rfl, rfl, trivial⟩ ?_)
  refine VS_loop (fun mz E S => ∃ i : Nat, ∃ ys : List (Int × Int), mz = xs.length - i ∧ (i ≤ xs.length) ∧ (ys = wout (xs.take i) k) ∧ (ys.length ≤ i) ∧ E = env [(0, .pv (prs xs)), (1, .pv (i64 k)), (5, ownD 0 (dP ys)), (6, .pv (i64 i))] ∧ S = [obD 25 2 (dP ys)]) ⟨_, 0, [], rfl, (by first | omega | (intros; omega) | simp), rfl, Nat.le_refl _, rfl, rfl⟩ ?_
  rintro mz _ _ ⟨i, ys, hmeas, g0, g1, g2, rfl, rfl⟩
  refine VS_seq ?_
  refine VS_seq ?_
  refine VS_r0 rfl ?_
  refine q_mv rfl ?_
  refine q_mv rfl ?_
  first | refine q_len_m rfl ?_ | refine q_len_s rfl ?_ | refine q_len_o rfl ?_ | refine q_len_n rfl ?_ | refine q_len_x rfl ?_
  refine q_lss rfl rfl ?_
  refine rg_nil ?_
  refine VS_cond rfl (fun c0 => ?_) (fun c0 => ?_)
  · try simp at c0
    refine VS_skip ?_
    refine VS_seq ?_
    refine VS_block ?_
    refine VS_seq ?_
    refine VS_r0 rfl ?_
    refine q_mv rfl ?_
    refine q_mv rfl ?_
    first | refine q_idx_c _ rfl rfl (by omega) (fun _ => rfl) ?_ | refine q_idx_m rfl rfl (by omega) (by omega) (fun _ => rfl) ?_ | refine q_idx_om rfl rfl (by omega) (by omega) rfl rfl ?_
    first | refine q_fld_r rfl ?_ | refine q_fld_c rfl rfl ?_
    first | refine q_load_c rfl rfl rfl ?_ | refine q_load_r rfl rfl rfl rfl rfl rfl rfl ?_ | refine q_load_o rfl rfl rfl rfl rfl ?_
    refine q_mv rfl ?_
    refine q_neq rfl rfl ?_
    refine rg_nil ?_
    refine VS_cond rfl (fun c1 => ?_) (fun c1 => ?_)
    · try simp at c1
      refine VS_r0 rfl ?_
      refine q_mv rfl ?_
      refine q_mv rfl ?_
      refine q_mv rfl ?_
      first | refine q_idx_c _ rfl rfl (by omega) (fun _ => rfl) ?_ | refine q_idx_m rfl rfl (by omega) (by omega) (fun _ => rfl) ?_ | refine q_idx_om rfl rfl (by omega) (by omega) rfl rfl ?_
      first | refine q_load_c rfl rfl rfl ?_ | refine q_load_ra rfl rfl rfl rfl rfl (by first | (simp; done) | (simp [setAt]; done)) rfl ?_
      refine q_lit (xs := [pairP (nth xs i)]) rfl rfl rfl rfl ?_
      refine q_app_dm (xs := ys) (ys := [nth xs i]) (f := fun k => .pv (pairP k)) rfl rfl rfl rfl ⟨by simp; omega, by simp; omega⟩ (by first | exact trivial | exact Sub.nil | exact Sub.refl _ | exact Sub.app _ _ | exact SubL.sub (by repeat (first | exact SubL.nil | apply SubL.none | apply SubL.some | apply SubL.sh | apply SubL.eq)) | (refine Sub.of_eq ?_; intro o ob h; rcases o with _ | _ | _ | _ | _ | o <;> simp_all)) ?_
      refine q_mv rfl ?_
      refine rg_nil ?_
      refine VS_r0 rfl ?_
      refine q_mv rfl ?_
      refine q_add rfl rfl (inR64 (by omega)) ?_
      refine q_mv rfl ?_
      refine rg_nil ?_
      refine Bd.renL [1] (fun i hi => by first | (exact absurd hi (Nat.not_lt_zero i)) | (have e : i = 0 := (by simp at hi; omega); subst e; rfl) | (have e : i = 0 ∨ i = 1 := (by simp at hi; omega); rcases e with rfl | rfl <;> rfl)) (by simp) [(0, .pv (prs xs)), (1, .pv (i64 k)), (5, ownD 0 (dP (ys ++ [nth xs i]))), (6, .pv (i64 (i + 1)))] ⟨rfl, rfl, inv_own rfl, rfl, trivial⟩ (l1 (obD_mP _)) ⟨_, ?_, i + 1, ys ++ [nth xs i], rfl, ?_, ?_, ?_, rfl, rfl⟩
      · first | omega | assumption | rfl | (simp; omega)
      · first | omega | assumption | rfl | (simp; omega)
      · rw [(wout_step (by omega)).1 c1, g1]
      · simp; omega
    · try simp at c1
      refine VS_skip ?_
      refine VS_r0 rfl ?_
      refine q_mv rfl ?_
      refine q_add rfl rfl (inR64 (by omega)) ?_
      refine q_mv rfl ?_
      refine rg_nil ?_
      refine Bd.renL [0] (fun i hi => by first | (exact absurd hi (Nat.not_lt_zero i)) | (have e : i = 0 := (by simp at hi; omega); subst e; rfl) | (have e : i = 0 ∨ i = 1 := (by simp at hi; omega); rcases e with rfl | rfl <;> rfl)) (by simp) [(0, .pv (prs xs)), (1, .pv (i64 k)), (5, ownD 0 (dP ys)), (6, .pv (i64 (i + 1)))] ⟨rfl, rfl, inv_own rfl, rfl, trivial⟩ (l1 (obD_mP _)) ⟨_, ?_, i + 1, ys, rfl, ?_, ?_, ?_, rfl, rfl⟩
      · first | omega | assumption | rfl | (simp; omega)
      · first | omega | assumption | rfl | (simp; omega)
      · rw [(wout_step (by omega)).2 c1, g1]
      · omega
  · try simp at c0
    refine VS_exit ?_
    refine VS_seq ?_
    refine VS_r0 rfl ?_
    refine q_mv rfl ?_
    refine q_mv rfl ?_
    refine rg_nil ?_
    refine VS_ret ?_
    have e : i = xs.length := by omega
    subst e
    rw [List.take_length] at g1
    subst g1
    refine Bd.pureB 4 0 25 2 (xs := dP (wout xs k)) rfl rfl (toPVs_dP _) ?_
    exact Bd.now ⟨_, rfl, rfl⟩
theorem c_laws_FnPutPairTwice (bs : List Int) (hb : isU8 bs) : PCon prog 3 [u8s bs] (fun p => p = .bool true) := by
  refine con_of_VS sl_laws_FnPutPairTwice (by simp) ?_
  refine VS_seq ?_
  refine VS_r0 rfl ?_
  refine q_mv rfl ?_
  refine rg_nil ?_
  refine VS_seq ?_
  refine VS_seq ?_
  refine VS_r0 rfl ?_
  refine q_mv rfl ?_
  first | refine q_len_m rfl ?_ | refine q_len_s rfl ?_ | refine q_len_o rfl ?_ | refine q_len_n rfl ?_ | refine q_len_x rfl ?_
  refine q_gtr rfl rfl ?_
  refine rg_nil ?_
  refine VS_cond rfl (fun c0 => ?_) (fun c0 => ?_)
  · try simp at c0
    refine VS_seq ?_
    refine VS_r0 rfl ?_
    refine q_mv rfl ?_
    refine rg_nil ?_
    refine VS_ret ?_
    exact Bd.now ⟨_, rfl, rfl⟩
  · try simp at c0
    refine VS_skip ?_
    refine VS_seq ?_
    refine VS_r0 rfl ?_
    refine q_mv rfl ?_
    refine q_calle rfl (c_spec_DrawPutPair bs hb (by omega)) rfl (by first | exact trivial | exact Sub.nil | exact Sub.refl _ | exact Sub.app _ _ | exact SubL.sub (by repeat (first | exact SubL.nil | apply SubL.none | apply SubL.some | apply SubL.sh | apply SubL.eq)) | (refine Sub.of_eq ?_; intro o ob h; rcases o with _ | _ | _ | _ | _ | o <;> simp_all)) ?_
    rintro _ ⟨xs, x, rfl, ⟨hx1, hx2⟩, ⟨hk1, hk2⟩, hk3, hk4⟩
    refine q_mv rfl ?_
    refine q_ext rfl rfl ?_
    refine q_ext rfl rfl ?_
    refine q_alloc (by first | exact trivial | exact Sub.nil | exact Sub.refl _ | exact Sub.app _ _ | exact SubL.sub (by repeat (first | exact SubL.nil | apply SubL.none | apply SubL.some | apply SubL.sh | apply SubL.eq)) | (refine Sub.of_eq ?_; intro o ob h; rcases o with _ | _ | _ | _ | _ | o <;> simp_all)) ?_
    refine q_mv rfl ?_
    first | refine q_store rfl rfl rfl rfl rfl rfl ⟨rfl, rfl, by simp, rfl, by simp [isOne]⟩ rfl (by first | exact trivial | exact Sub.nil | exact Sub.refl _ | exact Sub.app _ _ | exact SubL.sub (by repeat (first | exact SubL.nil | apply SubL.none | apply SubL.some | apply SubL.sh | apply SubL.eq)) | (refine Sub.of_eq ?_; intro o ob h; rcases o with _ | _ | _ | _ | _ | o <;> simp_all)) ?_ | refine q_storeF rfl rfl rfl rfl rfl (by simp) (by first | exact trivial | exact Sub.nil | exact Sub.refl _ | exact Sub.app _ _ | exact SubL.sub (by repeat (first | exact SubL.nil | apply SubL.none | apply SubL.some | apply SubL.sh | apply SubL.eq)) | (refine Sub.of_eq ?_; intro o ob h; rcases o with _ | _ | _ | _ | _ | o <;> simp_all)) ?_ | refine q_store rfl rfl rfl rfl rfl rfl ⟨rfl, rfl, by simp, by simp [setAt, isCell_own, isCell_sl, isCell_int, isCell_nils], by simp [isOne]⟩ rfl (by first | exact trivial | exact Sub.nil | exact Sub.refl _ | exact Sub.app _ _ | exact SubL.sub (by repeat (first | exact SubL.nil | apply SubL.none | apply SubL.some | apply SubL.sh | apply SubL.eq)) | (refine Sub.of_eq ?_; intro o ob h; rcases o with _ | _ | _ | _ | _ | o <;> simp_all)) ?_
    refine rg_nil ?_
    refine VS_seq ?_
    cases hg : okPut xs x
    · skip
      refine VS_r0 rfl ?_
      refine q_mv rfl ?_
      first | refine q_load_c rfl rfl rfl ?_ | refine q_load_ra rfl rfl rfl rfl rfl (by first | (simp; done) | (simp [setAt]; done)) rfl ?_
      refine q_callp ((c_impl_PutPair (xs) (x) (by omega)).to (y := .tup [prs ([]), .bool false]) (by rw [hg]; rfl)) rfl (by first | exact trivial | exact Sub.nil | exact Sub.refl _ | exact Sub.app _ _ | exact SubL.sub (by repeat (first | exact SubL.nil | apply SubL.none | apply SubL.some | apply SubL.sh | apply SubL.eq)) | (refine Sub.of_eq ?_; intro o ob h; rcases o with _ | _ | _ | _ | _ | o <;> simp_all)) ?_
      refine q_mv rfl ?_
      refine q_ext rfl rfl ?_
      refine q_ext rfl rfl ?_
      refine q_mv rfl ?_
      refine q_mv rfl ?_
      refine rg_nil ?_
      refine VS_seq ?_
      refine VS_r0 rfl ?_
      refine q_mv rfl ?_
      first | refine q_load_c rfl rfl rfl ?_ | refine q_load_ra rfl rfl rfl rfl rfl (by first | (simp; done) | (simp [setAt]; done)) rfl ?_
      refine q_callp ((c_spec_PutPair (xs) (x) (by omega)).to (y := .tup [prs ([]), .bool false]) (by rw [hg]; rfl)) rfl (by first | exact trivial | exact Sub.nil | exact Sub.refl _ | exact Sub.app _ _ | exact SubL.sub (by repeat (first | exact SubL.nil | apply SubL.none | apply SubL.some | apply SubL.sh | apply SubL.eq)) | (refine Sub.of_eq ?_; intro o ob h; rcases o with _ | _ | _ | _ | _ | o <;> simp_all)) ?_
      refine q_mv rfl ?_
      refine q_ext rfl rfl ?_
      refine q_ext rfl rfl ?_
      refine q_mv rfl ?_
      refine q_mv rfl ?_
      refine rg_nil ?_
      refine VS_seq ?_
      refine VS_seq ?_
      refine VS_r0 rfl ?_
      refine q_mv rfl ?_
      refine q_mv rfl ?_
      refine q_callp (x := .bool true) ((c_laws_equalPairs _ _ (by first | omega | (simp; done) | (simp; omega)) (by first | omega | (simp; done) | (simp; omega))).eqT (by first | rfl | (simp; done))) rfl (by first | exact trivial | exact Sub.nil | exact Sub.refl _ | exact Sub.app _ _ | exact SubL.sub (by repeat (first | exact SubL.nil | apply SubL.none | apply SubL.some | apply SubL.sh | apply SubL.eq)) | (refine Sub.of_eq ?_; intro o ob h; rcases o with _ | _ | _ | _ | _ | o <;> simp_all)) ?_
      refine q_not rfl ?_
      refine q_mv rfl ?_
      refine q_t rfl ?_
      refine q_mv rfl ?_
      refine q_t rfl ?_
      refine q_mv rfl ?_
      refine q_t rfl ?_
      refine q_beq_v false rfl rfl (rfl) ?_
      refine q_pick_f rfl rfl ?_
      refine q_mv rfl ?_
      refine q_t rfl ?_
      refine q_mv rfl ?_
      refine q_t rfl ?_
      refine q_not rfl ?_
      refine q_pick_f rfl rfl ?_
      refine rg_nil ?_
      refine VS_cond rfl (fun _ => ?_) (fun e => by cases e)
      refine VS_seq ?_
      refine VS_r0 rfl ?_
      refine q_mv rfl ?_
      refine q_mv rfl ?_
      refine q_callp (x := .bool true) ((c_laws_equalPairs _ _ (by first | omega | (simp; done) | (simp; omega)) (by first | omega | (simp; done) | (simp; omega))).eqT (by first | rfl | (simp; done))) rfl (by first | exact trivial | exact Sub.nil | exact Sub.refl _ | exact Sub.app _ _ | exact SubL.sub (by repeat (first | exact SubL.nil | apply SubL.none | apply SubL.some | apply SubL.sh | apply SubL.eq)) | (refine Sub.of_eq ?_; intro o ob h; rcases o with _ | _ | _ | _ | _ | o <;> simp_all)) ?_
      refine q_mv rfl ?_
      refine q_t rfl ?_
      refine q_mv rfl ?_
      refine q_t rfl ?_
      refine q_mv rfl ?_
      refine q_t rfl ?_
      refine q_beq_v true rfl rfl (rfl) ?_
      refine q_pick_t rfl rfl ?_
      refine q_mv rfl ?_
      refine rg_nil ?_
      refine VS_ret ?_
      exact Bd.now ⟨_, rfl, rfl⟩
    · skip
      have hpl : (putR xs x).length ≤ xs.length + 1 := putR_len
      have hpg := putR_good hg
      have hpt := putR_twice (xs := xs) (k := x.1) (v := x.2) (w := -5) hg (by omega)
      have hz1 : (putR xs (x.1, -5)).length ≤ xs.length + 1 := putR_len
      have hz2 : (putR (putR xs (x.1, x.2)) (x.1, -5)).length ≤ (putR xs (x.1, x.2)).length + 1 := putR_len
      refine VS_r0 rfl ?_
      refine q_mv rfl ?_
      first | refine q_load_c rfl rfl rfl ?_ | refine q_load_ra rfl rfl rfl rfl rfl (by first | (simp; done) | (simp [setAt]; done)) rfl ?_
      refine q_callp ((c_impl_PutPair (xs) (x) (by omega)).to (y := .tup [prs (putR (xs) (x)), .bool true]) (by rw [if_pos hg, hg])) rfl (by first | exact trivial | exact Sub.nil | exact Sub.refl _ | exact Sub.app _ _ | exact SubL.sub (by repeat (first | exact SubL.nil | apply SubL.none | apply SubL.some | apply SubL.sh | apply SubL.eq)) | (refine Sub.of_eq ?_; intro o ob h; rcases o with _ | _ | _ | _ | _ | o <;> simp_all)) ?_
      refine q_mv rfl ?_
      refine q_ext rfl rfl ?_
      refine q_ext rfl rfl ?_
      refine q_mv rfl ?_
      refine q_mv rfl ?_
      refine rg_nil ?_
      refine VS_seq ?_
      refine VS_r0 rfl ?_
      refine q_mv rfl ?_
      first | refine q_load_c rfl rfl rfl ?_ | refine q_load_ra rfl rfl rfl rfl rfl (by first | (simp; done) | (simp [setAt]; done)) rfl ?_
      refine q_callp ((c_spec_PutPair (xs) (x) (by omega)).to (y := .tup [prs (putR (xs) (x)), .bool true]) (by rw [if_pos hg, hg])) rfl (by first | exact trivial | exact Sub.nil | exact Sub.refl _ | exact Sub.app _ _ | exact SubL.sub (by repeat (first | exact SubL.nil | apply SubL.none | apply SubL.some | apply SubL.sh | apply SubL.eq)) | (refine Sub.of_eq ?_; intro o ob h; rcases o with _ | _ | _ | _ | _ | o <;> simp_all)) ?_
      refine q_mv rfl ?_
      refine q_ext rfl rfl ?_
      refine q_ext rfl rfl ?_
      refine q_mv rfl ?_
      refine q_mv rfl ?_
      refine rg_nil ?_
      refine VS_seq ?_
      refine VS_seq ?_
      refine VS_r0 rfl ?_
      refine q_mv rfl ?_
      refine q_mv rfl ?_
      refine q_callp (x := .bool true) ((c_laws_equalPairs _ _ (by first | omega | (simp; done) | (simp; omega)) (by first | omega | (simp; done) | (simp; omega))).eqT (by first | rfl | (simp; done))) rfl (by first | exact trivial | exact Sub.nil | exact Sub.refl _ | exact Sub.app _ _ | exact SubL.sub (by repeat (first | exact SubL.nil | apply SubL.none | apply SubL.some | apply SubL.sh | apply SubL.eq)) | (refine Sub.of_eq ?_; intro o ob h; rcases o with _ | _ | _ | _ | _ | o <;> simp_all)) ?_
      refine q_not rfl ?_
      refine q_mv rfl ?_
      refine q_t rfl ?_
      refine q_mv rfl ?_
      refine q_t rfl ?_
      refine q_mv rfl ?_
      refine q_t rfl ?_
      refine q_beq_v false rfl rfl (rfl) ?_
      refine q_pick_f rfl rfl ?_
      refine q_mv rfl ?_
      refine q_t rfl ?_
      refine q_mv rfl ?_
      refine q_t rfl ?_
      refine q_not rfl ?_
      refine q_pick_f rfl rfl ?_
      refine rg_nil ?_
      refine VS_cond rfl (fun e => by cases e) (fun _ => ?_)
      refine VS_skip ?_
      refine VS_seq ?_
      refine VS_r0 rfl ?_
      first | refine q_fld_r rfl ?_ | refine q_fld_c rfl rfl ?_
      first | refine q_load_c rfl rfl rfl ?_ | refine q_load_r rfl rfl rfl rfl rfl rfl rfl ?_ | refine q_load_o rfl rfl rfl rfl rfl ?_
      refine q_build rfl ?_
      refine q_alloc (by first | exact trivial | exact Sub.nil | exact Sub.refl _ | exact Sub.app _ _ | exact SubL.sub (by repeat (first | exact SubL.nil | apply SubL.none | apply SubL.some | apply SubL.sh | apply SubL.eq)) | (refine Sub.of_eq ?_; intro o ob h; rcases o with _ | _ | _ | _ | _ | o <;> simp_all)) ?_
      first | refine q_store rfl rfl rfl rfl rfl rfl ⟨rfl, rfl, by simp, rfl, by simp [isOne]⟩ rfl (by first | exact trivial | exact Sub.nil | exact Sub.refl _ | exact Sub.app _ _ | exact SubL.sub (by repeat (first | exact SubL.nil | apply SubL.none | apply SubL.some | apply SubL.sh | apply SubL.eq)) | (refine Sub.of_eq ?_; intro o ob h; rcases o with _ | _ | _ | _ | _ | o <;> simp_all)) ?_ | refine q_storeF rfl rfl rfl rfl rfl (by simp) (by first | exact trivial | exact Sub.nil | exact Sub.refl _ | exact Sub.app _ _ | exact SubL.sub (by repeat (first | exact SubL.nil | apply SubL.none | apply SubL.some | apply SubL.sh | apply SubL.eq)) | (refine Sub.of_eq ?_; intro o ob h; rcases o with _ | _ | _ | _ | _ | o <;> simp_all)) ?_ | refine q_store rfl rfl rfl rfl rfl rfl ⟨rfl, rfl, by simp, by simp [setAt, isCell_own, isCell_sl, isCell_int, isCell_nils], by simp [isOne]⟩ rfl (by first | exact trivial | exact Sub.nil | exact Sub.refl _ | exact Sub.app _ _ | exact SubL.sub (by repeat (first | exact SubL.nil | apply SubL.none | apply SubL.some | apply SubL.sh | apply SubL.eq)) | (refine Sub.of_eq ?_; intro o ob h; rcases o with _ | _ | _ | _ | _ | o <;> simp_all)) ?_
      refine rg_nil ?_
      refine VS_seq ?_
      refine VS_r0 rfl ?_
      refine q_mv rfl ?_
      first | refine q_load_c rfl rfl rfl ?_ | refine q_load_ra rfl rfl rfl rfl rfl (by first | (simp; done) | (simp [setAt]; done)) rfl ?_
      refine q_callp ((c_impl_PutPair (putR xs x) ((x.1, -5)) (by omega)).to (y := .tup [prs (putR (putR xs x) ((x.1, -5))), .bool true]) (by rw [if_pos hpt.1, hpt.1])) rfl (by first | exact trivial | exact Sub.nil | exact Sub.refl _ | exact Sub.app _ _ | exact SubL.sub (by repeat (first | exact SubL.nil | apply SubL.none | apply SubL.some | apply SubL.sh | apply SubL.eq)) | (refine Sub.of_eq ?_; intro o ob h; rcases o with _ | _ | _ | _ | _ | o <;> simp_all)) ?_
      refine q_mv rfl ?_
      refine q_ext rfl rfl ?_
      refine q_ext rfl rfl ?_
      refine q_mv rfl ?_
      refine q_mv rfl ?_
      refine rg_nil ?_
      refine VS_seq ?_
      refine VS_r0 rfl ?_
      refine q_mv rfl ?_
      first | refine q_load_c rfl rfl rfl ?_ | refine q_load_ra rfl rfl rfl rfl rfl (by first | (simp; done) | (simp [setAt]; done)) rfl ?_
      refine q_callp ((c_impl_PutPair (xs) ((x.1, -5)) (by omega)).to (y := .tup [prs (putR (xs) ((x.1, -5))), .bool true]) (by rw [if_pos hpt.2.1, hpt.2.1])) rfl (by first | exact trivial | exact Sub.nil | exact Sub.refl _ | exact Sub.app _ _ | exact SubL.sub (by repeat (first | exact SubL.nil | apply SubL.none | apply SubL.some | apply SubL.sh | apply SubL.eq)) | (refine Sub.of_eq ?_; intro o ob h; rcases o with _ | _ | _ | _ | _ | o <;> simp_all)) ?_
      refine q_mv rfl ?_
      refine q_ext rfl rfl ?_
      refine q_ext rfl rfl ?_
      refine q_mv rfl ?_
      refine q_mv rfl ?_
      refine rg_nil ?_
      refine VS_seq ?_
      refine VS_r0 rfl ?_
      refine q_mv rfl ?_
      refine q_mv rfl ?_
      refine q_t rfl ?_
      refine q_mv rfl ?_
      refine q_pick_t rfl rfl ?_
      refine q_mv rfl ?_
      refine q_t rfl ?_
      refine q_mv rfl ?_
      refine q_t rfl ?_
      refine q_mv rfl ?_
      refine q_t rfl ?_
      refine q_callp (x := .bool true) ((c_laws_equalPairs (putR (putR xs x) (x.1, -5)) (putR xs (x.1, -5)) (by first | omega | (rw [hpt.2.2]; omega)) (by omega)).eqT hpt.2.2) rfl (by first | exact trivial | exact Sub.nil | exact Sub.refl _ | exact Sub.app _ _ | exact SubL.sub (by repeat (first | exact SubL.nil | apply SubL.none | apply SubL.some | apply SubL.sh | apply SubL.eq)) | (refine Sub.of_eq ?_; intro o ob h; rcases o with _ | _ | _ | _ | _ | o <;> simp_all)) ?_
      refine q_pick_t rfl rfl ?_
      refine q_mv rfl ?_
      refine rg_nil ?_
      refine VS_ret ?_
      exact Bd.now ⟨_, rfl, rfl⟩
theorem c_laws_FnPutPair (bs : List Int) (hb : isU8 bs) : PCon prog 4 [u8s bs] (fun p => p = .bool true) := by
  refine con_of_VS sl_laws_FnPutPair (by simp) ?_
  refine VS_seq ?_
  refine VS_r0 rfl ?_
  refine q_mv rfl ?_
  refine rg_nil ?_
  refine VS_seq ?_
  refine VS_seq ?_
  refine VS_r0 rfl ?_
  refine q_mv rfl ?_
  first | refine q_len_m rfl ?_ | refine q_len_s rfl ?_ | refine q_len_o rfl ?_ | refine q_len_n rfl ?_ | refine q_len_x rfl ?_
  refine q_gtr rfl rfl ?_
  refine rg_nil ?_
  refine VS_cond rfl (fun c0 => ?_) (fun c0 => ?_)
  · try simp at c0
    refine VS_seq ?_
    refine VS_r0 rfl ?_
    refine q_mv rfl ?_
    refine rg_nil ?_
    refine VS_ret ?_
    exact Bd.now ⟨_, rfl, rfl⟩
  · try simp at c0
    refine VS_skip ?_
    refine VS_seq ?_
    refine VS_r0 rfl ?_
    refine q_mv rfl ?_
    refine q_calle rfl (c_spec_DrawPutPair bs hb (by omega)) rfl (by first | exact trivial | exact Sub.nil | exact Sub.refl _ | exact Sub.app _ _ | exact SubL.sub (by repeat (first | exact SubL.nil | apply SubL.none | apply SubL.some | apply SubL.sh | apply SubL.eq)) | (refine Sub.of_eq ?_; intro o ob h; rcases o with _ | _ | _ | _ | _ | o <;> simp_all)) ?_
    rintro _ ⟨xs, x, rfl, ⟨hx1, hx2⟩, ⟨hk1, hk2⟩, hk3, hk4⟩
    refine q_mv rfl ?_
    refine q_ext rfl rfl ?_
    refine q_ext rfl rfl ?_
    refine q_alloc (by first | exact trivial | exact Sub.nil | exact Sub.refl _ | exact Sub.app _ _ | exact SubL.sub (by repeat (first | exact SubL.nil | apply SubL.none | apply SubL.some | apply SubL.sh | apply SubL.eq)) | (refine Sub.of_eq ?_; intro o ob h; rcases o with _ | _ | _ | _ | _ | o <;> simp_all)) ?_
    refine q_mv rfl ?_
    first | refine q_store rfl rfl rfl rfl rfl rfl ⟨rfl, rfl, by simp, rfl, by simp [isOne]⟩ rfl (by first | exact trivial | exact Sub.nil | exact Sub.refl _ | exact Sub.app _ _ | exact SubL.sub (by repeat (first | exact SubL.nil | apply SubL.none | apply SubL.some | apply SubL.sh | apply SubL.eq)) | (refine Sub.of_eq ?_; intro o ob h; rcases o with _ | _ | _ | _ | _ | o <;> simp_all)) ?_ | refine q_storeF rfl rfl rfl rfl rfl (by simp) (by first | exact trivial | exact Sub.nil | exact Sub.refl _ | exact Sub.app _ _ | exact SubL.sub (by repeat (first | exact SubL.nil | apply SubL.none | apply SubL.some | apply SubL.sh | apply SubL.eq)) | (refine Sub.of_eq ?_; intro o ob h; rcases o with _ | _ | _ | _ | _ | o <;> simp_all)) ?_ | refine q_store rfl rfl rfl rfl rfl rfl ⟨rfl, rfl, by simp, by simp [setAt, isCell_own, isCell_sl, isCell_int, isCell_nils], by simp [isOne]⟩ rfl (by first | exact trivial | exact Sub.nil | exact Sub.refl _ | exact Sub.app _ _ | exact SubL.sub (by repeat (first | exact SubL.nil | apply SubL.none | apply SubL.some | apply SubL.sh | apply SubL.eq)) | (refine Sub.of_eq ?_; intro o ob h; rcases o with _ | _ | _ | _ | _ | o <;> simp_all)) ?_
    refine rg_nil ?_
    refine VS_seq ?_
    cases hg : okPut xs x
    · skip
      refine VS_r0 rfl ?_
      refine q_mv rfl ?_
      first | refine q_load_c rfl rfl rfl ?_ | refine q_load_ra rfl rfl rfl rfl rfl (by first | (simp; done) | (simp [setAt]; done)) rfl ?_
      refine q_callp ((c_impl_PutPair (xs) (x) (by omega)).to (y := .tup [prs ([]), .bool false]) (by rw [hg]; rfl)) rfl (by first | exact trivial | exact Sub.nil | exact Sub.refl _ | exact Sub.app _ _ | exact SubL.sub (by repeat (first | exact SubL.nil | apply SubL.none | apply SubL.some | apply SubL.sh | apply SubL.eq)) | (refine Sub.of_eq ?_; intro o ob h; rcases o with _ | _ | _ | _ | _ | o <;> simp_all)) ?_
      refine q_mv rfl ?_
      refine q_ext rfl rfl ?_
      refine q_ext rfl rfl ?_
      refine q_mv rfl ?_
      refine q_mv rfl ?_
      refine rg_nil ?_
      refine VS_seq ?_
      refine VS_r0 rfl ?_
      refine q_mv rfl ?_
      first | refine q_load_c rfl rfl rfl ?_ | refine q_load_ra rfl rfl rfl rfl rfl (by first | (simp; done) | (simp [setAt]; done)) rfl ?_
      refine q_callp ((c_spec_PutPair (xs) (x) (by omega)).to (y := .tup [prs ([]), .bool false]) (by rw [hg]; rfl)) rfl (by first | exact trivial | exact Sub.nil | exact Sub.refl _ | exact Sub.app _ _ | exact SubL.sub (by repeat (first | exact SubL.nil | apply SubL.none | apply SubL.some | apply SubL.sh | apply SubL.eq)) | (refine Sub.of_eq ?_; intro o ob h; rcases o with _ | _ | _ | _ | _ | o <;> simp_all)) ?_
      refine q_mv rfl ?_
      refine q_ext rfl rfl ?_
      refine q_ext rfl rfl ?_
      refine q_mv rfl ?_
      refine q_mv rfl ?_
      refine rg_nil ?_
      refine VS_seq ?_
      refine VS_seq ?_
      refine VS_r0 rfl ?_
      refine q_mv rfl ?_
      refine q_mv rfl ?_
      refine q_callp (x := .bool true) ((c_laws_equalPairs _ _ (by first | omega | (simp; done) | (simp; omega)) (by first | omega | (simp; done) | (simp; omega))).eqT (by first | rfl | (simp; done))) rfl (by first | exact trivial | exact Sub.nil | exact Sub.refl _ | exact Sub.app _ _ | exact SubL.sub (by repeat (first | exact SubL.nil | apply SubL.none | apply SubL.some | apply SubL.sh | apply SubL.eq)) | (refine Sub.of_eq ?_; intro o ob h; rcases o with _ | _ | _ | _ | _ | o <;> simp_all)) ?_
      refine q_not rfl ?_
      refine q_mv rfl ?_
      refine q_t rfl ?_
      refine q_mv rfl ?_
      refine q_t rfl ?_
      refine q_mv rfl ?_
      refine q_t rfl ?_
      refine q_beq_v false rfl rfl (rfl) ?_
      refine q_pick_f rfl rfl ?_
      refine q_mv rfl ?_
      refine q_t rfl ?_
      refine q_mv rfl ?_
      refine q_t rfl ?_
      refine q_not rfl ?_
      refine q_pick_f rfl rfl ?_
      refine rg_nil ?_
      refine VS_cond rfl (fun _ => ?_) (fun e => by cases e)
      refine VS_seq ?_
      refine VS_r0 rfl ?_
      refine q_mv rfl ?_
      refine q_mv rfl ?_
      refine q_callp (x := .bool true) ((c_laws_equalPairs _ _ (by first | omega | (simp; done) | (simp; omega)) (by first | omega | (simp; done) | (simp; omega))).eqT (by first | rfl | (simp; done))) rfl (by first | exact trivial | exact Sub.nil | exact Sub.refl _ | exact Sub.app _ _ | exact SubL.sub (by repeat (first | exact SubL.nil | apply SubL.none | apply SubL.some | apply SubL.sh | apply SubL.eq)) | (refine Sub.of_eq ?_; intro o ob h; rcases o with _ | _ | _ | _ | _ | o <;> simp_all)) ?_
      refine q_mv rfl ?_
      refine q_t rfl ?_
      refine q_mv rfl ?_
      refine q_t rfl ?_
      refine q_mv rfl ?_
      refine q_t rfl ?_
      refine q_beq_v true rfl rfl (rfl) ?_
      refine q_pick_t rfl rfl ?_
      refine q_mv rfl ?_
      refine rg_nil ?_
      refine VS_ret ?_
      exact Bd.now ⟨_, rfl, rfl⟩
    · skip
      have hpl : (putR xs x).length ≤ xs.length + 1 := putR_len
      have hpg := putR_good hg
      have hw1 : (wout (putR xs x) x.1).length ≤ (putR xs x).length := wout_len
      have hw2 : (wout xs x.1).length ≤ xs.length := wout_len
      refine VS_r0 rfl ?_
      refine q_mv rfl ?_
      first | refine q_load_c rfl rfl rfl ?_ | refine q_load_ra rfl rfl rfl rfl rfl (by first | (simp; done) | (simp [setAt]; done)) rfl ?_
      refine q_callp ((c_impl_PutPair (xs) (x) (by omega)).to (y := .tup [prs (putR (xs) (x)), .bool true]) (by rw [if_pos hg, hg])) rfl (by first | exact trivial | exact Sub.nil | exact Sub.refl _ | exact Sub.app _ _ | exact SubL.sub (by repeat (first | exact SubL.nil | apply SubL.none | apply SubL.some | apply SubL.sh | apply SubL.eq)) | (refine Sub.of_eq ?_; intro o ob h; rcases o with _ | _ | _ | _ | _ | o <;> simp_all)) ?_
      refine q_mv rfl ?_
      refine q_ext rfl rfl ?_
      refine q_ext rfl rfl ?_
      refine q_mv rfl ?_
      refine q_mv rfl ?_
      refine rg_nil ?_
      refine VS_seq ?_
      refine VS_r0 rfl ?_
      refine q_mv rfl ?_
      first | refine q_load_c rfl rfl rfl ?_ | refine q_load_ra rfl rfl rfl rfl rfl (by first | (simp; done) | (simp [setAt]; done)) rfl ?_
      refine q_callp ((c_spec_PutPair (xs) (x) (by omega)).to (y := .tup [prs (putR (xs) (x)), .bool true]) (by rw [if_pos hg, hg])) rfl (by first | exact trivial | exact Sub.nil | exact Sub.refl _ | exact Sub.app _ _ | exact SubL.sub (by repeat (first | exact SubL.nil | apply SubL.none | apply SubL.some | apply SubL.sh | apply SubL.eq)) | (refine Sub.of_eq ?_; intro o ob h; rcases o with _ | _ | _ | _ | _ | o <;> simp_all)) ?_
      refine q_mv rfl ?_
      refine q_ext rfl rfl ?_
      refine q_ext rfl rfl ?_
      refine q_mv rfl ?_
      refine q_mv rfl ?_
      refine rg_nil ?_
      refine VS_seq ?_
      refine VS_seq ?_
      refine VS_r0 rfl ?_
      refine q_mv rfl ?_
      refine q_mv rfl ?_
      refine q_callp (x := .bool true) ((c_laws_equalPairs _ _ (by first | omega | (simp; done) | (simp; omega)) (by first | omega | (simp; done) | (simp; omega))).eqT (by first | rfl | (simp; done))) rfl (by first | exact trivial | exact Sub.nil | exact Sub.refl _ | exact Sub.app _ _ | exact SubL.sub (by repeat (first | exact SubL.nil | apply SubL.none | apply SubL.some | apply SubL.sh | apply SubL.eq)) | (refine Sub.of_eq ?_; intro o ob h; rcases o with _ | _ | _ | _ | _ | o <;> simp_all)) ?_
      refine q_not rfl ?_
      refine q_mv rfl ?_
      refine q_t rfl ?_
      refine q_mv rfl ?_
      refine q_t rfl ?_
      refine q_mv rfl ?_
      refine q_t rfl ?_
      refine q_beq_v false rfl rfl (rfl) ?_
      refine q_pick_f rfl rfl ?_
      refine q_mv rfl ?_
      refine q_t rfl ?_
      refine q_mv rfl ?_
      refine q_t rfl ?_
      refine q_not rfl ?_
      refine q_pick_f rfl rfl ?_
      refine rg_nil ?_
      refine VS_cond rfl (fun e => by cases e) (fun _ => ?_)
      refine VS_skip ?_
      refine VS_seq ?_
      refine VS_r0 rfl ?_
      refine q_mv rfl ?_
      first | refine q_fld_r rfl ?_ | refine q_fld_c rfl rfl ?_
      first | refine q_load_c rfl rfl rfl ?_ | refine q_load_r rfl rfl rfl rfl rfl rfl rfl ?_ | refine q_load_o rfl rfl rfl rfl rfl ?_
      refine q_callp ((c_impl_ValueIn (putR xs x) x.1 (by omega)).to (y := .tup [i64 x.2, .bool true]) (put_val hg)) rfl (by first | exact trivial | exact Sub.nil | exact Sub.refl _ | exact Sub.app _ _ | exact SubL.sub (by repeat (first | exact SubL.nil | apply SubL.none | apply SubL.some | apply SubL.sh | apply SubL.eq)) | (refine Sub.of_eq ?_; intro o ob h; rcases o with _ | _ | _ | _ | _ | o <;> simp_all)) ?_
      refine q_mv rfl ?_
      refine q_ext rfl rfl ?_
      refine q_ext rfl rfl ?_
      refine q_mv rfl ?_
      refine q_mv rfl ?_
      refine rg_nil ?_
      refine VS_seq ?_
      refine VS_r2 [some ⟨25, 2, [.agg [.pv (i64 x.1), .pv (i64 x.2)]]⟩] hmix (SubL.sub (by repeat (first | exact SubL.nil | apply SubL.none | apply SubL.some | apply SubL.sh | apply SubL.eq))) ?_
      refine q_mv rfl ?_
      refine q_mv rfl ?_
      refine q_t rfl ?_
      refine q_mv rfl ?_
      refine q_t rfl ?_
      first | refine q_fld_r rfl ?_ | refine q_fld_c rfl rfl ?_
      refine q_t rfl ?_
      first | refine q_load_c rfl rfl rfl ?_ | refine q_load_r rfl rfl rfl rfl rfl rfl rfl ?_ | refine q_load_o rfl rfl rfl rfl rfl ?_
      refine q_t rfl ?_
      refine q_eql_v true rfl rfl (by simp) ?_
      refine q_pick_t rfl rfl ?_
      refine q_mv rfl ?_
      refine q_t rfl ?_
      refine q_mv rfl ?_
      refine q_t rfl ?_
      first | refine q_fld_r rfl ?_ | refine q_fld_c rfl rfl ?_
      refine q_t rfl ?_
      first | refine q_load_c rfl rfl rfl ?_ | refine q_load_r rfl rfl rfl rfl rfl rfl rfl ?_ | refine q_load_o rfl rfl rfl rfl rfl ?_
      refine q_t rfl ?_
      refine q_mv rfl ?_
      refine q_t rfl ?_
      first | refine q_fld_r rfl ?_ | refine q_fld_c rfl rfl ?_
      refine q_t rfl ?_
      first | refine q_load_c rfl rfl rfl ?_ | refine q_load_r rfl rfl rfl rfl rfl rfl rfl ?_ | refine q_load_o rfl rfl rfl rfl rfl ?_
      refine q_t rfl ?_
      refine q_callp (c_laws_without (putR xs x) x.1 (by omega)) rfl (by first | exact trivial | exact Sub.nil | exact Sub.refl _ | exact Sub.app _ _ | exact SubL.sub (by repeat (first | exact SubL.nil | apply SubL.none | apply SubL.some | apply SubL.sh | apply SubL.eq)) | (refine Sub.of_eq ?_; intro o ob h; rcases o with _ | _ | _ | _ | _ | o <;> simp_all)) ?_
      refine q_t rfl ?_
      refine q_callp (c_laws_without xs x.1 (by omega)) rfl (by first | exact trivial | exact Sub.nil | exact Sub.refl _ | exact Sub.app _ _ | exact SubL.sub (by repeat (first | exact SubL.nil | apply SubL.none | apply SubL.some | apply SubL.sh | apply SubL.eq)) | (refine Sub.of_eq ?_; intro o ob h; rcases o with _ | _ | _ | _ | _ | o <;> simp_all)) ?_
      refine q_t rfl ?_
      refine q_callp (x := .bool true) ((c_laws_equalPairs (wout (putR xs x) x.1) (wout xs x.1) (by omega) (by omega)).eqT (put_without hg)) rfl (by first | exact trivial | exact Sub.nil | exact Sub.refl _ | exact Sub.app _ _ | exact SubL.sub (by repeat (first | exact SubL.nil | apply SubL.none | apply SubL.some | apply SubL.sh | apply SubL.eq)) | (refine Sub.of_eq ?_; intro o ob h; rcases o with _ | _ | _ | _ | _ | o <;> simp_all)) ?_
      refine q_pick_t rfl rfl ?_
      refine q_mv rfl ?_
      refine q_t rfl ?_
      refine q_mv rfl ?_
      refine q_t rfl ?_
      refine q_callp (x := .bool true) ((c_impl_ValidRow (putR xs x) (by omega)).to (y := .bool true) (by rw [hpg])) rfl (by first | exact trivial | exact Sub.nil | exact Sub.refl _ | exact Sub.app _ _ | exact SubL.sub (by repeat (first | exact SubL.nil | apply SubL.none | apply SubL.some | apply SubL.sh | apply SubL.eq)) | (refine Sub.of_eq ?_; intro o ob h; rcases o with _ | _ | _ | _ | _ | o <;> simp_all)) ?_
      refine q_pick_t rfl rfl ?_
      refine q_mv rfl ?_
      refine rg_nil ?_
      refine VS_ret ?_
      exact Bd.now ⟨_, rfl, rfl⟩
theorem c_laws_FnDropPair (bs : List Int) (hb : isU8 bs) : PCon prog 6 [u8s bs] (fun p => p = .bool true) := by
  refine con_of_VS sl_laws_FnDropPair (by simp) ?_
  refine VS_seq ?_
  refine VS_r0 rfl ?_
  refine q_mv rfl ?_
  refine rg_nil ?_
  refine VS_seq ?_
  refine VS_seq ?_
  refine VS_r0 rfl ?_
  refine q_mv rfl ?_
  first | refine q_len_m rfl ?_ | refine q_len_s rfl ?_ | refine q_len_o rfl ?_ | refine q_len_n rfl ?_ | refine q_len_x rfl ?_
  refine q_gtr rfl rfl ?_
  refine rg_nil ?_
  refine VS_cond rfl (fun c0 => ?_) (fun c0 => ?_)
  · try simp at c0
    refine VS_seq ?_
    refine VS_r0 rfl ?_
    refine q_mv rfl ?_
    refine rg_nil ?_
    refine VS_ret ?_
    exact Bd.now ⟨_, rfl, rfl⟩
  · try simp at c0
    refine VS_skip ?_
    refine VS_seq ?_
    refine VS_r0 rfl ?_
    refine q_mv rfl ?_
    refine q_calle rfl (c_spec_DrawDropPair bs hb (by omega)) rfl (by first | exact trivial | exact Sub.nil | exact Sub.refl _ | exact Sub.app _ _ | exact SubL.sub (by repeat (first | exact SubL.nil | apply SubL.none | apply SubL.some | apply SubL.sh | apply SubL.eq)) | (refine Sub.of_eq ?_; intro o ob h; rcases o with _ | _ | _ | _ | _ | o <;> simp_all)) ?_
    rintro _ ⟨xs, k, rfl, ⟨hx1, hx2⟩, hk1, hk2⟩
    refine q_mv rfl ?_
    refine q_ext rfl rfl ?_
    refine q_ext rfl rfl ?_
    refine q_mv rfl ?_
    refine q_mv rfl ?_
    refine rg_nil ?_
    refine VS_seq ?_
    cases hg : okDrop xs k
    · skip
      refine VS_r0 rfl ?_
      refine q_mv rfl ?_
      refine q_mv rfl ?_
      refine q_callp ((c_impl_DropPair xs k (by omega)).to (y := .tup [prs ([]), .bool false]) (by rw [hg]; rfl)) rfl (by first | exact trivial | exact Sub.nil | exact Sub.refl _ | exact Sub.app _ _ | exact SubL.sub (by repeat (first | exact SubL.nil | apply SubL.none | apply SubL.some | apply SubL.sh | apply SubL.eq)) | (refine Sub.of_eq ?_; intro o ob h; rcases o with _ | _ | _ | _ | _ | o <;> simp_all)) ?_
      refine q_mv rfl ?_
      refine q_ext rfl rfl ?_
      refine q_ext rfl rfl ?_
      refine q_mv rfl ?_
      refine q_mv rfl ?_
      refine rg_nil ?_
      refine VS_seq ?_
      refine VS_r0 rfl ?_
      refine q_mv rfl ?_
      refine q_mv rfl ?_
      refine q_callp ((c_spec_DropPair xs k (by omega)).to (y := .tup [prs ([]), .bool false]) (by rw [hg]; rfl)) rfl (by first | exact trivial | exact Sub.nil | exact Sub.refl _ | exact Sub.app _ _ | exact SubL.sub (by repeat (first | exact SubL.nil | apply SubL.none | apply SubL.some | apply SubL.sh | apply SubL.eq)) | (refine Sub.of_eq ?_; intro o ob h; rcases o with _ | _ | _ | _ | _ | o <;> simp_all)) ?_
      refine q_mv rfl ?_
      refine q_ext rfl rfl ?_
      refine q_ext rfl rfl ?_
      refine q_mv rfl ?_
      refine q_mv rfl ?_
      refine rg_nil ?_
      refine VS_seq ?_
      refine VS_seq ?_
      refine VS_r0 rfl ?_
      refine q_mv rfl ?_
      refine q_mv rfl ?_
      refine q_callp (x := .bool true) ((c_laws_equalPairs _ _ (by first | omega | (simp; done) | (simp; omega)) (by first | omega | (simp; done) | (simp; omega))).eqT (by first | rfl | (simp; done))) rfl (by first | exact trivial | exact Sub.nil | exact Sub.refl _ | exact Sub.app _ _ | exact SubL.sub (by repeat (first | exact SubL.nil | apply SubL.none | apply SubL.some | apply SubL.sh | apply SubL.eq)) | (refine Sub.of_eq ?_; intro o ob h; rcases o with _ | _ | _ | _ | _ | o <;> simp_all)) ?_
      refine q_not rfl ?_
      refine q_mv rfl ?_
      refine q_t rfl ?_
      refine q_mv rfl ?_
      refine q_t rfl ?_
      refine q_mv rfl ?_
      refine q_t rfl ?_
      refine q_beq_v false rfl rfl (rfl) ?_
      refine q_pick_f rfl rfl ?_
      refine q_mv rfl ?_
      refine q_t rfl ?_
      refine q_mv rfl ?_
      refine q_t rfl ?_
      refine q_not rfl ?_
      refine q_pick_f rfl rfl ?_
      refine rg_nil ?_
      refine VS_cond rfl (fun _ => ?_) (fun e => by cases e)
      refine VS_seq ?_
      refine VS_r0 rfl ?_
      refine q_mv rfl ?_
      refine q_mv rfl ?_
      refine q_callp (x := .bool true) ((c_laws_equalPairs _ _ (by first | omega | (simp; done) | (simp; omega)) (by first | omega | (simp; done) | (simp; omega))).eqT (by first | rfl | (simp; done))) rfl (by first | exact trivial | exact Sub.nil | exact Sub.refl _ | exact Sub.app _ _ | exact SubL.sub (by repeat (first | exact SubL.nil | apply SubL.none | apply SubL.some | apply SubL.sh | apply SubL.eq)) | (refine Sub.of_eq ?_; intro o ob h; rcases o with _ | _ | _ | _ | _ | o <;> simp_all)) ?_
      refine q_mv rfl ?_
      refine q_t rfl ?_
      refine q_mv rfl ?_
      refine q_t rfl ?_
      refine q_mv rfl ?_
      refine q_t rfl ?_
      refine q_beq_v true rfl rfl (rfl) ?_
      refine q_pick_t rfl rfl ?_
      refine q_mv rfl ?_
      refine rg_nil ?_
      refine VS_ret ?_
      exact Bd.now ⟨_, rfl, rfl⟩
    · skip
      have hl := dropR_len (okDrop_iff.1 hg).2
      have hdb := drop_back hg
      refine VS_r0 rfl ?_
      refine q_mv rfl ?_
      refine q_mv rfl ?_
      refine q_callp ((c_impl_DropPair xs k (by omega)).to (y := .tup [prs (dropR xs k), .bool true]) (by rw [if_pos hg, hg])) rfl (by first | exact trivial | exact Sub.nil | exact Sub.refl _ | exact Sub.app _ _ | exact SubL.sub (by repeat (first | exact SubL.nil | apply SubL.none | apply SubL.some | apply SubL.sh | apply SubL.eq)) | (refine Sub.of_eq ?_; intro o ob h; rcases o with _ | _ | _ | _ | _ | o <;> simp_all)) ?_
      refine q_mv rfl ?_
      refine q_ext rfl rfl ?_
      refine q_ext rfl rfl ?_
      refine q_mv rfl ?_
      refine q_mv rfl ?_
      refine rg_nil ?_
      refine VS_seq ?_
      refine VS_r0 rfl ?_
      refine q_mv rfl ?_
      refine q_mv rfl ?_
      refine q_callp ((c_spec_DropPair xs k (by omega)).to (y := .tup [prs (dropR xs k), .bool true]) (by rw [if_pos hg, hg])) rfl (by first | exact trivial | exact Sub.nil | exact Sub.refl _ | exact Sub.app _ _ | exact SubL.sub (by repeat (first | exact SubL.nil | apply SubL.none | apply SubL.some | apply SubL.sh | apply SubL.eq)) | (refine Sub.of_eq ?_; intro o ob h; rcases o with _ | _ | _ | _ | _ | o <;> simp_all)) ?_
      refine q_mv rfl ?_
      refine q_ext rfl rfl ?_
      refine q_ext rfl rfl ?_
      refine q_mv rfl ?_
      refine q_mv rfl ?_
      refine rg_nil ?_
      refine VS_seq ?_
      refine VS_seq ?_
      refine VS_r0 rfl ?_
      refine q_mv rfl ?_
      refine q_mv rfl ?_
      refine q_callp (x := .bool true) ((c_laws_equalPairs _ _ (by first | omega | (simp; done) | (simp; omega)) (by first | omega | (simp; done) | (simp; omega))).eqT (by first | rfl | (simp; done))) rfl (by first | exact trivial | exact Sub.nil | exact Sub.refl _ | exact Sub.app _ _ | exact SubL.sub (by repeat (first | exact SubL.nil | apply SubL.none | apply SubL.some | apply SubL.sh | apply SubL.eq)) | (refine Sub.of_eq ?_; intro o ob h; rcases o with _ | _ | _ | _ | _ | o <;> simp_all)) ?_
      refine q_not rfl ?_
      refine q_mv rfl ?_
      refine q_t rfl ?_
      refine q_mv rfl ?_
      refine q_t rfl ?_
      refine q_mv rfl ?_
      refine q_t rfl ?_
      refine q_beq_v false rfl rfl (rfl) ?_
      refine q_pick_f rfl rfl ?_
      refine q_mv rfl ?_
      refine q_t rfl ?_
      refine q_mv rfl ?_
      refine q_t rfl ?_
      refine q_not rfl ?_
      refine q_pick_f rfl rfl ?_
      refine rg_nil ?_
      refine VS_cond rfl (fun e => by cases e) (fun _ => ?_)
      refine VS_skip ?_
      refine VS_seq ?_
      refine VS_r0 rfl ?_
      refine q_mv rfl ?_
      refine q_mv rfl ?_
      refine q_callp ((c_impl_ValueIn xs k (by omega)).to (y := .tup [i64 (nth xs (atR xs k)).2, .bool true]) (drop_val.1 hg)) rfl (by first | exact trivial | exact Sub.nil | exact Sub.refl _ | exact Sub.app _ _ | exact SubL.sub (by repeat (first | exact SubL.nil | apply SubL.none | apply SubL.some | apply SubL.sh | apply SubL.eq)) | (refine Sub.of_eq ?_; intro o ob h; rcases o with _ | _ | _ | _ | _ | o <;> simp_all)) ?_
      refine q_mv rfl ?_
      refine q_ext rfl rfl ?_
      refine q_ext rfl rfl ?_
      refine q_mv rfl ?_
      refine q_mv rfl ?_
      refine rg_nil ?_
      refine VS_seq ?_
      refine VS_r0 rfl ?_
      refine q_mv rfl ?_
      refine q_mv rfl ?_
      refine q_mv rfl ?_
      refine q_build rfl ?_
      refine q_callp ((c_impl_PutPair (dropR xs k) (k, (nth xs (atR xs k)).2) (by omega)).to (y := .tup [prs xs, .bool true]) (by rw [if_pos hdb.1, hdb.1, hdb.2.1])) rfl (by first | exact trivial | exact Sub.nil | exact Sub.refl _ | exact Sub.app _ _ | exact SubL.sub (by repeat (first | exact SubL.nil | apply SubL.none | apply SubL.some | apply SubL.sh | apply SubL.eq)) | (refine Sub.of_eq ?_; intro o ob h; rcases o with _ | _ | _ | _ | _ | o <;> simp_all)) ?_
      refine q_mv rfl ?_
      refine q_ext rfl rfl ?_
      refine q_ext rfl rfl ?_
      refine q_mv rfl ?_
      refine q_mv rfl ?_
      refine rg_nil ?_
      refine VS_seq ?_
      refine VS_r0 rfl ?_
      refine q_mv rfl ?_
      refine q_mv rfl ?_
      refine q_callp ((c_impl_ValueIn (dropR xs k) k (by omega)).to (y := .tup [i64 0, .bool false]) (drop_none hg)) rfl (by first | exact trivial | exact Sub.nil | exact Sub.refl _ | exact Sub.app _ _ | exact SubL.sub (by repeat (first | exact SubL.nil | apply SubL.none | apply SubL.some | apply SubL.sh | apply SubL.eq)) | (refine Sub.of_eq ?_; intro o ob h; rcases o with _ | _ | _ | _ | _ | o <;> simp_all)) ?_
      refine q_mv rfl ?_
      refine q_ext rfl rfl ?_
      refine q_ext rfl rfl ?_
      refine q_mv rfl ?_
      refine q_mv rfl ?_
      refine rg_nil ?_
      refine VS_seq ?_
      refine VS_r0 rfl ?_
      refine q_mv rfl ?_
      refine q_mv rfl ?_
      refine q_t rfl ?_
      refine q_mv rfl ?_
      refine q_pick_t rfl rfl ?_
      refine q_mv rfl ?_
      refine q_t rfl ?_
      refine q_mv rfl ?_
      refine q_t rfl ?_
      refine q_mv rfl ?_
      refine q_t rfl ?_
      refine q_callp (x := .bool true) ((c_laws_equalPairs _ _ (by first | omega | (simp; done) | (simp; omega)) (by first | omega | (simp; done) | (simp; omega))).eqT (by first | rfl | (simp; done))) rfl (by first | exact trivial | exact Sub.nil | exact Sub.refl _ | exact Sub.app _ _ | exact SubL.sub (by repeat (first | exact SubL.nil | apply SubL.none | apply SubL.some | apply SubL.sh | apply SubL.eq)) | (refine Sub.of_eq ?_; intro o ob h; rcases o with _ | _ | _ | _ | _ | o <;> simp_all)) ?_
      refine q_pick_t rfl rfl ?_
      refine q_mv rfl ?_
      refine q_t rfl ?_
      refine q_mv rfl ?_
      refine q_t rfl ?_
      refine q_not rfl ?_
      refine q_pick_t rfl rfl ?_
      refine q_mv rfl ?_
      refine q_t rfl ?_
      refine q_mv rfl ?_
      refine q_t rfl ?_
      first | refine q_len_m rfl ?_ | refine q_len_s rfl ?_ | refine q_len_o rfl ?_ | refine q_len_n rfl ?_ | refine q_len_x rfl ?_
      refine q_t rfl ?_
      refine q_mv rfl ?_
      refine q_t rfl ?_
      first | refine q_len_m rfl ?_ | refine q_len_s rfl ?_ | refine q_len_o rfl ?_ | refine q_len_n rfl ?_ | refine q_len_x rfl ?_
      refine q_t rfl ?_
      refine q_sub rfl rfl (inR64 (by omega)) ?_
      refine q_t rfl ?_
      refine q_eql_v true rfl rfl (decide_eq_true (by omega)) ?_
      refine q_pick_t rfl rfl ?_
      refine q_mv rfl ?_
      refine rg_nil ?_
      refine VS_ret ?_
      exact Bd.now ⟨_, rfl, rfl⟩
theorem c_laws_FnAddKid (bs : List Int) (hb : isU8 bs) : PCon prog 5 [u8s bs] (fun p => p = .bool true) := by
  refine con_of_VS sl_laws_FnAddKid (by simp) ?_
  refine VS_seq ?_
  refine VS_r0 rfl ?_
  refine q_mv rfl ?_
  refine rg_nil ?_
  refine VS_seq ?_
  refine VS_seq ?_
  refine VS_r0 rfl ?_
  refine q_mv rfl ?_
  first | refine q_len_m rfl ?_ | refine q_len_s rfl ?_ | refine q_len_o rfl ?_ | refine q_len_n rfl ?_ | refine q_len_x rfl ?_
  refine q_gtr rfl rfl ?_
  refine rg_nil ?_
  refine VS_cond rfl (fun c0 => ?_) (fun c0 => ?_)
  · try simp at c0
    refine VS_seq ?_
    refine VS_r0 rfl ?_
    refine q_mv rfl ?_
    refine rg_nil ?_
    refine VS_ret ?_
    exact Bd.now ⟨_, rfl, rfl⟩
  · try simp at c0
    refine VS_skip ?_
    refine VS_seq ?_
    refine VS_r0 rfl ?_
    refine q_mv rfl ?_
    refine q_calle rfl (c_spec_DrawAddKid bs hb (by omega)) rfl (by first | exact trivial | exact Sub.nil | exact Sub.refl _ | exact Sub.app _ _ | exact SubL.sub (by repeat (first | exact SubL.nil | apply SubL.none | apply SubL.some | apply SubL.sh | apply SubL.eq)) | (refine Sub.of_eq ?_; intro o ob h; rcases o with _ | _ | _ | _ | _ | o <;> simp_all)) ?_
    rintro _ ⟨ks, cs, m, k, c, rfl, ⟨⟨hx1, hx2⟩, hx3, hx4⟩, hm, hk1, hk2⟩
    refine q_mv rfl ?_
    refine q_ext rfl rfl ?_
    refine q_ext rfl rfl ?_
    refine q_ext rfl rfl ?_
    refine q_ext rfl rfl ?_
    refine q_alloc (by first | exact trivial | exact Sub.nil | exact Sub.refl _ | exact Sub.app _ _ | exact SubL.sub (by repeat (first | exact SubL.nil | apply SubL.none | apply SubL.some | apply SubL.sh | apply SubL.eq)) | (refine Sub.of_eq ?_; intro o ob h; rcases o with _ | _ | _ | _ | _ | o <;> simp_all)) ?_
    first | refine q_store rfl rfl rfl rfl rfl rfl ⟨rfl, rfl, by simp, rfl, by simp [isOne]⟩ rfl (by first | exact trivial | exact Sub.nil | exact Sub.refl _ | exact Sub.app _ _ | exact SubL.sub (by repeat (first | exact SubL.nil | apply SubL.none | apply SubL.some | apply SubL.sh | apply SubL.eq)) | (refine Sub.of_eq ?_; intro o ob h; rcases o with _ | _ | _ | _ | _ | o <;> simp_all)) ?_ | refine q_storeF rfl rfl rfl rfl rfl (by simp) (by first | exact trivial | exact Sub.nil | exact Sub.refl _ | exact Sub.app _ _ | exact SubL.sub (by repeat (first | exact SubL.nil | apply SubL.none | apply SubL.some | apply SubL.sh | apply SubL.eq)) | (refine Sub.of_eq ?_; intro o ob h; rcases o with _ | _ | _ | _ | _ | o <;> simp_all)) ?_ | refine q_store rfl rfl rfl rfl rfl rfl ⟨rfl, rfl, by simp, by simp [setAt, isCell_own, isCell_sl, isCell_int, isCell_nils], by simp [isOne]⟩ rfl (by first | exact trivial | exact Sub.nil | exact Sub.refl _ | exact Sub.app _ _ | exact SubL.sub (by repeat (first | exact SubL.nil | apply SubL.none | apply SubL.some | apply SubL.sh | apply SubL.eq)) | (refine Sub.of_eq ?_; intro o ob h; rcases o with _ | _ | _ | _ | _ | o <;> simp_all)) ?_
    refine q_mv rfl ?_
    refine q_mv rfl ?_
    refine q_mv rfl ?_
    refine rg_nil ?_
    refine VS_seq ?_
    cases hg : okAdd ks cs m k c
    · skip
      refine VS_r0 rfl ?_
      first | refine q_load_c rfl rfl rfl ?_ | refine q_load_ra rfl rfl rfl rfl rfl (by first | (simp; done) | (simp [setAt]; done)) rfl ?_
      refine q_mv rfl ?_
      refine q_mv rfl ?_
      refine q_mv rfl ?_
      refine q_callp ((c_impl_AddKid ks cs m k c (by omega) (by omega) (by omega)).to (y := .tup [innP [] [], .bool false]) (addR_f hg)) rfl (by first | exact trivial | exact Sub.nil | exact Sub.refl _ | exact Sub.app _ _ | exact SubL.sub (by repeat (first | exact SubL.nil | apply SubL.none | apply SubL.some | apply SubL.sh | apply SubL.eq)) | (refine Sub.of_eq ?_; intro o ob h; rcases o with _ | _ | _ | _ | _ | o <;> simp_all)) ?_
      refine q_mv rfl ?_
      refine q_ext rfl rfl ?_
      refine q_ext rfl rfl ?_
      refine q_alloc (by first | exact trivial | exact Sub.nil | exact Sub.refl _ | exact Sub.app _ _ | exact SubL.sub (by repeat (first | exact SubL.nil | apply SubL.none | apply SubL.some | apply SubL.sh | apply SubL.eq)) | (refine Sub.of_eq ?_; intro o ob h; rcases o with _ | _ | _ | _ | _ | o <;> simp_all)) ?_
      first | refine q_store rfl rfl rfl rfl rfl rfl ⟨rfl, rfl, by simp, rfl, by simp [isOne]⟩ rfl (by first | exact trivial | exact Sub.nil | exact Sub.refl _ | exact Sub.app _ _ | exact SubL.sub (by repeat (first | exact SubL.nil | apply SubL.none | apply SubL.some | apply SubL.sh | apply SubL.eq)) | (refine Sub.of_eq ?_; intro o ob h; rcases o with _ | _ | _ | _ | _ | o <;> simp_all)) ?_ | refine q_storeF rfl rfl rfl rfl rfl (by simp) (by first | exact trivial | exact Sub.nil | exact Sub.refl _ | exact Sub.app _ _ | exact SubL.sub (by repeat (first | exact SubL.nil | apply SubL.none | apply SubL.some | apply SubL.sh | apply SubL.eq)) | (refine Sub.of_eq ?_; intro o ob h; rcases o with _ | _ | _ | _ | _ | o <;> simp_all)) ?_ | refine q_store rfl rfl rfl rfl rfl rfl ⟨rfl, rfl, by simp, by simp [setAt, isCell_own, isCell_sl, isCell_int, isCell_nils], by simp [isOne]⟩ rfl (by first | exact trivial | exact Sub.nil | exact Sub.refl _ | exact Sub.app _ _ | exact SubL.sub (by repeat (first | exact SubL.nil | apply SubL.none | apply SubL.some | apply SubL.sh | apply SubL.eq)) | (refine Sub.of_eq ?_; intro o ob h; rcases o with _ | _ | _ | _ | _ | o <;> simp_all)) ?_
      refine q_mv rfl ?_
      refine rg_nil ?_
      refine VS_seq ?_
      refine VS_r0 rfl ?_
      first | refine q_load_c rfl rfl rfl ?_ | refine q_load_ra rfl rfl rfl rfl rfl (by first | (simp; done) | (simp [setAt]; done)) rfl ?_
      refine q_mv rfl ?_
      refine q_mv rfl ?_
      refine q_mv rfl ?_
      refine q_callp ((c_spec_AddKid ks cs m k c (by omega) (by omega) (by omega)).to (y := .tup [innP [] [], .bool false]) (addR_f hg)) rfl (by first | exact trivial | exact Sub.nil | exact Sub.refl _ | exact Sub.app _ _ | exact SubL.sub (by repeat (first | exact SubL.nil | apply SubL.none | apply SubL.some | apply SubL.sh | apply SubL.eq)) | (refine Sub.of_eq ?_; intro o ob h; rcases o with _ | _ | _ | _ | _ | o <;> simp_all)) ?_
      refine q_mv rfl ?_
      refine q_ext rfl rfl ?_
      refine q_ext rfl rfl ?_
      refine q_alloc (by first | exact trivial | exact Sub.nil | exact Sub.refl _ | exact Sub.app _ _ | exact SubL.sub (by repeat (first | exact SubL.nil | apply SubL.none | apply SubL.some | apply SubL.sh | apply SubL.eq)) | (refine Sub.of_eq ?_; intro o ob h; rcases o with _ | _ | _ | _ | _ | o <;> simp_all)) ?_
      first | refine q_store rfl rfl rfl rfl rfl rfl ⟨rfl, rfl, by simp, rfl, by simp [isOne]⟩ rfl (by first | exact trivial | exact Sub.nil | exact Sub.refl _ | exact Sub.app _ _ | exact SubL.sub (by repeat (first | exact SubL.nil | apply SubL.none | apply SubL.some | apply SubL.sh | apply SubL.eq)) | (refine Sub.of_eq ?_; intro o ob h; rcases o with _ | _ | _ | _ | _ | o <;> simp_all)) ?_ | refine q_storeF rfl rfl rfl rfl rfl (by simp) (by first | exact trivial | exact Sub.nil | exact Sub.refl _ | exact Sub.app _ _ | exact SubL.sub (by repeat (first | exact SubL.nil | apply SubL.none | apply SubL.some | apply SubL.sh | apply SubL.eq)) | (refine Sub.of_eq ?_; intro o ob h; rcases o with _ | _ | _ | _ | _ | o <;> simp_all)) ?_ | refine q_store rfl rfl rfl rfl rfl rfl ⟨rfl, rfl, by simp, by simp [setAt, isCell_own, isCell_sl, isCell_int, isCell_nils], by simp [isOne]⟩ rfl (by first | exact trivial | exact Sub.nil | exact Sub.refl _ | exact Sub.app _ _ | exact SubL.sub (by repeat (first | exact SubL.nil | apply SubL.none | apply SubL.some | apply SubL.sh | apply SubL.eq)) | (refine Sub.of_eq ?_; intro o ob h; rcases o with _ | _ | _ | _ | _ | o <;> simp_all)) ?_
      refine q_mv rfl ?_
      refine rg_nil ?_
      refine VS_seq ?_
      refine VS_seq ?_
      refine VS_r0 rfl ?_
      first | refine q_load_c rfl rfl rfl ?_ | refine q_load_ra rfl rfl rfl rfl rfl (by first | (simp; done) | (simp [setAt]; done)) rfl ?_
      first | refine q_load_c rfl rfl rfl ?_ | refine q_load_ra rfl rfl rfl rfl rfl (by first | (simp; done) | (simp [setAt]; done)) rfl ?_
      refine q_callp (x := .bool true) ((c_laws_equalInner _ _ _ _ (by first | omega | (simp; done) | (simp; omega)) (by first | omega | (simp; done) | (simp; omega)) (by first | omega | (simp; done) | (simp; omega)) (by first | omega | (simp; done) | (simp; omega))).eqT rfl) rfl (by first | exact trivial | exact Sub.nil | exact Sub.refl _ | exact Sub.app _ _ | exact SubL.sub (by repeat (first | exact SubL.nil | apply SubL.none | apply SubL.some | apply SubL.sh | apply SubL.eq)) | (refine Sub.of_eq ?_; intro o ob h; rcases o with _ | _ | _ | _ | _ | o <;> simp_all)) ?_
      refine q_not rfl ?_
      refine q_mv rfl ?_
      refine q_t rfl ?_
      refine q_mv rfl ?_
      refine q_t rfl ?_
      refine q_mv rfl ?_
      refine q_t rfl ?_
      refine q_beq_v false rfl rfl (rfl) ?_
      refine q_pick_f rfl rfl ?_
      refine q_mv rfl ?_
      refine q_t rfl ?_
      refine q_mv rfl ?_
      refine q_t rfl ?_
      refine q_not rfl ?_
      refine q_pick_f rfl rfl ?_
      refine rg_nil ?_
      refine VS_cond rfl (fun _ => ?_) (fun e => by cases e)
      refine VS_seq ?_
      refine VS_r0 rfl ?_
      first | refine q_load_c rfl rfl rfl ?_ | refine q_load_ra rfl rfl rfl rfl rfl (by first | (simp; done) | (simp [setAt]; done)) rfl ?_
      first | refine q_load_c rfl rfl rfl ?_ | refine q_load_ra rfl rfl rfl rfl rfl (by first | (simp; done) | (simp [setAt]; done)) rfl ?_
      refine q_callp (x := .bool true) ((c_laws_equalInner _ _ _ _ (by first | omega | (simp; done) | (simp; omega)) (by first | omega | (simp; done) | (simp; omega)) (by first | omega | (simp; done) | (simp; omega)) (by first | omega | (simp; done) | (simp; omega))).eqT rfl) rfl (by first | exact trivial | exact Sub.nil | exact Sub.refl _ | exact Sub.app _ _ | exact SubL.sub (by repeat (first | exact SubL.nil | apply SubL.none | apply SubL.some | apply SubL.sh | apply SubL.eq)) | (refine Sub.of_eq ?_; intro o ob h; rcases o with _ | _ | _ | _ | _ | o <;> simp_all)) ?_
      refine q_mv rfl ?_
      refine q_t rfl ?_
      refine q_mv rfl ?_
      refine q_t rfl ?_
      refine q_mv rfl ?_
      refine q_t rfl ?_
      refine q_beq_v true rfl rfl (rfl) ?_
      refine q_pick_t rfl rfl ?_
      refine q_mv rfl ?_
      refine rg_nil ?_
      refine VS_ret ?_
      exact Bd.now ⟨_, rfl, rfl⟩
    · skip
      have hal := add_len hg
      have hac := add_cut hg
      have hgo := (okAdd_iff.1 hg).2.2
      refine VS_r0 rfl ?_
      first | refine q_load_c rfl rfl rfl ?_ | refine q_load_ra rfl rfl rfl rfl rfl (by first | (simp; done) | (simp [setAt]; done)) rfl ?_
      refine q_mv rfl ?_
      refine q_mv rfl ?_
      refine q_mv rfl ?_
      refine q_callp ((c_impl_AddKid ks cs m k c (by omega) (by omega) (by omega)).to (y := .tup [innP (addA ks m k) (addB cs m c), .bool true]) (addR_t hg)) rfl (by first | exact trivial | exact Sub.nil | exact Sub.refl _ | exact Sub.app _ _ | exact SubL.sub (by repeat (first | exact SubL.nil | apply SubL.none | apply SubL.some | apply SubL.sh | apply SubL.eq)) | (refine Sub.of_eq ?_; intro o ob h; rcases o with _ | _ | _ | _ | _ | o <;> simp_all)) ?_
      refine q_mv rfl ?_
      refine q_ext rfl rfl ?_
      refine q_ext rfl rfl ?_
      refine q_alloc (by first | exact trivial | exact Sub.nil | exact Sub.refl _ | exact Sub.app _ _ | exact SubL.sub (by repeat (first | exact SubL.nil | apply SubL.none | apply SubL.some | apply SubL.sh | apply SubL.eq)) | (refine Sub.of_eq ?_; intro o ob h; rcases o with _ | _ | _ | _ | _ | o <;> simp_all)) ?_
      first | refine q_store rfl rfl rfl rfl rfl rfl ⟨rfl, rfl, by simp, rfl, by simp [isOne]⟩ rfl (by first | exact trivial | exact Sub.nil | exact Sub.refl _ | exact Sub.app _ _ | exact SubL.sub (by repeat (first | exact SubL.nil | apply SubL.none | apply SubL.some | apply SubL.sh | apply SubL.eq)) | (refine Sub.of_eq ?_; intro o ob h; rcases o with _ | _ | _ | _ | _ | o <;> simp_all)) ?_ | refine q_storeF rfl rfl rfl rfl rfl (by simp) (by first | exact trivial | exact Sub.nil | exact Sub.refl _ | exact Sub.app _ _ | exact SubL.sub (by repeat (first | exact SubL.nil | apply SubL.none | apply SubL.some | apply SubL.sh | apply SubL.eq)) | (refine Sub.of_eq ?_; intro o ob h; rcases o with _ | _ | _ | _ | _ | o <;> simp_all)) ?_ | refine q_store rfl rfl rfl rfl rfl rfl ⟨rfl, rfl, by simp, by simp [setAt, isCell_own, isCell_sl, isCell_int, isCell_nils], by simp [isOne]⟩ rfl (by first | exact trivial | exact Sub.nil | exact Sub.refl _ | exact Sub.app _ _ | exact SubL.sub (by repeat (first | exact SubL.nil | apply SubL.none | apply SubL.some | apply SubL.sh | apply SubL.eq)) | (refine Sub.of_eq ?_; intro o ob h; rcases o with _ | _ | _ | _ | _ | o <;> simp_all)) ?_
      refine q_mv rfl ?_
      refine rg_nil ?_
      refine VS_seq ?_
      refine VS_r0 rfl ?_
      first | refine q_load_c rfl rfl rfl ?_ | refine q_load_ra rfl rfl rfl rfl rfl (by first | (simp; done) | (simp [setAt]; done)) rfl ?_
      refine q_mv rfl ?_
      refine q_mv rfl ?_
      refine q_mv rfl ?_
      refine q_callp ((c_spec_AddKid ks cs m k c (by omega) (by omega) (by omega)).to (y := .tup [innP (addA ks m k) (addB cs m c), .bool true]) (addR_t hg)) rfl (by first | exact trivial | exact Sub.nil | exact Sub.refl _ | exact Sub.app _ _ | exact SubL.sub (by repeat (first | exact SubL.nil | apply SubL.none | apply SubL.some | apply SubL.sh | apply SubL.eq)) | (refine Sub.of_eq ?_; intro o ob h; rcases o with _ | _ | _ | _ | _ | o <;> simp_all)) ?_
      refine q_mv rfl ?_
      refine q_ext rfl rfl ?_
      refine q_ext rfl rfl ?_
      refine q_alloc (by first | exact trivial | exact Sub.nil | exact Sub.refl _ | exact Sub.app _ _ | exact SubL.sub (by repeat (first | exact SubL.nil | apply SubL.none | apply SubL.some | apply SubL.sh | apply SubL.eq)) | (refine Sub.of_eq ?_; intro o ob h; rcases o with _ | _ | _ | _ | _ | o <;> simp_all)) ?_
      first | refine q_store rfl rfl rfl rfl rfl rfl ⟨rfl, rfl, by simp, rfl, by simp [isOne]⟩ rfl (by first | exact trivial | exact Sub.nil | exact Sub.refl _ | exact Sub.app _ _ | exact SubL.sub (by repeat (first | exact SubL.nil | apply SubL.none | apply SubL.some | apply SubL.sh | apply SubL.eq)) | (refine Sub.of_eq ?_; intro o ob h; rcases o with _ | _ | _ | _ | _ | o <;> simp_all)) ?_ | refine q_storeF rfl rfl rfl rfl rfl (by simp) (by first | exact trivial | exact Sub.nil | exact Sub.refl _ | exact Sub.app _ _ | exact SubL.sub (by repeat (first | exact SubL.nil | apply SubL.none | apply SubL.some | apply SubL.sh | apply SubL.eq)) | (refine Sub.of_eq ?_; intro o ob h; rcases o with _ | _ | _ | _ | _ | o <;> simp_all)) ?_ | refine q_store rfl rfl rfl rfl rfl rfl ⟨rfl, rfl, by simp, by simp [setAt, isCell_own, isCell_sl, isCell_int, isCell_nils], by simp [isOne]⟩ rfl (by first | exact trivial | exact Sub.nil | exact Sub.refl _ | exact Sub.app _ _ | exact SubL.sub (by repeat (first | exact SubL.nil | apply SubL.none | apply SubL.some | apply SubL.sh | apply SubL.eq)) | (refine Sub.of_eq ?_; intro o ob h; rcases o with _ | _ | _ | _ | _ | o <;> simp_all)) ?_
      refine q_mv rfl ?_
      refine rg_nil ?_
      refine VS_seq ?_
      refine VS_seq ?_
      refine VS_r0 rfl ?_
      first | refine q_load_c rfl rfl rfl ?_ | refine q_load_ra rfl rfl rfl rfl rfl (by first | (simp; done) | (simp [setAt]; done)) rfl ?_
      first | refine q_load_c rfl rfl rfl ?_ | refine q_load_ra rfl rfl rfl rfl rfl (by first | (simp; done) | (simp [setAt]; done)) rfl ?_
      refine q_callp (x := .bool true) ((c_laws_equalInner _ _ _ _ (by first | omega | (simp; done) | (simp; omega)) (by first | omega | (simp; done) | (simp; omega)) (by first | omega | (simp; done) | (simp; omega)) (by first | omega | (simp; done) | (simp; omega))).eqT rfl) rfl (by first | exact trivial | exact Sub.nil | exact Sub.refl _ | exact Sub.app _ _ | exact SubL.sub (by repeat (first | exact SubL.nil | apply SubL.none | apply SubL.some | apply SubL.sh | apply SubL.eq)) | (refine Sub.of_eq ?_; intro o ob h; rcases o with _ | _ | _ | _ | _ | o <;> simp_all)) ?_
      refine q_not rfl ?_
      refine q_mv rfl ?_
      refine q_t rfl ?_
      refine q_mv rfl ?_
      refine q_t rfl ?_
      refine q_mv rfl ?_
      refine q_t rfl ?_
      refine q_beq_v false rfl rfl (rfl) ?_
      refine q_pick_f rfl rfl ?_
      refine q_mv rfl ?_
      refine q_t rfl ?_
      refine q_mv rfl ?_
      refine q_t rfl ?_
      refine q_not rfl ?_
      refine q_pick_f rfl rfl ?_
      refine rg_nil ?_
      refine VS_cond rfl (fun e => by cases e) (fun _ => ?_)
      refine VS_skip ?_
      refine VS_seq ?_
      refine VS_r0 rfl ?_
      first | refine q_load_c rfl rfl rfl ?_ | refine q_load_ra rfl rfl rfl rfl rfl (by first | (simp; done) | (simp [setAt]; done)) rfl ?_
      refine q_mv rfl ?_
      refine q_add rfl rfl (inR64 (by omega)) ?_
      refine q_callp ((c_impl_CutKid (addA ks m k) (addB cs m c) (m + 1) (by omega) (by omega) (by omega)).to (y := .tup [innP ks cs, .bool true]) (by rw [cutRes_t hac.1, hac.2.1, hac.2.2])) rfl (by first | exact trivial | exact Sub.nil | exact Sub.refl _ | exact Sub.app _ _ | exact SubL.sub (by repeat (first | exact SubL.nil | apply SubL.none | apply SubL.some | apply SubL.sh | apply SubL.eq)) | (refine Sub.of_eq ?_; intro o ob h; rcases o with _ | _ | _ | _ | _ | o <;> simp_all)) ?_
      refine q_mv rfl ?_
      refine q_ext rfl rfl ?_
      refine q_ext rfl rfl ?_
      refine q_alloc (by first | exact trivial | exact Sub.nil | exact Sub.refl _ | exact Sub.app _ _ | exact SubL.sub (by repeat (first | exact SubL.nil | apply SubL.none | apply SubL.some | apply SubL.sh | apply SubL.eq)) | (refine Sub.of_eq ?_; intro o ob h; rcases o with _ | _ | _ | _ | _ | o <;> simp_all)) ?_
      first | refine q_store rfl rfl rfl rfl rfl rfl ⟨rfl, rfl, by simp, rfl, by simp [isOne]⟩ rfl (by first | exact trivial | exact Sub.nil | exact Sub.refl _ | exact Sub.app _ _ | exact SubL.sub (by repeat (first | exact SubL.nil | apply SubL.none | apply SubL.some | apply SubL.sh | apply SubL.eq)) | (refine Sub.of_eq ?_; intro o ob h; rcases o with _ | _ | _ | _ | _ | o <;> simp_all)) ?_ | refine q_storeF rfl rfl rfl rfl rfl (by simp) (by first | exact trivial | exact Sub.nil | exact Sub.refl _ | exact Sub.app _ _ | exact SubL.sub (by repeat (first | exact SubL.nil | apply SubL.none | apply SubL.some | apply SubL.sh | apply SubL.eq)) | (refine Sub.of_eq ?_; intro o ob h; rcases o with _ | _ | _ | _ | _ | o <;> simp_all)) ?_ | refine q_store rfl rfl rfl rfl rfl rfl ⟨rfl, rfl, by simp, by simp [setAt, isCell_own, isCell_sl, isCell_int, isCell_nils], by simp [isOne]⟩ rfl (by first | exact trivial | exact Sub.nil | exact Sub.refl _ | exact Sub.app _ _ | exact SubL.sub (by repeat (first | exact SubL.nil | apply SubL.none | apply SubL.some | apply SubL.sh | apply SubL.eq)) | (refine Sub.of_eq ?_; intro o ob h; rcases o with _ | _ | _ | _ | _ | o <;> simp_all)) ?_
      refine q_mv rfl ?_
      refine rg_nil ?_
      refine VS_seq ?_
      refine VS_r0 rfl ?_
      first | refine q_load_c rfl rfl rfl ?_ | refine q_load_ra rfl rfl rfl rfl rfl (by first | (simp; done) | (simp [setAt]; done)) rfl ?_
      refine q_mv rfl ?_
      refine q_callp ((c_impl_RouteKey (addA ks m k) (addB cs m c) k (by omega) (by omega)).to (y := i64 c) (by rw [if_pos hgo, add_there hg])) rfl (by first | exact trivial | exact Sub.nil | exact Sub.refl _ | exact Sub.app _ _ | exact SubL.sub (by repeat (first | exact SubL.nil | apply SubL.none | apply SubL.some | apply SubL.sh | apply SubL.eq)) | (refine Sub.of_eq ?_; intro o ob h; rcases o with _ | _ | _ | _ | _ | o <;> simp_all)) ?_
      refine q_mv rfl ?_
      refine q_eql_v true rfl rfl (by simp) ?_
      refine q_mv rfl ?_
      refine q_t rfl ?_
      refine q_mv rfl ?_
      refine q_pick_t rfl rfl ?_
      refine q_mv rfl ?_
      refine q_t rfl ?_
      first | refine q_load_c rfl rfl rfl ?_ | refine q_load_ra rfl rfl rfl rfl rfl (by first | (simp; done) | (simp [setAt]; done)) rfl ?_
      refine q_t rfl ?_
      first | refine q_load_c rfl rfl rfl ?_ | refine q_load_ra rfl rfl rfl rfl rfl (by first | (simp; done) | (simp [setAt]; done)) rfl ?_
      refine q_t rfl ?_
      refine q_callp (x := .bool true) ((c_laws_equalInner _ _ _ _ (by first | omega | (simp; done) | (simp; omega)) (by first | omega | (simp; done) | (simp; omega)) (by first | omega | (simp; done) | (simp; omega)) (by first | omega | (simp; done) | (simp; omega))).eqT rfl) rfl (by first | exact trivial | exact Sub.nil | exact Sub.refl _ | exact Sub.app _ _ | exact SubL.sub (by repeat (first | exact SubL.nil | apply SubL.none | apply SubL.some | apply SubL.sh | apply SubL.eq)) | (refine Sub.of_eq ?_; intro o ob h; rcases o with _ | _ | _ | _ | _ | o <;> simp_all)) ?_
      refine q_pick_t rfl rfl ?_
      refine q_mv rfl ?_
      refine q_t rfl ?_
      first | refine q_load_c rfl rfl rfl ?_ | refine q_load_ra rfl rfl rfl rfl rfl (by first | (simp; done) | (simp [setAt]; done)) rfl ?_
      refine q_t rfl ?_
      refine q_callp (x := .bool true) ((c_impl_ValidInner (addA ks m k) (addB cs m c) (by omega) (by omega)).to (y := .bool true) (by rw [hgo])) rfl (by first | exact trivial | exact Sub.nil | exact Sub.refl _ | exact Sub.app _ _ | exact SubL.sub (by repeat (first | exact SubL.nil | apply SubL.none | apply SubL.some | apply SubL.sh | apply SubL.eq)) | (refine Sub.of_eq ?_; intro o ob h; rcases o with _ | _ | _ | _ | _ | o <;> simp_all)) ?_
      refine q_pick_t rfl rfl ?_
      refine q_mv rfl ?_
      refine rg_nil ?_
      refine VS_ret ?_
      exact Bd.now ⟨_, rfl, rfl⟩
end Go.V
