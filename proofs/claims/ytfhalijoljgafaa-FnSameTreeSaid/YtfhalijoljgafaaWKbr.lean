/- A part of the proofs about laws of the page tree (see the text that bears the law): a small language of steps, its rules, and what the functions of the program return. -/
import Derived.Test.YtfhalijoljgafaaWKbn
import Derived.Test.YtfhalijoljgafaaQM
import Derived.Test.YtfhalijoljgafaaWC
set_option linter.all false
set_option linter.unusedVariables false
set_option linter.unusedSimpArgs false
set_option maxHeartbeats 4000000
namespace Go.V
open Go.Proofs.Try (prog)
set_option maxRecDepth 100000
theorem sl_slices_Equal_Pair : slimF prog 58 = some (26, (.seq (.reg 0 (.o 4 (.mv (.c (.pv (.bool false)))) .nil)) (.seq (.seq (.reg 0 (.o 6 (.mv (.t 0)) (.o 7 (.len (.t 6)) (.o 8 (.mv (.t 1)) (.o 9 (.len (.t 8)) (.o 10 (.bin .neq (.t 7) (.t 9)) .nil)))))) (.cond (.t 10) (.seq (.reg 0 (.o 4 (.mv (.c (.pv (.bool false)))) .nil)) .ret) .skip)) (.seq (.seq (.reg 0 (.o 11 (.mv (.t 0)) (.o 12 (.len (.t 11)) (.o 13 (.mv (.c (.pv (.int .i64 0)))) .nil)))) (.block 0 (.loop (.seq (.reg 0 (.o 14 (.bin .lss (.t 13) (.t 12)) .nil)) (.seq (.cond (.t 14) .skip (.exit 0)) (.seq (.block 1 (.seq (.reg 0 (.o 15 (.mv (.t 13)) (.o 5 (.mv (.t 15)) .nil))) (.seq (.reg 1 (.o 16 (.mv (.t 0)) (.o 17 (.mv (.t 5)) (.o 18 (.idx 2 (.t 16) (.t 17)) (.o 19 (.load 2 true (.t 18)) (.o 20 (.mv (.t 1)) (.o 21 (.mv (.t 5)) (.o 22 (.idx 2 (.t 20) (.t 21)) (.o 23 (.load 2 true (.t 22)) (.o 24 (.peq true (.t 19) (.t 23)) .nil)))))))))) (.cond (.t 24) (.seq (.reg 0 (.o 4 (.mv (.c (.pv (.bool false)))) .nil)) .ret) .skip)))) (.reg 0 (.o 25 (.bin .add (.t 13) (.c (.pv (.int .i64 1)))) (.o 13 (.mv (.t 25)) .nil))))))))) (.seq (.reg 0 (.o 4 (.mv (.c (.pv (.bool true)))) .nil)) .ret))), [.t 4])) := by kernel_rfl
theorem c_slices_Equal_Pair (xs ys : List (Int × Int)) (hx : xs.length ≤ 1000000000) (hy : ys.length ≤ 1000000000) : PCon prog 58 [prs xs, prs ys] (fun p => p = .bool (decide (xs = ys))) := by
  refine con_of_VS sl_slices_Equal_Pair (by simp) (VS_seq (VS_r0 rfl (q_mv rfl (rg_nil (VS_seq (VS_seq (VS_r0 rfl (q_mv rfl (q_len_m rfl (q_mv rfl (q_len_m rfl (q_neq rfl rfl (rg_nil ?_)))))))))))))
  refine VS_cond rfl (fun c0 => ?_) (fun c0 => ?_)
  · try simp at c0
    refine VS_seq (VS_r0 rfl (q_mv rfl (rg_nil (VS_ret ?_))))
    refine Bd.now ⟨_, rfl, congrArg PV.bool (decide_eq_false fun e => ?_).symm⟩
    subst e; omega
  · try simp at c0
    have hle : xs.length = ys.length := by first | omega | (simp at c0; omega)
    refine VS_skip (VS_seq (VS_seq (VS_r0 rfl (q_mv rfl (q_len_m rfl (q_mv rfl (rg_nil (VS_block ?_))))))))
    refine VS_bd (Bd.keepL [(0, .pv (prs xs)), (1, .pv (prs ys)), (12, .pv (i64 xs.length)), (13, .pv (i64 0))] ⟨rfl, rfl, rfl, rfl, trivial⟩ ?_)
    refine VS_loop (fun mz E S => ∃ i : Nat, mz = xs.length - i ∧ (i ≤ xs.length) ∧ (∀ j, j < i → nth xs j = nth ys j) ∧ E = env [(0, .pv (prs xs)), (1, .pv (prs ys)), (12, .pv (i64 xs.length)), (13, .pv (i64 i))] ∧ S = []) ⟨_, 0, rfl, (by omega), (by omega), rfl, rfl⟩ ?_
    rintro mz _ _ ⟨i, hmeas, g0, g1, rfl, rfl⟩
    refine VS_seq (VS_r0 rfl (q_lss rfl rfl (rg_nil (VS_seq ?_))))
    refine VS_cond rfl (fun c1 => ?_) (fun c1 => ?_)
    · try simp at c1
      refine VS_skip (VS_seq (VS_block (VS_seq (VS_r0 rfl (q_mv rfl (q_mv rfl (rg_nil (VS_seq (VS_r1 hmix rfl (q_mv rfl (q_mv rfl (q_idx_m (f := pairP) (xs := xs) (n := (i : Int)) rfl rfl (by omega) (by omega) (fun _ => rfl) (q_load_c rfl rfl rfl (q_mv rfl (q_mv rfl ?_)))))))))))))))
      refine q_idx_m (f := pairP) (xs := ys) (n := (i : Int)) rfl rfl (by omega) (by omega) (fun _ => rfl) (q_load_c rfl rfl rfl (q_peq (k := .i64) (l := .i64) (k' := .i64) (l' := .i64) (a := (nth xs i).1) (b := (nth xs i).2) (a' := (nth ys i).1) (b' := (nth ys i).2) rfl rfl ⟨rfl, rfl⟩ (rg_nil ?_)))
      refine VS_cond rfl (fun c2 => ?_) (fun c2 => ?_)
      · try simp at c2
        refine VS_seq (VS_r0 rfl (q_mv rfl (rg_nil (VS_ret ?_))))
        refine Bd.now ⟨_, rfl, congrArg PV.bool (decide_eq_false fun e => ?_).symm⟩
        subst e; simp_all
      · try simp at c2
        refine VS_skip (VS_r0 rfl (q_add rfl rfl (inR64 (by omega)) (q_mv rfl (rg_nil ?_))))
        refine Bd.keepL [(0, .pv (prs xs)), (1, .pv (prs ys)), (12, .pv (i64 xs.length)), (13, .pv (i64 (i + 1)))] ⟨rfl, rfl, rfl, rfl, trivial⟩ ⟨_, ?_, i + 1, rfl, ?_, ?_, rfl, rfl⟩
        · omega
        · omega
        · intro j hj
          by_cases e : j = i
          · subst e; exact Prod.ext (by simp_all) (by simp_all)
          · exact g1 j (by omega)
    · try simp at c1
      refine VS_exit (VS_seq (VS_r0 rfl (q_mv rfl (rg_nil (VS_ret ?_)))))
      exact Bd.now ⟨_, rfl, congrArg PV.bool (decide_eq_true (list_ext_nth (by omega) fun j hj => g1 j (by omega))).symm⟩
theorem sl_spec_samePairs : slimF prog 59 = some (32, (.seq (.reg 0 (.o 4 (.mv (.c (.pv (.bool false)))) .nil)) (.seq (.seq (.reg 0 (.o 5 (.mv (.c (.pv (.int .i64 0)))) .nil)) (.block 0 (.loop (.seq (.seq (.reg 0 (.o 6 (.mv (.t 5)) (.o 7 (.mv (.t 0)) (.o 8 (.len (.t 7)) (.o 9 (.bin .lss (.t 6) (.t 8)) (.o 10 (.mv (.t 9)) (.g 11 10 true (.mv (.t 5)) (.g 12 10 true (.mv (.t 1)) (.g 13 10 true (.len (.t 12)) (.g 14 10 true (.bin .lss (.t 11) (.t 13)) (.o 15 (.pick (.t 10) (.t 14) (.c (.pv (.bool false)))) .nil))))))))))) (.cond (.t 15) .skip (.exit 0))) (.seq (.block 1 (.seq (.reg 1 (.o 18 (.mv (.t 0)) (.o 19 (.mv (.t 5)) (.o 20 (.idx 2 (.t 18) (.t 19)) (.o 21 (.load 2 true (.t 20)) (.o 22 (.mv (.t 1)) (.o 23 (.mv (.t 5)) (.o 24 (.idx 2 (.t 22) (.t 23)) (.o 25 (.load 2 true (.t 24)) (.o 26 (.peq true (.t 21) (.t 25)) .nil)))))))))) (.cond (.t 26) (.seq (.reg 0 (.o 4 (.mv (.c (.pv (.bool false)))) .nil)) .ret) .skip))) (.reg 0 (.o 16 (.mv (.t 5)) (.o 17 (.bin .add (.t 16) (.c (.pv (.int .i64 1)))) (.o 5 (.mv (.t 17)) .nil))))))))) (.seq (.reg 0 (.o 27 (.mv (.t 0)) (.o 28 (.len (.t 27)) (.o 29 (.mv (.t 1)) (.o 30 (.len (.t 29)) (.o 31 (.bin .eql (.t 28) (.t 30)) (.o 4 (.mv (.t 31)) .nil))))))) .ret)), [.t 4])) := by kernel_rfl
theorem c_spec_samePairs (xs ys : List (Int × Int)) (hx : xs.length ≤ 1000000000) (hy : ys.length ≤ 1000000000) : PCon prog 59 [prs xs, prs ys] (fun p => p = .bool (decide (xs = ys))) := by
  refine con_of_VS sl_spec_samePairs (by simp) (VS_seq (VS_r0 rfl (q_mv rfl (rg_nil (VS_seq (VS_seq (VS_r0 rfl (q_mv rfl (rg_nil (VS_block ?_))))))))))
  refine VS_bd (Bd.keepL [(0, .pv (prs xs)), (1, .pv (prs ys)), (5, .pv (i64 0))] ⟨rfl, rfl, rfl, trivial⟩ ?_)
  refine VS_loop (fun mz E S => ∃ i : Nat, mz = xs.length - i ∧ (i ≤ xs.length ∧ i ≤ ys.length) ∧ (∀ j, j < i → nth xs j = nth ys j) ∧ E = env [(0, .pv (prs xs)), (1, .pv (prs ys)), (5, .pv (i64 i))] ∧ S = []) ⟨_, 0, rfl, (by omega), (by omega), rfl, rfl⟩ ?_
  rintro mz _ _ ⟨i, hmeas, g0, g1, rfl, rfl⟩
  refine VS_seq (VS_seq (VS_r0 rfl (q_mv rfl (q_mv rfl (q_len_m rfl (q_lss rfl rfl (q_mv rfl ?_)))))))
  refine q_b rfl (fun g10 => ?_) (fun g10 => ?_)
  · try simp at g10
    refine q_t rfl (q_mv rfl (q_t rfl (q_mv rfl (q_t rfl (q_len_m rfl (q_t rfl (q_lss rfl rfl (q_pick_t rfl rfl (rg_nil ?_)))))))))
    refine VS_cond rfl (fun c0 => ?_) (fun c0 => ?_)
    · try simp at c0
      refine VS_skip (VS_seq (VS_block (VS_seq (VS_r1 hmix rfl (q_mv rfl (q_mv rfl (q_idx_m (f := pairP) (xs := xs) (n := (i : Int)) rfl rfl (by omega) (by omega) (fun _ => rfl) (q_load_c rfl rfl rfl (q_mv rfl (q_mv rfl (q_idx_m (f := pairP) (xs := ys) (n := (i : Int)) rfl rfl (by omega) (by omega) (fun _ => rfl) (q_load_c rfl rfl rfl (q_peq (k := .i64) (l := .i64) (k' := .i64) (l' := .i64) (a := (nth xs i).1) (b := (nth xs i).2) (a' := (nth ys i).1) (b' := (nth ys i).2) rfl rfl ⟨rfl, rfl⟩ (rg_nil ?_))))))))))))))
      refine VS_cond rfl (fun c1 => ?_) (fun c1 => ?_)
      · try simp at c1
        refine VS_seq (VS_r0 rfl (q_mv rfl (rg_nil (VS_ret ?_))))
        refine Bd.now ⟨_, rfl, congrArg PV.bool (decide_eq_false fun e => ?_).symm⟩
        subst e; simp_all
      · try simp at c1
        refine VS_skip (VS_r0 rfl (q_mv rfl (q_add rfl rfl (inR64 (by omega)) (q_mv rfl (rg_nil ?_)))))
        refine Bd.keepL [(0, .pv (prs xs)), (1, .pv (prs ys)), (5, .pv (i64 (i + 1)))] ⟨rfl, rfl, rfl, trivial⟩ ⟨_, ?_, i + 1, rfl, ?_, ?_, rfl, rfl⟩
        · omega
        · omega
        · intro j hj
          by_cases e : j = i
          · subst e; exact Prod.ext (by simp_all) (by simp_all)
          · exact g1 j (by omega)
    · try simp at c0
      refine VS_exit (VS_seq (VS_r0 rfl (q_mv rfl (q_len_m rfl (q_mv rfl (q_len_m rfl (q_eql rfl rfl (q_mv rfl (rg_nil (VS_ret ?_))))))))))
      refine Bd.now ⟨_, rfl, ?_⟩
      refine congrArg PV.bool (decide_eq_decide.2 ⟨fun h => list_ext_nth (by omega) fun j hj => g1 j (by omega), fun h => by rw [h]⟩)
  · try simp at g10
    refine q_f rfl (q_f rfl (q_f rfl (q_f rfl (q_pick_f rfl rfl (rg_nil ?_)))))
    refine VS_cond rfl (fun e => by cases e) (fun _ => ?_)
    refine VS_exit (VS_seq (VS_r0 rfl (q_mv rfl (q_len_m rfl (q_mv rfl (q_len_m rfl (q_eql rfl rfl (q_mv rfl (rg_nil (VS_ret ?_))))))))))
    refine Bd.now ⟨_, rfl, ?_⟩
    refine congrArg PV.bool (decide_eq_decide.2 ⟨fun h => list_ext_nth (by omega) fun j hj => g1 j (by omega), fun h => by rw [h]⟩)
theorem sl_impl_SameTree : slimF prog 36 = some (18, (.seq (.reg 0 (.o 2 (.box 25 2 (.t 0)) (.o 3 (.box 25 2 (.t 1)) (.o 4 (.mv (.c (.pv (.bool false)))) .nil)))) (.seq (.reg 2 (.o 5 (.load 2 true (.t 2)) (.o 6 (.call 16 [.t 5]) (.o 7 (.mv (.t 6)) (.g 8 7 true (.load 2 true (.t 3)) (.g 9 7 true (.call 16 [.t 8]) (.o 10 (.pick (.t 7) (.t 9) (.c (.pv (.bool false)))) (.o 11 (.mv (.t 10)) (.g 12 11 true (.load 2 true (.t 2)) (.g 14 11 true (.load 2 true (.t 3)) (.g 13 11 true (.call 26 [.t 12]) (.g 15 11 true (.call 26 [.t 14]) (.g 16 11 true (.call 58 [.t 13, .t 15]) (.o 17 (.pick (.t 11) (.t 16) (.c (.pv (.bool false)))) (.o 4 (.mv (.t 17)) .nil))))))))))))))) .ret), [.t 4])) := by kernel_rfl
theorem c_impl_SameTree (a b : Pt) (ha : smallT a) (hb : smallT b) : PCon prog 36 [ptP a, ptP b] (fun p => p = .bool (validT a && validT b && decide (prV a = prV b))) := by
  have hpa := prV_len (t := a)
  have hpb := prV_len (t := b)
  refine con_of_VS sl_impl_SameTree (by simp) (VS_seq (VS_r0 rfl (q_box rfl rfl rfl trivial (q_box rfl rfl rfl trivial (q_mv rfl (rg_nil (VS_seq (VS_r2 [some ⟨25, 2, [.pv (ptP a)]⟩, some ⟨25, 2, [.pv (ptP b)]⟩] hmix (SubL.sub (by repeat constructor)) (q_load_ra rfl rfl rfl rfl rfl (by (simp; done)) rfl (q_callp (c_impl_ValidTree a ha) rfl (Sub.refl _) (q_mv rfl ?_)))))))))))
  refine q_b rfl (fun g7 => ?_) (fun g7 => ?_)
  · try simp at g7
    have hva : validT a = true := by simpa using g7
    refine q_t rfl (q_load_ra rfl rfl rfl rfl rfl (by (simp; done)) rfl (q_t rfl (q_callp (c_impl_ValidTree b hb) rfl (Sub.refl _) (q_pick_t rfl rfl (q_mv rfl ?_)))))
    refine q_b rfl (fun g11 => ?_) (fun g11 => ?_)
    · try simp at g11
      have hvb : validT b = true := by simpa using g11
      refine q_t rfl (q_load_ra rfl rfl rfl rfl rfl (by (simp; done)) rfl (q_t rfl (q_load_ra rfl rfl rfl rfl rfl (by (simp; done)) rfl (q_t rfl (q_callp (c_impl_PairsOf a ha) rfl (Sub.refl _) (q_t rfl (q_callp (c_impl_PairsOf b hb) rfl (Sub.refl _) (q_t rfl (q_callp (c_slices_Equal_Pair (prV a) (prV b) (by omega) (by omega)) rfl (Sub.refl _) (q_pick_t rfl rfl (q_mv rfl (rg_nil (VS_ret ?_)))))))))))))
      refine Bd.now ⟨_, rfl, ?_⟩
      simp_all
    · try simp at g11
      refine q_f rfl (q_f rfl (q_f rfl (q_f rfl (q_f rfl (q_pick_f rfl rfl (q_mv rfl (rg_nil (VS_ret ?_))))))))
      refine Bd.now ⟨_, rfl, ?_⟩
      simp_all
  · try simp at g7
    refine q_f rfl (q_f rfl (q_pick_f rfl rfl (q_mv rfl (q_f rfl (q_f rfl (q_f rfl (q_f rfl (q_f rfl (q_pick_f rfl rfl (q_mv rfl (rg_nil (VS_ret ?_))))))))))))
    refine Bd.now ⟨_, rfl, ?_⟩
    simp_all
theorem sl_spec_SameTree : slimF prog 37 = some (18, (.seq (.reg 0 (.o 2 (.box 25 2 (.t 0)) (.o 3 (.box 25 2 (.t 1)) (.o 4 (.mv (.c (.pv (.bool false)))) .nil)))) (.seq (.reg 2 (.o 5 (.load 2 true (.t 2)) (.o 6 (.call 48 [.t 5]) (.o 7 (.mv (.t 6)) (.g 8 7 true (.load 2 true (.t 3)) (.g 9 7 true (.call 48 [.t 8]) (.o 10 (.pick (.t 7) (.t 9) (.c (.pv (.bool false)))) (.o 11 (.mv (.t 10)) (.g 12 11 true (.load 2 true (.t 2)) (.g 14 11 true (.load 2 true (.t 3)) (.g 13 11 true (.call 51 [.t 12]) (.g 15 11 true (.call 51 [.t 14]) (.g 16 11 true (.call 59 [.t 13, .t 15]) (.o 17 (.pick (.t 11) (.t 16) (.c (.pv (.bool false)))) (.o 4 (.mv (.t 17)) .nil))))))))))))))) .ret), [.t 4])) := by kernel_rfl
theorem c_spec_SameTree (a b : Pt) (ha : smallT a) (hb : smallT b) : PCon prog 37 [ptP a, ptP b] (fun p => p = .bool (validT a && validT b && decide (prV a = prV b))) := by
  have hpa := prV_len (t := a)
  have hpb := prV_len (t := b)
  refine con_of_VS sl_spec_SameTree (by simp) (VS_seq (VS_r0 rfl (q_box rfl rfl rfl trivial (q_box rfl rfl rfl trivial (q_mv rfl (rg_nil (VS_seq (VS_r2 [some ⟨25, 2, [.pv (ptP a)]⟩, some ⟨25, 2, [.pv (ptP b)]⟩] hmix (SubL.sub (by repeat constructor)) (q_load_ra rfl rfl rfl rfl rfl (by (simp; done)) rfl (q_callp (c_spec_validTree a ha) rfl (Sub.refl _) (q_mv rfl ?_)))))))))))
  refine q_b rfl (fun g7 => ?_) (fun g7 => ?_)
  · try simp at g7
    have hva : validT a = true := by simpa using g7
    refine q_t rfl (q_load_ra rfl rfl rfl rfl rfl (by (simp; done)) rfl (q_t rfl (q_callp (c_spec_validTree b hb) rfl (Sub.refl _) (q_pick_t rfl rfl (q_mv rfl ?_)))))
    refine q_b rfl (fun g11 => ?_) (fun g11 => ?_)
    · try simp at g11
      have hvb : validT b = true := by simpa using g11
      refine q_t rfl (q_load_ra rfl rfl rfl rfl rfl (by (simp; done)) rfl (q_t rfl (q_load_ra rfl rfl rfl rfl rfl (by (simp; done)) rfl (q_t rfl (q_callp ((c_spec_pairsOf a ha (hgtT a) (valid_facts hva).wk (by have := (valid_facts hva).n16; omega) (valid_safe hva).rows (by have := prV_len (t := a); rw [prV, if_pos hva] at this; omega)).to (y := prs (prV a)) (by rw [prV, if_pos hva])) rfl (Sub.refl _) (q_t rfl (q_callp ((c_spec_pairsOf b hb (hgtT b) (valid_facts hvb).wk (by have := (valid_facts hvb).n16; omega) (valid_safe hvb).rows (by have := prV_len (t := b); rw [prV, if_pos hvb] at this; omega)).to (y := prs (prV b)) (by rw [prV, if_pos hvb])) rfl (Sub.refl _) (q_t rfl (q_callp (c_spec_samePairs (prV a) (prV b) (by omega) (by omega)) rfl (Sub.refl _) (q_pick_t rfl rfl (q_mv rfl (rg_nil (VS_ret ?_)))))))))))))
      refine Bd.now ⟨_, rfl, ?_⟩
      simp_all
    · try simp at g11
      refine q_f rfl (q_f rfl (q_f rfl (q_f rfl (q_f rfl (q_pick_f rfl rfl (q_mv rfl (rg_nil (VS_ret ?_))))))))
      refine Bd.now ⟨_, rfl, ?_⟩
      simp_all
  · try simp at g7
    refine q_f rfl (q_f rfl (q_pick_f rfl rfl (q_mv rfl (q_f rfl (q_f rfl (q_f rfl (q_f rfl (q_f rfl (q_pick_f rfl rfl (q_mv rfl (rg_nil (VS_ret ?_))))))))))))
    refine Bd.now ⟨_, rfl, ?_⟩
    simp_all
theorem sl_spec_DrawSameTree : slimF prog 35 = some (30, (.seq (.reg 0 (.o 2 (.alloc 25 2 (.agg [.pv (.int .i64 0), .nils])) (.o 3 (.alloc 25 2 (.agg [.pv (.int .i64 0), .nils])) .nil))) (.seq (.reg 0 (.o 6 (.mv (.t 0)) (.o 7 (.call 46 [.t 6]) (.o 4 (.mv (.t 7)) .nil)))) (.seq (.reg 0 (.o 8 (.mv (.t 4)) (.o 9 (.call 45 [.t 8]) (.o 5 (.alloc 25 2 (.agg [.pv (.int .i64 0), .nils])) (.op ⟨none, none, .store 2 (.t 5) (.t 9)⟩ .nil))))) (.seq (.seq (.reg 0 (.o 10 (.load 2 true (.t 5)) (.o 11 (.call 48 [.t 10]) (.o 12 (.mv (.t 11)) (.g 13 12 true (.load 2 true (.t 5)) (.g 14 12 true (.call 51 [.t 13]) (.g 15 12 true (.len (.t 14)) (.g 16 12 true (.bin .leq (.t 15) (.c (.pv (.int .i64 24)))) (.o 17 (.pick (.t 12) (.t 16) (.c (.pv (.bool false)))) (.o 18 (.mv (.t 17)) (.g 19 18 true (.mv (.t 4)) (.g 20 18 true (.call 56 [.t 19, .c (.pv (.int .i64 3))]) (.g 21 18 true (.bin .gtr (.t 20) (.c (.pv (.int .i64 0)))) (.o 22 (.pick (.t 18) (.t 21) (.c (.pv (.bool false)))) .nil)))))))))))))) (.cond (.t 22) (.seq (.reg 2 (.o 23 (.load 2 true (.t 5)) (.o 24 (.load 2 true (.t 5)) (.o 25 (.call 51 [.t 24]) (.o 26 (.call 57 [.t 25]) (.op ⟨none, none, .store 2 (.t 2) (.t 23)⟩ (.last ⟨none, none, .store 2 (.t 3) (.t 26)⟩))))))) .ret) .skip)) (.seq (.reg 2 (.o 27 (.load 2 true (.t 5)) (.o 28 (.mv (.t 4)) (.o 29 (.call 45 [.t 28]) (.op ⟨none, none, .store 2 (.t 2) (.t 27)⟩ (.last ⟨none, none, .store 2 (.t 3) (.t 29)⟩)))))) .ret)))), [.c 2 2, .c 3 2])) := by kernel_rfl
theorem c_spec_DrawSameTree (bs : List Int) (hb : isU8 bs) (hl : bs.length ≤ 1048576) : PCon prog 35 [u8s bs] (fun p => ∃ a b : Pt, p = .tup [ptP a, ptP b] ∧ AnyT a ∧ AnyT b) := by
  refine con_of_VS sl_spec_DrawSameTree (by simp) (VS_seq (VS_r0 rfl (q_alloc trivial (q_alloc trivial (rg_nil (VS_seq (VS_r0 rfl (q_mv rfl ?_))))))))
  refine q_newRd rfl (c_spec_newReader _ hb hl) rfl (fun _ => trivial) ?_
  rintro bs ⟨hb, hbl⟩
  refine q_mv rfl (rg_nil (VS_seq (VS_r0 rfl (q_mv rfl ?_))))
  refine q_rd rfl (c_spec_anyTree bs hb hbl _ (by omega) (by omega)) rfl rfl (fun _ => trivial) ?_
  rintro _ q9 ⟨t, rfl, ha, hq1, hq2⟩
  refine q_alloc trivial (q_store rfl rfl rfl rfl rfl rfl ⟨rfl, rfl, by simp, rfl, by simp [isOne]⟩ rfl trivial (rg_nil (VS_seq (VS_seq (VS_r0 rfl (q_load_ra rfl rfl rfl rfl rfl (by (simp [setAt]; done)) rfl (q_callp (c_spec_validTree t ha.small) rfl trivial (q_mv rfl ?_))))))))
  refine q_b rfl (fun g12 => ?_) (fun g12 => ?_)
  · try simp at g12
    have hv : validT t = true := by simpa using g12
    have hpl := prV_len (t := t)
    refine q_t rfl (q_load_ra rfl rfl rfl rfl rfl (by (simp [setAt]; done)) rfl (q_t rfl (q_callp ((c_spec_pairsOf t ha.small (hgtT t) (valid_facts hv).wk (by have := (valid_facts hv).n16; omega) (valid_safe hv).rows (by have := prV_len (t := t); rw [prV, if_pos hv] at this; omega)).to (y := prs (prV t)) (by rw [prV, if_pos hv])) rfl trivial (q_t rfl (q_len_m rfl (q_t rfl (q_leq rfl rfl (q_pick_t rfl rfl (q_mv rfl ?_)))))))))
    refine q_b rfl (fun g18 => ?_) (fun g18 => ?_)
    · try simp at g18
      have hx : (prV t).length ≤ 24 := by first | omega | (simp at g18; omega)
      refine q_t rfl (q_mv rfl (q_t rfl ?_))
      refine q_rd rfl (c_spec_reader_pick bs hb hbl _ (by omega) 3 (by omega) (by omega)) rfl rfl (fun _ => trivial) ?_
      rintro _ q20 ⟨v, rfl, q_v, rfl⟩
      refine q_t rfl (q_gtr rfl rfl (q_pick_t rfl rfl (rg_nil ?_)))
      refine VS_cond rfl (fun c0 => ?_) (fun c0 => ?_)
      · try simp at c0
        refine VS_seq (VS_r2 [none, none, none, some ⟨25, 2, [.agg [.pv (i64 t.r), .pv (pgsP t.ps)]]⟩] hmix (SubL.sub (by repeat constructor)) (q_load_ra rfl rfl rfl rfl rfl (by (simp; done)) rfl (q_load_ra rfl rfl rfl rfl rfl (by (simp; done)) rfl (q_callp ((c_spec_pairsOf t ha.small (hgtT t) (valid_facts hv).wk (by have := (valid_facts hv).n16; omega) (valid_safe hv).rows (by have := prV_len (t := t); rw [prV, if_pos hv] at this; omega)).to (y := prs (prV t)) (by rw [prV, if_pos hv])) rfl (SubL.sub (by repeat constructor)) ?_))))
        refine q_newTs rfl (show NewT prog 57 30 [prs (prV t)] (loadT (prV t)) from c_spec_load (prV t) hx) (by repeat (first | exact trivial | refine ⟨.inl rfl, ?_⟩ | refine ⟨.inr ⟨_, rfl, rfl⟩, ?_⟩)) (SubL.sub (by repeat constructor)) ?_
        refine q_store rfl rfl rfl rfl rfl rfl ⟨rfl, rfl, by simp, rfl, by simp [isOne]⟩ rfl (SubL.sub (by repeat constructor)) (q_last (q_store rfl rfl rfl rfl rfl rfl ⟨rfl, rfl, by simp, by simp [setAt, isCell_own, isCell_sl, isCell_int, isCell_nils], by simp [isOne]⟩ rfl trivial (rg_nil ?_)))
        refine VS_bd (Bd.frzF 4 1 0 1 30 3 (xs := dG (loadT (prV t)).ps) (by decide) rfl (toPVs_dG _) rfl rfl rfl ?_)
        refine VS_ret ?_
        exact Bd.now ⟨_, rfl, t, loadT (prV t), rfl, ha, load_any hx⟩
      · try simp at c0
        refine VS_skip (VS_seq (VS_r2 [none, none, none, some ⟨25, 2, [.agg [.pv (i64 t.r), .pv (pgsP t.ps)]]⟩] hmix (SubL.sub (by repeat constructor)) (q_load_ra rfl rfl rfl rfl rfl (by (simp; done)) rfl (q_mv rfl ?_))))
        refine q_rd rfl (c_spec_anyTree bs hb hbl _ (by omega) (by omega)) rfl rfl (fun _ => (SubL.sub (by repeat constructor))) ?_
        rintro _ q29 ⟨t2, rfl, ha2, hq3, hq4⟩
        refine q_store rfl rfl rfl rfl rfl rfl ⟨rfl, rfl, by simp, rfl, by simp [isOne]⟩ rfl (SubL.sub (by repeat constructor)) (q_last (q_store rfl rfl rfl rfl rfl rfl ⟨rfl, rfl, by simp, rfl, by simp [isOne]⟩ rfl trivial (rg_nil (VS_ret ?_))))
        exact Bd.now ⟨_, rfl, t, t2, rfl, ha, ha2⟩
    · try simp at g18
      refine q_f rfl (q_f rfl (q_f rfl (q_pick_f rfl rfl (rg_nil ?_))))
      refine VS_cond rfl (fun e => by cases e) (fun _ => ?_)
      refine VS_skip (VS_seq (VS_r2 [none, none, none, some ⟨25, 2, [.agg [.pv (i64 t.r), .pv (pgsP t.ps)]]⟩] hmix (SubL.sub (by repeat constructor)) (q_load_ra rfl rfl rfl rfl rfl (by (simp; done)) rfl (q_mv rfl ?_))))
      refine q_rd rfl (c_spec_anyTree bs hb hbl _ (by omega) (by omega)) rfl rfl (fun _ => (SubL.sub (by repeat constructor))) ?_
      rintro _ q29 ⟨t2, rfl, ha2, hq3, hq4⟩
      refine q_store rfl rfl rfl rfl rfl rfl ⟨rfl, rfl, by simp, rfl, by simp [isOne]⟩ rfl (SubL.sub (by repeat constructor)) (q_last (q_store rfl rfl rfl rfl rfl rfl ⟨rfl, rfl, by simp, rfl, by simp [isOne]⟩ rfl trivial (rg_nil (VS_ret ?_))))
      exact Bd.now ⟨_, rfl, t, t2, rfl, ha, ha2⟩
  · try simp at g12
    refine q_f rfl (q_f rfl (q_f rfl (q_f rfl (q_pick_f rfl rfl (q_mv rfl (q_f rfl (q_f rfl (q_f rfl (q_pick_f rfl rfl (rg_nil ?_))))))))))
    refine VS_cond rfl (fun e => by cases e) (fun _ => ?_)
    refine VS_skip (VS_seq (VS_r2 [none, none, none, some ⟨25, 2, [.agg [.pv (i64 t.r), .pv (pgsP t.ps)]]⟩] hmix (SubL.sub (by repeat constructor)) (q_load_ra rfl rfl rfl rfl rfl (by (simp; done)) rfl (q_mv rfl ?_))))
    refine q_rd rfl (c_spec_anyTree bs hb hbl _ (by omega) (by omega)) rfl rfl (fun _ => (SubL.sub (by repeat constructor))) ?_
    rintro _ q29 ⟨t2, rfl, ha2, hq3, hq4⟩
    refine q_store rfl rfl rfl rfl rfl rfl ⟨rfl, rfl, by simp, rfl, by simp [isOne]⟩ rfl (SubL.sub (by repeat constructor)) (q_last (q_store rfl rfl rfl rfl rfl rfl ⟨rfl, rfl, by simp, rfl, by simp [isOne]⟩ rfl trivial (rg_nil (VS_ret ?_))))
    exact Bd.now ⟨_, rfl, t, t2, rfl, ha, ha2⟩
theorem sl_laws_FnSameTree : slimF prog 11 = some (56, (.seq (.reg 0 (.o 2 (.mv (.c (.pv (.bool false)))) .nil)) (.seq (.seq (.reg 0 (.o 6 (.mv (.t 0)) (.o 7 (.len (.t 6)) (.o 8 (.bin .gtr (.t 7) (.c (.pv (.int .i64 1048576)))) .nil)))) (.cond (.t 8) (.seq (.reg 0 (.o 2 (.mv (.c (.pv (.bool true)))) .nil)) .ret) .skip)) (.seq (.reg 0 (.o 10 (.mv (.t 0)) (.o 11 (.call 35 [.t 10]) (.o 9 (.mv (.t 11)) (.o 12 (.ext (.t 9) 0) (.o 13 (.ext (.t 9) 1) (.o 3 (.alloc 25 2 (.agg [.pv (.int .i64 0), .nils])) (.o 4 (.alloc 25 2 (.agg [.pv (.int .i64 0), .nils])) (.op ⟨none, none, .store 2 (.t 3) (.t 12)⟩ (.op ⟨none, none, .store 2 (.t 4) (.t 13)⟩ .nil)))))))))) (.seq (.reg 0 (.o 14 (.load 2 true (.t 3)) (.o 15 (.load 2 true (.t 4)) (.o 16 (.call 36 [.t 14, .t 15]) (.o 5 (.mv (.t 16)) .nil))))) (.seq (.seq (.reg 0 (.o 17 (.mv (.t 5)) (.o 18 (.load 2 true (.t 3)) (.o 19 (.load 2 true (.t 4)) (.o 20 (.call 37 [.t 18, .t 19]) (.o 21 (.beq true (.t 17) (.t 20)) (.o 22 (.mv (.t 21)) (.g 23 22 false (.load 2 true (.t 3)) (.g 24 22 false (.call 16 [.t 23]) (.g 25 22 false (.not (.t 24)) (.o 26 (.pick (.t 22) (.c (.pv (.bool true))) (.t 25)) (.o 27 (.mv (.t 26)) (.g 28 27 false (.load 2 true (.t 4)) (.g 29 27 false (.call 16 [.t 28]) (.g 30 27 false (.not (.t 29)) (.o 31 (.pick (.t 27) (.c (.pv (.bool true))) (.t 30)) .nil)))))))))))))))) (.cond (.t 31) (.seq (.reg 0 (.o 32 (.mv (.t 5)) (.o 33 (.load 2 true (.t 3)) (.o 34 (.load 2 true (.t 4)) (.o 35 (.call 37 [.t 33, .t 34]) (.o 36 (.beq false (.t 32) (.t 35)) (.o 2 (.mv (.t 36)) .nil))))))) .ret) .skip)) (.seq (.reg 2 (.o 37 (.mv (.t 5)) (.o 38 (.load 2 true (.t 3)) (.o 40 (.load 2 true (.t 4)) (.o 39 (.call 26 [.t 38]) (.o 41 (.call 26 [.t 40]) (.o 42 (.call 32 [.t 39, .t 41]) (.o 43 (.beq false (.t 37) (.t 42)) (.o 44 (.mv (.t 43)) (.g 45 44 true (.load 2 true (.t 4)) (.g 46 44 true (.load 2 true (.t 3)) (.g 48 44 true (.mv (.t 5)) (.g 47 44 true (.call 36 [.t 45, .t 46]) (.g 49 44 true (.beq false (.t 47) (.t 48)) (.o 50 (.pick (.t 44) (.t 49) (.c (.pv (.bool false)))) (.o 51 (.mv (.t 50)) (.g 52 51 true (.load 2 true (.t 3)) (.g 53 51 true (.load 2 true (.t 3)) (.g 54 51 true (.call 36 [.t 52, .t 53]) (.o 55 (.pick (.t 51) (.t 54) (.c (.pv (.bool false)))) (.o 2 (.mv (.t 55)) .nil))))))))))))))))))))) .ret))))), [.t 2])) := by kernel_rfl
theorem c_laws_FnSameTree (bs : List Int) (hb : isU8 bs) : PCon prog 11 [u8s bs] (fun p => p = .bool true) := by
  refine con_of_VS sl_laws_FnSameTree (by simp) (VS_seq (VS_r0 rfl (q_mv rfl (rg_nil (VS_seq (VS_seq (VS_r0 rfl (q_mv rfl (q_len_m rfl (q_gtr rfl rfl (rg_nil ?_)))))))))))
  refine VS_cond rfl (fun c0 => ?_) (fun c0 => ?_)
  · try simp at c0
    refine VS_seq (VS_r0 rfl (q_mv rfl (rg_nil (VS_ret ?_))))
    exact Bd.now ⟨_, rfl, rfl⟩
  · try simp at c0
    refine VS_skip (VS_seq (VS_r0 rfl (q_mv rfl (q_calle rfl (c_spec_DrawSameTree bs hb (by omega)) rfl trivial ?_))))
    rintro _ ⟨a, b, rfl, ha, hb2⟩
    refine q_mv rfl (q_ext rfl rfl (q_ext rfl rfl (q_alloc trivial (q_alloc trivial (q_store rfl rfl rfl rfl rfl rfl ⟨rfl, rfl, by simp, rfl, by simp [isOne]⟩ rfl trivial (q_store rfl rfl rfl rfl rfl rfl ⟨rfl, rfl, by simp, rfl, by simp [isOne]⟩ rfl trivial (rg_nil (VS_seq ?_))))))))
    cases hva : validT a
    · skip
      have hsa := ha.small
      have hsb := hb2.small
      refine VS_r0 rfl (q_load_ra rfl rfl rfl rfl rfl (by (simp [setAt]; done)) rfl (q_load_ra rfl rfl rfl rfl rfl (by (simp [setAt]; done)) rfl (q_callp (x := .bool false) ((c_impl_SameTree a b hsa hsb).to (y := .bool false) (by simp [*])) rfl trivial (q_mv rfl (rg_nil (VS_seq (VS_seq (VS_r0 rfl (q_mv rfl (q_load_ra rfl rfl rfl rfl rfl (by (simp [setAt]; done)) rfl (q_load_ra rfl rfl rfl rfl rfl (by (simp [setAt]; done)) rfl (q_callp (x := .bool false) ((c_spec_SameTree a b hsa hsb).to (y := .bool false) (by simp [*])) rfl trivial (q_beq_v false rfl rfl (rfl) (q_mv rfl (q_t rfl ?_)))))))))))))))
      refine q_load_ra rfl rfl rfl rfl rfl (by (simp [setAt]; done)) rfl (q_t rfl (q_callp (x := .bool false) ((c_impl_ValidTree a hsa).to (y := .bool false) (by rw [hva])) rfl trivial (q_t rfl (q_not rfl (q_pick_f rfl rfl (q_mv rfl (q_f rfl (q_f rfl (q_f rfl (q_pick_t rfl rfl (rg_nil ?_)))))))))))
      refine VS_cond rfl (fun _ => ?_) (fun e => by cases e)
      refine VS_seq (VS_r0 rfl (q_mv rfl (q_load_ra rfl rfl rfl rfl rfl (by (simp [setAt]; done)) rfl (q_load_ra rfl rfl rfl rfl rfl (by (simp [setAt]; done)) rfl (q_callp (x := .bool false) ((c_spec_SameTree a b hsa hsb).to (y := .bool false) (by simp [*])) rfl trivial (q_beq_v true rfl rfl (rfl) (q_mv rfl (rg_nil (VS_ret ?_)))))))))
      exact Bd.now ⟨_, rfl, rfl⟩
    · skip
      have hsa := ha.small
      have hsb := hb2.small
      have hpa := prV_len (t := a)
      have hpb := prV_len (t := b)
      cases hvb : validT b
      · skip
        refine VS_r0 rfl (q_load_ra rfl rfl rfl rfl rfl (by (simp [setAt]; done)) rfl (q_load_ra rfl rfl rfl rfl rfl (by (simp [setAt]; done)) rfl (q_callp (x := .bool false) ((c_impl_SameTree a b hsa hsb).to (y := .bool false) (by simp [*])) rfl trivial (q_mv rfl (rg_nil (VS_seq (VS_seq (VS_r0 rfl (q_mv rfl (q_load_ra rfl rfl rfl rfl rfl (by (simp [setAt]; done)) rfl (q_load_ra rfl rfl rfl rfl rfl (by (simp [setAt]; done)) rfl (q_callp (x := .bool false) ((c_spec_SameTree a b hsa hsb).to (y := .bool false) (by simp [*])) rfl trivial (q_beq_v false rfl rfl (rfl) (q_mv rfl (q_t rfl ?_)))))))))))))))
        refine q_load_ra rfl rfl rfl rfl rfl (by (simp [setAt]; done)) rfl (q_t rfl (q_callp (x := .bool true) ((c_impl_ValidTree a hsa).to (y := .bool true) (by rw [hva])) rfl trivial (q_t rfl (q_not rfl (q_pick_f rfl rfl (q_mv rfl (q_t rfl (q_load_ra rfl rfl rfl rfl rfl (by (simp [setAt]; done)) rfl (q_t rfl (q_callp (x := .bool false) ((c_impl_ValidTree b hsb).to (y := .bool false) (by rw [hvb])) rfl trivial (q_t rfl (q_not rfl (q_pick_f rfl rfl (rg_nil ?_))))))))))))))
        refine VS_cond rfl (fun _ => ?_) (fun e => by cases e)
        refine VS_seq (VS_r0 rfl (q_mv rfl (q_load_ra rfl rfl rfl rfl rfl (by (simp [setAt]; done)) rfl (q_load_ra rfl rfl rfl rfl rfl (by (simp [setAt]; done)) rfl (q_callp (x := .bool false) ((c_spec_SameTree a b hsa hsb).to (y := .bool false) (by simp [*])) rfl trivial (q_beq_v true rfl rfl (rfl) (q_mv rfl (rg_nil (VS_ret ?_)))))))))
        exact Bd.now ⟨_, rfl, rfl⟩
      · skip
        by_cases hpp : prV a = prV b
        · skip
          have hpq : prV b = prV a := hpp.symm
          refine VS_r0 rfl (q_load_ra rfl rfl rfl rfl rfl (by (simp [setAt]; done)) rfl (q_load_ra rfl rfl rfl rfl rfl (by (simp [setAt]; done)) rfl (q_callp (x := .bool true) ((c_impl_SameTree a b hsa hsb).to (y := .bool true) (by rw [hva, hvb]; simpa using hpp)) rfl trivial (q_mv rfl (rg_nil (VS_seq (VS_seq (VS_r0 rfl (q_mv rfl (q_load_ra rfl rfl rfl rfl rfl (by (simp [setAt]; done)) rfl (q_load_ra rfl rfl rfl rfl rfl (by (simp [setAt]; done)) rfl (q_callp (x := .bool true) ((c_spec_SameTree a b hsa hsb).to (y := .bool true) (by rw [hva, hvb]; simpa using hpp)) rfl trivial (q_beq_v false rfl rfl (rfl) (q_mv rfl (q_t rfl ?_)))))))))))))))
          refine q_load_ra rfl rfl rfl rfl rfl (by (simp [setAt]; done)) rfl (q_t rfl (q_callp (x := .bool true) ((c_impl_ValidTree a hsa).to (y := .bool true) (by rw [hva])) rfl trivial (q_t rfl (q_not rfl (q_pick_f rfl rfl (q_mv rfl (q_t rfl (q_load_ra rfl rfl rfl rfl rfl (by (simp [setAt]; done)) rfl (q_t rfl (q_callp (x := .bool true) ((c_impl_ValidTree b hsb).to (y := .bool true) (by rw [hvb])) rfl trivial (q_t rfl (q_not rfl (q_pick_f rfl rfl (rg_nil ?_))))))))))))))
          refine VS_cond rfl (fun e => by cases e) (fun _ => ?_)
          refine VS_skip (VS_seq (VS_r2 [some ⟨25, 2, [.agg [.pv (i64 a.r), .pv (pgsP a.ps)]]⟩, some ⟨25, 2, [.agg [.pv (i64 b.r), .pv (pgsP b.ps)]]⟩] hmix (SubL.sub (by repeat constructor)) (q_mv rfl (q_load_ra rfl rfl rfl rfl rfl (by (simp; done)) rfl (q_load_ra rfl rfl rfl rfl rfl (by (simp; done)) rfl (q_callp (c_impl_PairsOf a hsa) rfl (Sub.refl _) (q_callp (c_impl_PairsOf b hsb) rfl (Sub.refl _) (q_callp (x := .bool true) ((c_laws_equalPairs (prV a) (prV b) (by omega) (by omega)).to (y := .bool true) (by simpa using hpp)) rfl (Sub.refl _) (q_beq_v true rfl rfl (rfl) (q_mv rfl (q_t rfl (q_load_ra rfl rfl rfl rfl rfl (by (simp; done)) rfl (q_t rfl (q_load_ra rfl rfl rfl rfl rfl (by (simp; done)) rfl (q_t rfl ?_)))))))))))))))
          refine q_mv rfl (q_t rfl (q_callp (x := .bool true) ((c_impl_SameTree b a hsb hsa).to (y := .bool true) (by rw [hvb, hva]; simpa using hpq)) rfl (Sub.refl _) (q_t rfl (q_beq_v true rfl rfl (rfl) (q_pick_t rfl rfl (q_mv rfl (q_t rfl (q_load_ra rfl rfl rfl rfl rfl (by (simp; done)) rfl (q_t rfl (q_load_ra rfl rfl rfl rfl rfl (by (simp; done)) rfl (q_t rfl (q_callp (x := .bool true) ((c_impl_SameTree a a hsa hsa).to (y := .bool true) (by rw [hva]; simp)) rfl (Sub.refl _) (q_pick_t rfl rfl (q_mv rfl (rg_nil ?_)))))))))))))))
          refine VS_ret ?_
          exact Bd.now ⟨_, rfl, rfl⟩
        · skip
          have hpq : ¬ prV b = prV a := fun e => hpp e.symm
          refine VS_r0 rfl (q_load_ra rfl rfl rfl rfl rfl (by (simp [setAt]; done)) rfl (q_load_ra rfl rfl rfl rfl rfl (by (simp [setAt]; done)) rfl (q_callp (x := .bool false) ((c_impl_SameTree a b hsa hsb).to (y := .bool false) (by rw [hva, hvb]; simpa using hpp)) rfl trivial (q_mv rfl (rg_nil (VS_seq (VS_seq (VS_r0 rfl (q_mv rfl (q_load_ra rfl rfl rfl rfl rfl (by (simp [setAt]; done)) rfl (q_load_ra rfl rfl rfl rfl rfl (by (simp [setAt]; done)) rfl (q_callp (x := .bool false) ((c_spec_SameTree a b hsa hsb).to (y := .bool false) (by rw [hva, hvb]; simpa using hpp)) rfl trivial (q_beq_v false rfl rfl (rfl) (q_mv rfl (q_t rfl ?_)))))))))))))))
          refine q_load_ra rfl rfl rfl rfl rfl (by (simp [setAt]; done)) rfl (q_t rfl (q_callp (x := .bool true) ((c_impl_ValidTree a hsa).to (y := .bool true) (by rw [hva])) rfl trivial (q_t rfl (q_not rfl (q_pick_f rfl rfl (q_mv rfl (q_t rfl (q_load_ra rfl rfl rfl rfl rfl (by (simp [setAt]; done)) rfl (q_t rfl (q_callp (x := .bool true) ((c_impl_ValidTree b hsb).to (y := .bool true) (by rw [hvb])) rfl trivial (q_t rfl (q_not rfl (q_pick_f rfl rfl (rg_nil ?_))))))))))))))
          refine VS_cond rfl (fun e => by cases e) (fun _ => ?_)
          refine VS_skip (VS_seq (VS_r2 [some ⟨25, 2, [.agg [.pv (i64 a.r), .pv (pgsP a.ps)]]⟩, some ⟨25, 2, [.agg [.pv (i64 b.r), .pv (pgsP b.ps)]]⟩] hmix (SubL.sub (by repeat constructor)) (q_mv rfl (q_load_ra rfl rfl rfl rfl rfl (by (simp; done)) rfl (q_load_ra rfl rfl rfl rfl rfl (by (simp; done)) rfl (q_callp (c_impl_PairsOf a hsa) rfl (Sub.refl _) (q_callp (c_impl_PairsOf b hsb) rfl (Sub.refl _) (q_callp (x := .bool false) ((c_laws_equalPairs (prV a) (prV b) (by omega) (by omega)).to (y := .bool false) (by simpa using hpp)) rfl (Sub.refl _) (q_beq_v true rfl rfl (rfl) (q_mv rfl (q_t rfl (q_load_ra rfl rfl rfl rfl rfl (by (simp; done)) rfl (q_t rfl (q_load_ra rfl rfl rfl rfl rfl (by (simp; done)) rfl (q_t rfl ?_)))))))))))))))
          refine q_mv rfl (q_t rfl (q_callp (x := .bool false) ((c_impl_SameTree b a hsb hsa).to (y := .bool false) (by rw [hvb, hva]; simpa using hpq)) rfl (Sub.refl _) (q_t rfl (q_beq_v true rfl rfl (rfl) (q_pick_t rfl rfl (q_mv rfl (q_t rfl (q_load_ra rfl rfl rfl rfl rfl (by (simp; done)) rfl (q_t rfl (q_load_ra rfl rfl rfl rfl rfl (by (simp; done)) rfl (q_t rfl (q_callp (x := .bool true) ((c_impl_SameTree a a hsa hsa).to (y := .bool true) (by rw [hva]; simp)) rfl (Sub.refl _) (q_pick_t rfl rfl (q_mv rfl (rg_nil ?_)))))))))))))))
          refine VS_ret ?_
          exact Bd.now ⟨_, rfl, rfl⟩
end Go.V
