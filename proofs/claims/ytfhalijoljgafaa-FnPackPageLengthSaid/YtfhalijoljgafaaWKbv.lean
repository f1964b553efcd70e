/- A part of the proofs about laws of the page tree (see the text that bears the law): a small language of steps, its rules, and what the functions of the program return. -/
import Derived.Test.YtfhalijoljgafaaWKbu
set_option linter.all false
set_option linter.unusedVariables false
set_option linter.unusedSimpArgs false
set_option maxHeartbeats 4000000
namespace Go.V
open Go.Proofs.Try (prog)
set_option maxRecDepth 100000
theorem sl_laws_FnPackPageLength : slimF prog 14 = some (51, (.seq (.reg 0 (.o 2 (.mv (.c (.pv (.bool false)))) .nil)) (.seq (.seq (.reg 0 (.o 6 (.mv (.t 0)) (.o 7 (.len (.t 6)) (.o 8 (.bin .gtr (.t 7) (.c (.pv (.int .i64 1048576)))) .nil)))) (.cond (.t 8) (.seq (.reg 0 (.o 2 (.mv (.c (.pv (.bool true)))) .nil)) .ret) .skip)) (.seq (.reg 0 (.o 9 (.mv (.t 0)) (.o 10 (.call 42 [.t 9]) (.o 3 (.alloc 30 3 (.agg [.nils, .nils, .nils])) (.op ⟨none, none, .store 3 (.t 3) (.t 10)⟩ .nil))))) (.seq (.reg 0 (.o 11 (.load 3 true (.t 3)) (.o 12 (.call 43 [.t 11]) (.o 4 (.mv (.t 12)) .nil)))) (.seq (.seq (.reg 0 (.o 13 (.mv (.t 4)) (.o 14 (.load 3 true (.t 3)) (.o 15 (.call 44 [.t 14]) (.o 16 (.call 21 [.t 13, .t 15]) (.o 17 (.not (.t 16)) (.o 18 (.mv (.t 17)) (.g 19 18 false (.mv (.t 4)) (.g 20 18 false (.len (.t 19)) (.g 21 18 false (.bin .eql (.t 20) (.c (.pv (.int .i64 0)))) (.o 22 (.pick (.t 18) (.c (.pv (.bool true))) (.t 21)) .nil))))))))))) (.cond (.t 22) (.seq (.reg 0 (.o 23 (.mv (.t 4)) (.o 24 (.load 3 true (.t 3)) (.o 25 (.call 44 [.t 24]) (.o 26 (.call 21 [.t 23, .t 25]) (.o 2 (.mv (.t 26)) .nil)))))) .ret) .skip)) (.seq (.reg 0 (.o 27 (.fld 0 1 false (.t 3)) (.o 28 (.load 1 false (.t 27)) (.o 29 (.len (.t 28)) (.o 30 (.bin .mul (.c (.pv (.int .i64 2))) (.t 29)) (.o 31 (.bin .add (.t 30) (.c (.pv (.int .i64 2)))) (.o 5 (.mv (.t 31)) .nil))))))) (.seq (.seq (.reg 0 (.o 32 (.fld 1 1 false (.t 3)) (.o 33 (.load 1 false (.t 32)) (.o 34 (.len (.t 33)) (.o 35 (.bin .gtr (.t 34) (.c (.pv (.int .i64 0)))) .nil))))) (.cond (.t 35) (.reg 0 (.o 36 (.mv (.t 5)) (.o 37 (.bin .add (.t 36) (.c (.pv (.int .i64 1)))) (.o 5 (.mv (.t 37)) .nil)))) .skip)) (.seq (.reg 0 (.o 38 (.mv (.t 4)) (.o 39 (.len (.t 38)) (.o 40 (.mv (.t 5)) (.o 41 (.bin .eql (.t 39) (.t 40)) (.o 42 (.mv (.t 41)) (.g 43 42 true (.mv (.t 4)) (.g 44 42 true (.mv (.t 4)) (.g 45 42 true (.len (.t 44)) (.g 46 42 true (.bin .sub (.t 45) (.c (.pv (.int .i64 1)))) (.g 47 42 true (.idx 1 (.t 43) (.t 46)) (.g 48 42 true (.load 1 false (.t 47)) (.g 49 42 true (.bin .lss (.t 48) (.c (.pv (.int .i64 2003)))) (.o 50 (.pick (.t 42) (.t 49) (.c (.pv (.bool false)))) (.o 2 (.mv (.t 50)) .nil))))))))))))))) .ret))))))), [.t 2])) := by kernel_rfl
theorem c_laws_FnPackPageLength (bs : List Int) (hb : isU8 bs) : PCon prog 14 [u8s bs] (fun p => p = .bool true) := by
  refine con_of_VS sl_laws_FnPackPageLength (by simp) (VS_seq (VS_r0 rfl (q_mv rfl (rg_nil (VS_seq (VS_seq (VS_r0 rfl (q_mv rfl (q_len_m rfl (q_gtr rfl rfl (rg_nil ?_)))))))))))
  refine VS_cond rfl (fun c0 => ?_) (fun c0 => ?_)
  · try simp at c0
    refine VS_seq (VS_r0 rfl (q_mv rfl (rg_nil (VS_ret ?_))))
    exact Bd.now ⟨_, rfl, rfl⟩
  · try simp at c0
    refine VS_skip (VS_seq (VS_r0 rfl (q_mv rfl (q_calle rfl (c_spec_DrawPackPage bs hb (by omega)) rfl trivial ?_))))
    rintro _ ⟨g, rfl, hg⟩
    refine q_alloc trivial (q_store rfl rfl rfl rfl rfl rfl ⟨rfl, rfl, by simp, rfl, by simp [isOne]⟩ rfl trivial (rg_nil (VS_seq ?_)))
    cases hf : fitsG g
    · skip
      have hpl : (pkV g).length = 0 := by rw [pkV, hf]; rfl
      refine VS_r0 rfl (q_load_ra rfl rfl rfl rfl rfl (by (simp [setAt]; done)) rfl (q_callp (c_impl_PackPage g hg) rfl trivial (q_mv rfl (rg_nil (VS_seq (VS_seq (VS_r0 rfl (q_mv rfl (q_load_ra rfl rfl rfl rfl rfl (by (simp [setAt]; done)) rfl (q_callp (c_spec_PackPage g hg) rfl trivial (q_callp (x := .bool true) ((c_laws_equalInts _ _ (by omega) (by omega)).eqT (by rfl)) rfl trivial (q_not rfl (q_mv rfl (q_t rfl (q_mv rfl ?_)))))))))))))))
      refine q_t rfl (q_len_m rfl (q_t rfl (q_eql_v true rfl rfl (decide_eq_true (by omega)) (q_pick_f rfl rfl (rg_nil ?_)))))
      refine VS_cond rfl (fun _ => ?_) (fun e => by cases e)
      refine VS_seq (VS_r0 rfl (q_mv rfl (q_load_ra rfl rfl rfl rfl rfl (by (simp [setAt]; done)) rfl (q_callp (c_spec_PackPage g hg) rfl trivial (q_callp (x := .bool true) ((c_laws_equalInts _ _ (by omega) (by omega)).eqT (by rfl)) rfl trivial (q_mv rfl (rg_nil (VS_ret ?_))))))))
      exact Bd.now ⟨_, rfl, rfl⟩
    · skip
      have hp : pkV g = pkL g := by rw [pkV, if_pos hf]
      have hpl := pk_len hf
      rw [← hp] at hpl
      have hla := pk_last g
      rw [← hp] at hla
      have hck := ckL_rg (pkM g)
      have h4 := fits_four hf
      have hbig : (pkV g).length ≤ 100 := by split at hpl <;> omega
      have hgk := hg.1
      have hgc := hg.2.1
      refine VS_r0 rfl (q_load_ra rfl rfl rfl rfl rfl (by (simp [setAt]; done)) rfl (q_callp (c_impl_PackPage g hg) rfl trivial (q_mv rfl (rg_nil (VS_seq (VS_seq (VS_r0 rfl (q_mv rfl (q_load_ra rfl rfl rfl rfl rfl (by (simp [setAt]; done)) rfl (q_callp (c_spec_PackPage g hg) rfl trivial (q_callp (x := .bool true) ((c_laws_equalInts _ _ (by omega) (by omega)).eqT (by rfl)) rfl trivial (q_not rfl (q_mv rfl (q_t rfl (q_mv rfl ?_)))))))))))))))
      refine q_t rfl (q_len_m rfl (q_t rfl (q_eql_v false rfl rfl (decide_eq_false (by split at hpl <;> omega)) (q_pick_f rfl rfl (rg_nil ?_)))))
      refine VS_cond rfl (fun e => by cases e) (fun _ => ?_)
      refine VS_skip (VS_seq (VS_r0 rfl (q_fld_r rfl (q_load_r rfl rfl rfl rfl rfl rfl rfl (q_len_m rfl (q_mul_to (2 * (g.ks.length : Int)) rfl rfl rfl (inR64 (by omega)) (q_add rfl rfl (inR64 (by omega)) (q_mv rfl (rg_nil (VS_seq (VS_seq (VS_r0 rfl (q_fld_r rfl (q_load_r rfl rfl rfl rfl rfl rfl rfl (q_len_m rfl ?_)))))))))))))))
      refine q_gtr rfl rfl (rg_nil ?_)
      refine VS_cond rfl (fun c2 => ?_) (fun c2 => ?_)
      · try simp at c2
        have hc1 : 0 < g.cs.length := by first | omega | (simp_all; done)
        rw [if_pos hc1] at hpl
        refine VS_r0 rfl (q_mv rfl (q_add rfl rfl (inR64 (by omega)) (q_mv rfl (rg_nil (VS_seq (VS_r0 rfl (q_mv rfl (q_len_m rfl (q_mv rfl (q_eql rfl rfl (q_mv rfl ?_)))))))))))
        refine q_b rfl (fun g42 => ?_) (fun g42 => ?_)
        · try simp at g42
          refine q_t rfl (q_mv rfl (q_t rfl (q_mv rfl (q_t rfl (q_len_m rfl (q_t rfl (q_sub rfl rfl (inR64 (by omega)) (q_t rfl (q_idx_m (f := fun k => i64 k) (xs := pkV g) (n := ((pkV g).length : Int) - 1) rfl rfl (by omega) (by omega) (fun _ => rfl) ?_)))))))))
          rw [show (((pkV g).length : Int) - 1).toNat = (pkV g).length - 1 by omega]
          refine q_t rfl (q_load_c rfl rfl rfl (q_t rfl (q_lss rfl rfl (q_pick_t rfl rfl (q_mv rfl (rg_nil (VS_ret ?_)))))))
          refine Bd.now ⟨_, rfl, ?_⟩
          (rw [hla]; exact congrArg PV.bool (decide_eq_true (by omega)))
        · try simp at g42
          refine q_f rfl (q_f rfl (q_f rfl (q_f rfl (q_f rfl (q_f rfl (q_f rfl (q_pick_f rfl rfl (q_mv rfl (rg_nil (VS_ret ?_))))))))))
          refine Bd.now ⟨_, rfl, ?_⟩
          (exfalso; omega)
      · try simp at c2
        have hc0 : ¬ 0 < g.cs.length := by first | omega | (rw [c2]; simp) | (simp_all; done)
        rw [if_neg hc0] at hpl
        refine VS_skip (VS_seq (VS_r0 rfl (q_mv rfl (q_len_m rfl (q_mv rfl (q_eql rfl rfl (q_mv rfl ?_)))))))
        refine q_b rfl (fun g42 => ?_) (fun g42 => ?_)
        · try simp at g42
          refine q_t rfl (q_mv rfl (q_t rfl (q_mv rfl (q_t rfl (q_len_m rfl (q_t rfl (q_sub rfl rfl (inR64 (by omega)) (q_t rfl (q_idx_m (f := fun k => i64 k) (xs := pkV g) (n := ((pkV g).length : Int) - 1) rfl rfl (by omega) (by omega) (fun _ => rfl) ?_)))))))))
          rw [show (((pkV g).length : Int) - 1).toNat = (pkV g).length - 1 by omega]
          refine q_t rfl (q_load_c rfl rfl rfl (q_t rfl (q_lss rfl rfl (q_pick_t rfl rfl (q_mv rfl (rg_nil (VS_ret ?_)))))))
          refine Bd.now ⟨_, rfl, ?_⟩
          (rw [hla]; exact congrArg PV.bool (decide_eq_true (by omega)))
        · try simp at g42
          refine q_f rfl (q_f rfl (q_f rfl (q_f rfl (q_f rfl (q_f rfl (q_f rfl (q_pick_f rfl rfl (q_mv rfl (rg_nil (VS_ret ?_))))))))))
          refine Bd.now ⟨_, rfl, ?_⟩
          (exfalso; omega)
end Go.V
