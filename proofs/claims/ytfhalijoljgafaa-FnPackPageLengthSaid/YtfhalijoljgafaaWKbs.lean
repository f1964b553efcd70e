/- A part of the proofs about laws of the page tree (see the text that bears the law): a small language of steps, its rules, and what the functions of the program return. -/
import Derived.Test.YtfhalijoljgafaaWKbr
import Derived.Test.YtfhalijoljgafaaQN
set_option linter.all false
set_option linter.unusedVariables false
set_option linter.unusedSimpArgs false
set_option maxHeartbeats 400000
namespace Go.V
open Go.Proofs.Try (prog)
theorem obs {os : List Nat} (h : os[0]? = some 0) : ∀ i, i < 1 → os[i]? = some i := fun i hi => by
  have e : i = 0 := by omega
  subst e; exact h
set_option maxRecDepth 100000
theorem sl_impl_FitsPage : slimF prog 39 = some (46, (.seq (.reg 0 (.o 1 (.box 30 3 (.t 0)) (.o 2 (.mv (.c (.pv (.bool false)))) .nil))) (.seq (.seq (.reg 0 (.o 5 (.fld 0 1 false (.t 1)) (.o 6 (.load 1 false (.t 5)) (.o 7 (.len (.t 6)) (.o 8 (.bin .gtr (.t 7) (.c (.pv (.int .i64 4)))) (.o 9 (.mv (.t 8)) (.g 10 9 false (.fld 0 1 false (.t 1)) (.g 11 9 false (.load 1 false (.t 10)) (.g 12 9 false (.call 61 [.t 11]) (.g 13 9 false (.not (.t 12)) (.o 14 (.pick (.t 9) (.c (.pv (.bool true))) (.t 13)) .nil))))))))))) (.cond (.t 14) (.seq (.reg 0 (.o 2 (.mv (.c (.pv (.bool false)))) .nil)) .ret) .skip)) (.seq (.seq (.reg 0 (.o 15 (.fld 1 1 false (.t 1)) (.o 16 (.load 1 false (.t 15)) (.o 17 (.len (.t 16)) (.o 18 (.bin .gtr (.t 17) (.c (.pv (.int .i64 0)))) .nil))))) (.cond (.t 18) (.seq (.reg 0 (.o 19 (.fld 2 1 false (.t 1)) (.o 20 (.load 1 false (.t 19)) (.o 21 (.len (.t 20)) (.o 22 (.bin .eql (.t 21) (.c (.pv (.int .i64 0)))) (.o 23 (.mv (.t 22)) (.g 24 23 true (.load 3 true (.t 1)) (.g 25 23 true (.call 55 [.t 24]) (.g 26 23 true (.call 41 [.t 25]) (.o 27 (.pick (.t 23) (.t 26) (.c (.pv (.bool false)))) (.o 2 (.mv (.t 27)) .nil))))))))))) .ret) .skip)) (.seq (.seq (.reg 0 (.o 28 (.fld 2 1 false (.t 1)) (.o 29 (.load 1 false (.t 28)) (.o 30 (.len (.t 29)) (.o 31 (.fld 0 1 false (.t 1)) (.o 32 (.load 1 false (.t 31)) (.o 33 (.len (.t 32)) (.o 34 (.bin .neq (.t 30) (.t 33)) .nil)))))))) (.cond (.t 34) (.seq (.reg 0 (.o 2 (.mv (.c (.pv (.bool false)))) .nil)) .ret) .skip)) (.seq (.seq (.reg 0 (.o 35 (.fld 2 1 false (.t 1)) (.o 36 (.load 1 false (.t 35)) (.o 37 (.len (.t 36)) (.o 38 (.mv (.c (.pv (.int .i64 0)))) .nil))))) (.block 0 (.loop (.seq (.reg 0 (.o 39 (.bin .lss (.t 38) (.t 37)) .nil)) (.seq (.cond (.t 39) .skip (.exit 0)) (.seq (.block 1 (.seq (.reg 0 (.o 40 (.idx 1 (.t 36) (.t 38)) (.o 41 (.load 1 false (.t 40)) (.o 4 (.mv (.t 41)) .nil)))) (.seq (.reg 0 (.o 42 (.mv (.t 4)) (.o 43 (.call 62 [.t 42]) (.o 44 (.not (.t 43)) .nil)))) (.cond (.t 44) (.seq (.reg 0 (.o 2 (.mv (.c (.pv (.bool false)))) .nil)) .ret) .skip)))) (.reg 0 (.o 45 (.bin .add (.t 38) (.c (.pv (.int .i64 1)))) (.o 38 (.mv (.t 45)) .nil))))))))) (.seq (.reg 0 (.o 2 (.mv (.c (.pv (.bool true)))) .nil)) .ret))))), [.t 2])) := by kernel_rfl
theorem c_impl_FitsPage (g : Pg) (hg : anyG g) : PCon prog 39 [pgP g] (fun p => p = .bool (fitsG g)) := by
  have hgk := hg.1
  have hgc := hg.2.1
  have hgv := hg.2.2
  refine con_of_VS sl_impl_FitsPage (by simp) (VS_seq (VS_r0 rfl (q_box rfl rfl rfl trivial (q_mv rfl (rg_nil (VS_seq (VS_seq (VS_r0 rfl (q_fld_r rfl (q_load_r rfl rfl rfl rfl rfl rfl rfl (q_len_m rfl (q_gtr rfl rfl (q_mv rfl ?_)))))))))))))
  refine q_b rfl (fun g9 => ?_) (fun g9 => ?_)
  · try simp at g9
    refine q_t rfl (q_fld_r rfl (q_t rfl (q_load_r rfl rfl rfl rfl rfl rfl rfl (q_t rfl (q_callp (c_impl_ValidKeys g.ks (by omega)) rfl trivial (q_t rfl (q_not rfl (q_pick_f rfl rfl (rg_nil ?_)))))))))
    refine VS_cond rfl (fun c0 => ?_) (fun c0 => ?_)
    · try simp at c0
      refine VS_seq (VS_r0 rfl (q_mv rfl (rg_nil (VS_ret ?_))))
      refine Bd.now ⟨_, rfl, congrArg PV.bool (fits_bad ?_).symm⟩
      (refine .inl ?_; simp_all; done)
    · try simp at c0
      have hgd : goodKeys g.ks = true := by simp_all
      have h4l : g.ks.length ≤ 4 := by first | omega | (simp at *; omega)
      refine VS_skip (VS_seq (VS_seq (VS_r0 rfl (q_fld_r rfl (q_load_r rfl rfl rfl rfl rfl rfl rfl (q_len_m rfl (q_gtr rfl rfl (rg_nil ?_))))))))
      refine VS_cond rfl (fun c1 => ?_) (fun c1 => ?_)
      · try simp at c1
        have hc0 : g.cs.length ≠ 0 := by first | omega | exact c1 | (intro e; simp_all; done)
        refine VS_seq (VS_r0 rfl (q_fld_r rfl (q_load_r rfl rfl rfl rfl rfl rfl rfl (q_len_m rfl (q_eql rfl rfl (q_mv rfl ?_))))))
        refine q_b rfl (fun g23 => ?_) (fun g23 => ?_)
        · try simp at g23
          refine q_t rfl (q_load_ra rfl rfl rfl rfl rfl (by (simp; done)) rfl (q_t rfl (q_callp (c_impl_insideOf g) rfl trivial (q_t rfl (q_callp (c_impl_ValidInner g.ks g.cs (by omega) (by omega)) rfl trivial (q_pick_t rfl rfl (q_mv rfl (rg_nil (VS_ret ?_)))))))))
          refine Bd.now ⟨_, rfl, congrArg PV.bool ?_⟩
          rw [fits_inner hc0 hgd h4l]
          (simp_all; done)
        · try simp at g23
          refine q_f rfl (q_f rfl (q_f rfl (q_pick_f rfl rfl (q_mv rfl (rg_nil (VS_ret ?_))))))
          refine Bd.now ⟨_, rfl, congrArg PV.bool ?_⟩
          rw [fits_inner hc0 hgd h4l]
          (simp_all; done)
      · try simp at c1
        have hc0 : g.cs.length = 0 := by first | omega | (rw [c1]; rfl) | (simp_all; done)
        refine VS_skip (VS_seq (VS_seq (VS_r0 rfl (q_fld_r rfl (q_load_r rfl rfl rfl rfl rfl rfl rfl (q_len_m rfl (q_fld_r rfl (q_load_r rfl rfl rfl rfl rfl rfl rfl (q_len_m rfl (q_neq rfl rfl (rg_nil ?_)))))))))))
        refine VS_cond rfl (fun c2 => ?_) (fun c2 => ?_)
        · try simp at c2
          refine VS_seq (VS_r0 rfl (q_mv rfl (rg_nil (VS_ret ?_))))
          refine Bd.now ⟨_, rfl, congrArg PV.bool ?_⟩
          rw [fits_leaf hc0 hgd h4l]
          (simp at *; omega)
        · try simp at c2
          refine VS_skip (VS_seq (VS_seq (VS_r0 rfl (q_fld_r rfl (q_load_r rfl rfl rfl rfl rfl rfl rfl (q_len_m rfl (q_mv rfl (rg_nil (VS_block ?_)))))))))
          refine VS_bd (Bd.keepL [(1, .ptr 0 0 0), (36, .pv (ints g.vs)), (37, .pv (i64 g.vs.length)), (38, .pv (i64 0))] ⟨rfl, rfl, rfl, rfl, trivial⟩ ?_)
          refine VS_loop (fun mz E S => ∃ i : Nat, mz = g.vs.length - i ∧ (i ≤ g.vs.length) ∧ (∀ j, j < i → -1000 ≤ nth g.vs j ∧ nth g.vs j ≤ 1000) ∧ E = env [(1, .ptr 0 0 0), (36, .pv (ints g.vs)), (37, .pv (i64 g.vs.length)), (38, .pv (i64 i))] ∧ S = [some ⟨30, 3, [.pv (pgP g)]⟩]) ⟨_, 0, rfl, (by omega), (by omega), rfl, rfl⟩ ?_
          rintro mz _ _ ⟨i, hmeas, g0, g1, rfl, rfl⟩
          refine VS_seq (VS_r0 rfl (q_lss rfl rfl (rg_nil (VS_seq ?_))))
          refine VS_cond rfl (fun c3 => ?_) (fun c3 => ?_)
          · try simp at c3
            refine VS_skip (VS_seq (VS_block (VS_seq (VS_r0 rfl (q_idx_m (f := fun k => i64 k) (xs := g.vs) (n := (i : Int)) rfl rfl (by omega) (by omega) (fun _ => rfl) (q_load_c rfl rfl rfl (q_mv rfl (rg_nil (VS_seq (VS_r0 rfl (q_mv rfl (q_callp (c_impl_isValue _) rfl trivial (q_not rfl (rg_nil ?_))))))))))))))
            refine VS_cond rfl (fun c4 => ?_) (fun c4 => ?_)
            · try simp at c4
              refine VS_seq (VS_r0 rfl (q_mv rfl (rg_nil (VS_ret ?_))))
              refine Bd.now ⟨_, rfl, congrArg PV.bool ?_⟩
              rw [fits_leaf hc0 hgd h4l]
              refine (Bool.and_eq_false_iff.2 (.inr ?_)).symm
              refine Bool.eq_false_iff.2 fun hh => ?_
              have hh2 := List.all_eq_true.1 hh (nth g.vs i) (nth_mem (by omega))
              simp_all
              try omega
            · try simp at c4
              refine VS_skip (VS_r0 rfl (q_add rfl rfl (inR64 (by omega)) (q_mv rfl (rg_nil ?_))))
              refine Bd.keepL [(1, .ptr 0 0 0), (36, .pv (ints g.vs)), (37, .pv (i64 g.vs.length)), (38, .pv (i64 (i + 1)))] ⟨rfl, rfl, rfl, rfl, trivial⟩ ⟨_, ?_, i + 1, rfl, ?_, ?_, rfl, rfl⟩
              · omega
              · omega
              · intro j hj
                by_cases e : j = i
                · subst e; simp_all
                · exact g1 j (by omega)
          · try simp at c3
            refine VS_exit (VS_seq (VS_r0 rfl (q_mv rfl (rg_nil (VS_ret ?_)))))
            refine Bd.now ⟨_, rfl, congrArg PV.bool ?_⟩
            rw [fits_leaf hc0 hgd h4l]
            refine (Bool.and_eq_true_iff.2 ⟨decide_eq_true (by omega), List.all_eq_true.2 fun k hk => ?_⟩).symm
            obtain ⟨j, hj, rfl⟩ := mem_at hk
            have := g1 j (by omega)
            simpa using this
  · try simp at g9
    refine q_f rfl (q_f rfl (q_f rfl (q_f rfl (q_pick_t rfl rfl (rg_nil ?_)))))
    refine VS_cond rfl (fun _ => ?_) (fun e => by cases e)
    refine VS_seq (VS_r0 rfl (q_mv rfl (rg_nil (VS_ret ?_))))
    refine Bd.now ⟨_, rfl, congrArg PV.bool (fits_bad ?_).symm⟩
    (refine .inr ?_; omega)
theorem sl_spec_fitsPage : slimF prog 63 = some (38, (.seq (.reg 0 (.o 1 (.box 30 3 (.t 0)) (.o 2 (.mv (.c (.pv (.bool false)))) .nil))) (.seq (.seq (.reg 0 (.o 3 (.fld 0 1 false (.t 1)) (.o 4 (.load 1 false (.t 3)) (.o 5 (.call 82 [.t 4]) (.o 6 (.not (.t 5)) (.o 7 (.mv (.t 6)) (.g 8 7 false (.fld 0 1 false (.t 1)) (.g 9 7 false (.load 1 false (.t 8)) (.g 10 7 false (.len (.t 9)) (.g 11 7 false (.bin .gtr (.t 10) (.c (.pv (.int .i64 4)))) (.o 12 (.pick (.t 7) (.c (.pv (.bool true))) (.t 11)) .nil))))))))))) (.cond (.t 12) (.seq (.reg 0 (.o 2 (.mv (.c (.pv (.bool false)))) .nil)) .ret) .skip)) (.seq (.seq (.reg 0 (.o 13 (.fld 1 1 false (.t 1)) (.o 14 (.load 1 false (.t 13)) (.o 15 (.len (.t 14)) (.o 16 (.bin .eql (.t 15) (.c (.pv (.int .i64 0)))) .nil))))) (.cond (.t 16) (.seq (.reg 0 (.o 17 (.fld 2 1 false (.t 1)) (.o 18 (.load 1 false (.t 17)) (.o 19 (.len (.t 18)) (.o 20 (.fld 0 1 false (.t 1)) (.o 21 (.load 1 false (.t 20)) (.o 22 (.len (.t 21)) (.o 23 (.bin .eql (.t 19) (.t 22)) (.o 24 (.mv (.t 23)) (.g 25 24 true (.fld 2 1 false (.t 1)) (.g 26 24 true (.load 1 false (.t 25)) (.g 27 24 true (.call 83 [.t 26, .c (.pv (.int .i64 (-1000))), .c (.pv (.int .i64 1000))]) (.o 28 (.pick (.t 24) (.t 27) (.c (.pv (.bool false)))) (.o 2 (.mv (.t 28)) .nil)))))))))))))) .ret) .skip)) (.seq (.reg 0 (.o 29 (.fld 2 1 false (.t 1)) (.o 30 (.load 1 false (.t 29)) (.o 31 (.len (.t 30)) (.o 32 (.bin .eql (.t 31) (.c (.pv (.int .i64 0)))) (.o 33 (.mv (.t 32)) (.g 34 33 true (.load 3 true (.t 1)) (.g 35 33 true (.call 85 [.t 34]) (.g 36 33 true (.call 84 [.t 35]) (.o 37 (.pick (.t 33) (.t 36) (.c (.pv (.bool false)))) (.o 2 (.mv (.t 37)) .nil))))))))))) .ret))), [.t 2])) := by kernel_rfl
theorem c_spec_fitsPage (g : Pg) (hg : anyG g) : PCon prog 63 [pgP g] (fun p => p = .bool (fitsG g)) := by
  have hgk := hg.1
  have hgc := hg.2.1
  have hgv := hg.2.2
  refine con_of_VS sl_spec_fitsPage (by simp) (VS_seq (VS_r0 rfl (q_box rfl rfl rfl trivial (q_mv rfl (rg_nil (VS_seq (VS_seq (VS_r0 rfl (q_fld_r rfl (q_load_r rfl rfl rfl rfl rfl rfl rfl (q_callp (c_spec_validKeys g.ks (by omega)) rfl trivial (q_not rfl (q_mv rfl ?_)))))))))))))
  refine q_b rfl (fun g7 => ?_) (fun g7 => ?_)
  · try simp at g7
    refine q_t rfl (q_fld_r rfl (q_t rfl (q_load_r rfl rfl rfl rfl rfl rfl rfl (q_t rfl (q_len_m rfl (q_t rfl (q_gtr rfl rfl (q_pick_f rfl rfl (rg_nil ?_)))))))))
    refine VS_cond rfl (fun c0 => ?_) (fun c0 => ?_)
    · try simp at c0
      refine VS_seq (VS_r0 rfl (q_mv rfl (rg_nil (VS_ret ?_))))
      refine Bd.now ⟨_, rfl, congrArg PV.bool (fits_bad ?_).symm⟩
      (refine .inr ?_; omega)
    · try simp at c0
      have hgd : goodKeys g.ks = true := by simp_all
      have h4l : g.ks.length ≤ 4 := by first | omega | (simp at *; omega)
      refine VS_skip (VS_seq (VS_seq (VS_r0 rfl (q_fld_r rfl (q_load_r rfl rfl rfl rfl rfl rfl rfl (q_len_m rfl (q_eql rfl rfl (rg_nil ?_))))))))
      refine VS_cond rfl (fun c1 => ?_) (fun c1 => ?_)
      · try simp at c1
        have hc0 : g.cs.length = 0 := by first | omega | (rw [c1]; rfl) | (simp_all; done)
        refine VS_seq (VS_r0 rfl (q_fld_r rfl (q_load_r rfl rfl rfl rfl rfl rfl rfl (q_len_m rfl (q_fld_r rfl (q_load_r rfl rfl rfl rfl rfl rfl rfl (q_len_m rfl (q_eql rfl rfl (q_mv rfl ?_)))))))))
        refine q_b rfl (fun g24 => ?_) (fun g24 => ?_)
        · try simp at g24
          refine q_t rfl (q_fld_r rfl (q_t rfl (q_load_r rfl rfl rfl rfl rfl rfl rfl (q_t rfl (q_callp (c_spec_allIn g.vs (-1000) 1000 (by omega)) rfl trivial (q_pick_t rfl rfl (q_mv rfl (rg_nil (VS_ret ?_)))))))))
          refine Bd.now ⟨_, rfl, congrArg PV.bool ?_⟩
          rw [fits_leaf hc0 hgd h4l]
          (simp at *; omega)
        · try simp at g24
          refine q_f rfl (q_f rfl (q_f rfl (q_pick_f rfl rfl (q_mv rfl (rg_nil (VS_ret ?_))))))
          refine Bd.now ⟨_, rfl, congrArg PV.bool ?_⟩
          rw [fits_leaf hc0 hgd h4l]
          (simp at *; omega)
      · try simp at c1
        have hc0 : g.cs.length ≠ 0 := by first | omega | exact c1 | (intro e; simp_all; done)
        refine VS_skip (VS_seq (VS_r0 rfl (q_fld_r rfl (q_load_r rfl rfl rfl rfl rfl rfl rfl (q_len_m rfl (q_eql rfl rfl (q_mv rfl ?_)))))))
        refine q_b rfl (fun g33 => ?_) (fun g33 => ?_)
        · try simp at g33
          refine q_t rfl (q_load_ra rfl rfl rfl rfl rfl (by (simp; done)) rfl (q_t rfl (q_callp (c_spec_insideOf g) rfl trivial (q_t rfl (q_callp (c_spec_validInner g.ks g.cs (by omega) (by omega)) rfl trivial (q_pick_t rfl rfl (q_mv rfl (rg_nil (VS_ret ?_)))))))))
          refine Bd.now ⟨_, rfl, congrArg PV.bool ?_⟩
          rw [fits_inner hc0 hgd h4l]
          (simp_all; done)
        · try simp at g33
          refine q_f rfl (q_f rfl (q_f rfl (q_pick_f rfl rfl (q_mv rfl (rg_nil (VS_ret ?_))))))
          refine Bd.now ⟨_, rfl, congrArg PV.bool ?_⟩
          rw [fits_inner hc0 hgd h4l]
          (simp_all; done)
  · try simp at g7
    refine q_f rfl (q_f rfl (q_f rfl (q_f rfl (q_pick_t rfl rfl (rg_nil ?_)))))
    refine VS_cond rfl (fun _ => ?_) (fun e => by cases e)
    refine VS_seq (VS_r0 rfl (q_mv rfl (rg_nil (VS_ret ?_))))
    refine Bd.now ⟨_, rfl, congrArg PV.bool (fits_bad ?_).symm⟩
    (refine .inl ?_; simp_all; done)
theorem sl_spec_anyPage : slimF prog 60 = some (23, (.seq (.reg 0 (.o 2 (.alloc 30 3 (.agg [.nils, .nils, .nils])) .nil)) (.seq (.reg 0 (.o 4 (.mv (.t 0)) (.o 5 (.call 45 [.t 4]) (.o 3 (.alloc 25 2 (.agg [.pv (.int .i64 0), .nils])) (.op ⟨none, none, .store 2 (.t 3) (.t 5)⟩ .nil))))) (.seq (.seq (.reg 0 (.o 6 (.fld 1 1 false (.t 3)) (.o 7 (.load 1 false (.t 6)) (.o 8 (.len (.t 7)) (.o 9 (.bin .eql (.t 8) (.c (.pv (.int .i64 0)))) .nil))))) (.cond (.t 9) (.seq (.reg 0 (.o 10 (.lit 3 1 0 [.pv (.int .i64 0)] []) (.o 11 (.lit 3 1 0 [.pv (.int .i64 0)] []) (.o 12 (.lit 3 1 0 [.pv (.int .i64 0)] []) (.o 13 (.build [.nils, .nils, .nils] [(0, (1, .t 10)), (1, (1, .t 11)), (2, (1, .t 12))]) (.op ⟨none, none, .store 3 (.t 2) (.t 13)⟩ .nil)))))) .ret) .skip)) (.seq (.reg 2 (.o 14 (.fld 1 1 false (.t 3)) (.o 15 (.load 1 false (.t 14)) (.o 16 (.mv (.t 0)) (.o 17 (.fld 1 1 false (.t 3)) (.o 18 (.load 1 false (.t 17)) (.o 19 (.len (.t 18)) (.o 20 (.call 56 [.t 16, .t 19]) (.o 21 (.idx 3 (.t 15) (.t 20)) (.o 22 (.load 3 true (.t 21)) (.last ⟨none, none, .store 3 (.t 2) (.t 22)⟩))))))))))) .ret))), [.c 2 3])) := by kernel_rfl
theorem c_spec_anyPage (bs : List Int) (hb : isU8 bs) (hbl : bs.length ≤ 2000) (p : Int) (hp : 0 ≤ p) (hp2 : p ≤ 40000000000) : RdS prog 60 73 bs p [] (fun x q => ∃ g : Pg, x = pgP g ∧ anyG g ∧ (p ≤ q ∧ q ≤ p + 221)) := by
  refine callS_of_VS sl_spec_anyPage (by simp) (VS_seq (VS_r0 rfl (q_alloc trivial (rg_nil (VS_seq (VS_r0 rfl (q_mv rfl ?_)))))))
  refine q_rd rfl (c_spec_anyTree bs hb hbl _ (by omega) (by omega)) rfl rfl (fun _ => trivial) ?_
  rintro _ q5 ⟨t, rfl, ha, hq1, hq2⟩
  refine q_alloc trivial (q_store rfl rfl rfl rfl rfl rfl ⟨rfl, rfl, by simp, rfl, by simp [isOne]⟩ rfl trivial (rg_nil (VS_seq (VS_seq (VS_r0 rfl (q_fld_r rfl (q_load_r rfl rfl rfl rfl rfl rfl rfl (q_len_m rfl (q_eql rfl rfl (rg_nil ?_))))))))))
  refine VS_cond rfl (fun c0 => ?_) (fun c0 => ?_)
  · try simp at c0
    refine VS_seq (VS_r0 rfl (q_lit0 (q_lit0 (q_lit0 (q_build rfl (q_store rfl rfl rfl rfl rfl rfl ⟨rfl, rfl, by simp, rfl, by simp [isOne]⟩ rfl trivial (rg_nil ?_)))))))
    refine VS_bd (Bd.pad ?_)
    refine VS_bd (Bd.frzF 3 1 0 0 3 1 (xs := []) (ps := []) (by decide) rfl rfl rfl rfl rfl ?_)
    refine VS_bd (Bd.frzF 3 1 0 1 3 1 (xs := []) (ps := []) (by decide) rfl rfl rfl rfl rfl ?_)
    refine VS_bd (Bd.frzF 3 1 0 2 3 1 (xs := []) (ps := []) (by decide) rfl rfl rfl rfl rfl ?_)
    refine VS_ret (Bd.aggP 1 0 [.sl [], .sl [], .sl []] rfl rfl ?_)
    refine Bd.renL [0, 1] (obs rfl) (by simp) [(2, .ptr 1 0 0)] ⟨rfl, trivial⟩ rfl ?_
    exact ⟨_, rfl, _, _, _, rfl, ⟨⟨[], [], []⟩, rfl, ⟨by simp, by simp, by simp⟩, by omega⟩, rfl⟩
  · try simp at c0
    have hm := ha.many
    have hpos : 0 < t.ps.length := by first | omega | exact List.length_pos_iff.2 c0
    refine VS_skip (VS_seq (VS_r2 [none, none, some ⟨25, 2, [.agg [.pv (i64 t.r), .pv (pgsP t.ps)]]⟩] hmix (SubL.sub (by repeat constructor)) (q_fld_r rfl (q_load_r rfl rfl rfl rfl rfl rfl rfl (q_mv rfl (q_fld_r rfl (q_load_r rfl rfl rfl rfl rfl rfl rfl (q_len_m rfl ?_))))))))
    refine q_rd rfl (c_spec_reader_pick bs hb hbl _ (by omega) (t.ps.length : Int) (by omega) (by omega)) rfl rfl (fun _ => (SubL.sub (by repeat constructor))) ?_
    rintro _ q20 ⟨v, rfl, q_v, rfl⟩
    refine q_idx_m (f := pgP) (xs := t.ps) (n := v) rfl rfl (by omega) (by omega) (fun _ => rfl) (q_load_c rfl rfl rfl (q_last (q_store rfl rfl rfl rfl rfl rfl ⟨rfl, rfl, by simp, rfl, by simp [isOne]⟩ rfl trivial (rg_nil (VS_ret (Bd.aggP 1 0 [ints (nth t.ps v.toNat).ks, ints (nth t.ps v.toNat).cs, ints (nth t.ps v.toNat).vs] rfl rfl ?_))))))
    refine Bd.renL [0, 1] (obs rfl) (by simp) [(2, .ptr 1 0 0)] ⟨rfl, trivial⟩ rfl ?_
    exact ⟨_, rfl, _, _, _, rfl, ⟨nth t.ps v.toNat, rfl, ha.sm _ (by omega), by omega⟩, rfl⟩
end Go.V
