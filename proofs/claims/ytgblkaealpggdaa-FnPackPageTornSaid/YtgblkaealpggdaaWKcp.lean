/- A part of the proofs about laws of the page tree (see the text that bears the law): a small language of steps, its rules, and what the functions of the program return. -/
import Derived.Test.YtgblkaealpggdaaWKbn
import Derived.Test.YtgblkaealpggdaaQU
set_option linter.all false
set_option linter.unusedVariables false
set_option linter.unusedSimpArgs false
set_option maxHeartbeats 4000000
namespace Go.V
open Go.Proofs.Try (prog)
theorem zcp (os : List Nat) : ∀ i, i < 0 → os[i]? = some i := fun i hi => absurd hi (Nat.not_lt_zero i)
theorem ocp {os : List Nat} (h : os[0]? = some 0) : ∀ i, i < 1 → os[i]? = some i := fun i hi => by
 have e : i = 0 := by omega
 subst e; exact h
set_option maxRecDepth 100000
theorem sl_impl_FitsPage : slimF prog 34 = some (46, (.seq (.reg 0 (.o 1 (.box 25 3 (.t 0)) (.o 2 (.mv (.c (.pv (.bool false)))) .nil))) (.seq (.seq (.reg 0 (.o 5 (.fld 0 1 false (.t 1)) (.o 6 (.load 1 false (.t 5)) (.o 7 (.len (.t 6)) (.o 8 (.bin .gtr (.t 7) (.c (.pv (.int .i64 4)))) (.o 9 (.mv (.t 8)) (.g 10 9 false (.fld 0 1 false (.t 1)) (.g 11 9 false (.load 1 false (.t 10)) (.g 12 9 false (.call 65 [.t 11]) (.g 13 9 false (.not (.t 12)) (.o 14 (.pick (.t 9) (.c (.pv (.bool true))) (.t 13)) .nil))))))))))) (.cond (.t 14) (.seq (.reg 0 (.o 2 (.mv (.c (.pv (.bool false)))) .nil)) .ret) .skip)) (.seq (.seq (.reg 0 (.o 15 (.fld 1 1 false (.t 1)) (.o 16 (.load 1 false (.t 15)) (.o 17 (.len (.t 16)) (.o 18 (.bin .gtr (.t 17) (.c (.pv (.int .i64 0)))) .nil))))) (.cond (.t 18) (.seq (.reg 0 (.o 19 (.fld 2 1 false (.t 1)) (.o 20 (.load 1 false (.t 19)) (.o 21 (.len (.t 20)) (.o 22 (.bin .eql (.t 21) (.c (.pv (.int .i64 0)))) (.o 23 (.mv (.t 22)) (.g 24 23 true (.load 3 true (.t 1)) (.g 25 23 true (.call 67 [.t 24]) (.g 26 23 true (.call 66 [.t 25]) (.o 27 (.pick (.t 23) (.t 26) (.c (.pv (.bool false)))) (.o 2 (.mv (.t 27)) .nil))))))))))) .ret) .skip)) (.seq (.seq (.reg 0 (.o 28 (.fld 2 1 false (.t 1)) (.o 29 (.load 1 false (.t 28)) (.o 30 (.len (.t 29)) (.o 31 (.fld 0 1 false (.t 1)) (.o 32 (.load 1 false (.t 31)) (.o 33 (.len (.t 32)) (.o 34 (.bin .neq (.t 30) (.t 33)) .nil)))))))) (.cond (.t 34) (.seq (.reg 0 (.o 2 (.mv (.c (.pv (.bool false)))) .nil)) .ret) .skip)) (.seq (.seq (.reg 0 (.o 35 (.fld 2 1 false (.t 1)) (.o 36 (.load 1 false (.t 35)) (.o 37 (.len (.t 36)) (.o 38 (.mv (.c (.pv (.int .i64 0)))) .nil))))) (.block 0 (.loop (.seq (.reg 0 (.o 39 (.bin .lss (.t 38) (.t 37)) .nil)) (.seq (.cond (.t 39) .skip (.exit 0)) (.seq (.block 1 (.seq (.reg 0 (.o 40 (.idx 1 (.t 36) (.t 38)) (.o 41 (.load 1 false (.t 40)) (.o 4 (.mv (.t 41)) .nil)))) (.seq (.reg 0 (.o 42 (.mv (.t 4)) (.o 43 (.call 44 [.t 42]) (.o 44 (.not (.t 43)) .nil)))) (.cond (.t 44) (.seq (.reg 0 (.o 2 (.mv (.c (.pv (.bool false)))) .nil)) .ret) .skip)))) (.reg 0 (.o 45 (.bin .add (.t 38) (.c (.pv (.int .i64 1)))) (.o 38 (.mv (.t 45)) .nil))))))))) (.seq (.reg 0 (.o 2 (.mv (.c (.pv (.bool true)))) .nil)) .ret))))), [.t 2])) := by kernel_rfl
theorem c_impl_FitsPage (g : Pg) (hg : anyG g) : PCon prog 34 [pgP g] (fun p => p = .bool (fitsG g)) := by
 have hgk := hg.1
 have hgc := hg.2.1
 have hgv := hg.2.2
 refine con_of_VS sl_impl_FitsPage (by simp) (VS_seq (VS_r0 rfl (q_box rfl rfl rfl trivial (q_mv rfl (rg_nil (VS_seq (VS_seq (VS_r0 rfl (q_fld_r rfl (q_load_r rfl rfl rfl rfl rfl rfl rfl (q_len_m rfl (q_gtr rfl rfl (q_mv rfl ?_)))))))))))))
 refine q_b rfl (fun g9 => ?_) (fun g9 => ?_)
 ·try simp at g9
  refine q_t rfl (q_fld_r rfl (q_t rfl (q_load_r rfl rfl rfl rfl rfl rfl rfl (q_t rfl (q_callp (c_impl_ValidKeys g.ks (by omega)) rfl trivial (q_t rfl (q_not rfl (q_pick_f rfl rfl (rg_nil ?_)))))))))
  refine VS_cond rfl (fun c0 => ?_) (fun c0 => ?_)
  ·try simp at c0
   refine VS_seq (VS_r0 rfl (q_mv rfl (rg_nil (VS_ret ?_))))
   refine Bd.now ⟨_, rfl, congrArg PV.bool (fits_bad ?_).symm⟩
   (refine .inl ?_; simp_all; done)
  ·try simp at c0
   have hgd : goodKeys g.ks = true := by simp_all
   have h4l : g.ks.length ≤ 4 := by first | omega | (simp at *; omega)
   refine VS_skip (VS_seq (VS_seq (VS_r0 rfl (q_fld_r rfl (q_load_r rfl rfl rfl rfl rfl rfl rfl (q_len_m rfl (q_gtr rfl rfl (rg_nil ?_))))))))
   refine VS_cond rfl (fun c1 => ?_) (fun c1 => ?_)
   ·try simp at c1
    have hc0 : g.cs.length ≠ 0 := by first | omega | exact c1 | (intro e; simp_all; done)
    refine VS_seq (VS_r0 rfl (q_fld_r rfl (q_load_r rfl rfl rfl rfl rfl rfl rfl (q_len_m rfl (q_eql rfl rfl (q_mv rfl ?_))))))
    refine q_b rfl (fun g23 => ?_) (fun g23 => ?_)
    ·try simp at g23
     refine q_t rfl (q_load_ra rfl rfl rfl rfl rfl (by (simp; done)) rfl (q_t rfl (q_callp (c_impl_insideOf g) rfl trivial (q_t rfl (q_callp (c_impl_ValidInner g.ks g.cs (by omega) (by omega)) rfl trivial (q_pick_t rfl rfl (q_mv rfl (rg_nil (VS_ret ?_)))))))))
     refine Bd.now ⟨_, rfl, congrArg PV.bool ?_⟩
     rw [fits_inner hc0 hgd h4l]
     (simp_all; done)
    ·try simp at g23
     refine q_f rfl (q_f rfl (q_f rfl (q_pick_f rfl rfl (q_mv rfl (rg_nil (VS_ret ?_))))))
     refine Bd.now ⟨_, rfl, congrArg PV.bool ?_⟩
     rw [fits_inner hc0 hgd h4l]
     (simp_all; done)
   ·try simp at c1
    have hc0 : g.cs.length = 0 := by first | omega | (rw [c1]; rfl) | (simp_all; done)
    refine VS_skip (VS_seq (VS_seq (VS_r0 rfl (q_fld_r rfl (q_load_r rfl rfl rfl rfl rfl rfl rfl (q_len_m rfl (q_fld_r rfl (q_load_r rfl rfl rfl rfl rfl rfl rfl (q_len_m rfl (q_neq rfl rfl (rg_nil ?_)))))))))))
    refine VS_cond rfl (fun c2 => ?_) (fun c2 => ?_)
    ·try simp at c2
     refine VS_seq (VS_r0 rfl (q_mv rfl (rg_nil (VS_ret ?_))))
     refine Bd.now ⟨_, rfl, congrArg PV.bool ?_⟩
     rw [fits_leaf hc0 hgd h4l]
     (simp at *; omega)
    ·try simp at c2
     refine VS_skip (VS_seq (VS_seq (VS_r0 rfl (q_fld_r rfl (q_load_r rfl rfl rfl rfl rfl rfl rfl (q_len_m rfl (q_mv rfl (rg_nil (VS_block ?_)))))))))
     refine VS_bd (Bd.keepL [(1, .ptr 0 0 0), (36, .pv (ints g.vs)), (37, .pv (i64 g.vs.length)), (38, .pv (i64 0))] ⟨rfl, rfl, rfl, rfl, trivial⟩ ?_)
     refine VS_loop (fun mz E S => ∃ i : Nat, mz = g.vs.length - i ∧ (i ≤ g.vs.length) ∧ (∀ j, j < i → -1000 ≤ nth g.vs j ∧ nth g.vs j ≤ 1000) ∧ E = env [(1, .ptr 0 0 0), (36, .pv (ints g.vs)), (37, .pv (i64 g.vs.length)), (38, .pv (i64 i))] ∧ S = [some ⟨25, 3, [.pv (pgP g)]⟩]) ⟨_, 0, rfl, (by omega), (by omega), rfl, rfl⟩ ?_
     rintro mz _ _ ⟨i, hmeas, g0, g1, rfl, rfl⟩
     refine VS_seq (VS_r0 rfl (q_lss rfl rfl (rg_nil (VS_seq ?_))))
     refine VS_cond rfl (fun c3 => ?_) (fun c3 => ?_)
     ·try simp at c3
      refine VS_skip (VS_seq (VS_block (VS_seq (VS_r0 rfl (q_idx_m (f := fun k => i64 k) (xs := g.vs) (n := (i : Int)) rfl rfl (by omega) (by omega) (fun _ => rfl) (q_load_c rfl rfl rfl (q_mv rfl (rg_nil (VS_seq (VS_r0 rfl (q_mv rfl (q_callp (c_impl_isValue _) rfl trivial (q_not rfl (rg_nil ?_))))))))))))))
      refine VS_cond rfl (fun c4 => ?_) (fun c4 => ?_)
      ·try simp at c4
       refine VS_seq (VS_r0 rfl (q_mv rfl (rg_nil (VS_ret ?_))))
       refine Bd.now ⟨_, rfl, congrArg PV.bool ?_⟩
       rw [fits_leaf hc0 hgd h4l]
       refine (Bool.and_eq_false_iff.2 (.inr ?_)).symm
       refine Bool.eq_false_iff.2 fun hh => ?_
       have hh2 := List.all_eq_true.1 hh (nth g.vs i) (nth_mem (by omega))
       simp_all
       try omega
      ·try simp at c4
       refine VS_skip (VS_r0 rfl (q_add rfl rfl (inR64 (by omega)) (q_mv rfl (rg_nil ?_))))
       refine Bd.keepL [(1, .ptr 0 0 0), (36, .pv (ints g.vs)), (37, .pv (i64 g.vs.length)), (38, .pv (i64 (i + 1)))] ⟨rfl, rfl, rfl, rfl, trivial⟩ ⟨_, ?_, i + 1, rfl, ?_, ?_, rfl, rfl⟩
       ·omega
       ·omega
       ·intro j hj
        by_cases e : j = i
        ·subst e; simp_all
        ·exact g1 j (by omega)
     ·try simp at c3
      refine VS_exit (VS_seq (VS_r0 rfl (q_mv rfl (rg_nil (VS_ret ?_)))))
      refine Bd.now ⟨_, rfl, congrArg PV.bool ?_⟩
      rw [fits_leaf hc0 hgd h4l]
      refine (Bool.and_eq_true_iff.2 ⟨decide_eq_true (by omega), List.all_eq_true.2 fun k hk => ?_⟩).symm
      obtain ⟨j, hj, rfl⟩ := mem_at hk
      have := g1 j (by omega)
      simpa using this
 ·try simp at g9
  refine q_f rfl (q_f rfl (q_f rfl (q_f rfl (q_pick_t rfl rfl (rg_nil ?_)))))
  refine VS_cond rfl (fun _ => ?_) (fun e => by cases e)
  refine VS_seq (VS_r0 rfl (q_mv rfl (rg_nil (VS_ret ?_))))
  refine Bd.now ⟨_, rfl, congrArg PV.bool (fits_bad ?_).symm⟩
  (refine .inr ?_; omega)
theorem sl_spec_fitsPage : slimF prog 37 = some (38, (.seq (.reg 0 (.o 1 (.box 25 3 (.t 0)) (.o 2 (.mv (.c (.pv (.bool false)))) .nil))) (.seq (.seq (.reg 0 (.o 3 (.fld 0 1 false (.t 1)) (.o 4 (.load 1 false (.t 3)) (.o 5 (.call 69 [.t 4]) (.o 6 (.not (.t 5)) (.o 7 (.mv (.t 6)) (.g 8 7 false (.fld 0 1 false (.t 1)) (.g 9 7 false (.load 1 false (.t 8)) (.g 10 7 false (.len (.t 9)) (.g 11 7 false (.bin .gtr (.t 10) (.c (.pv (.int .i64 4)))) (.o 12 (.pick (.t 7) (.c (.pv (.bool true))) (.t 11)) .nil))))))))))) (.cond (.t 12) (.seq (.reg 0 (.o 2 (.mv (.c (.pv (.bool false)))) .nil)) .ret) .skip)) (.seq (.seq (.reg 0 (.o 13 (.fld 1 1 false (.t 1)) (.o 14 (.load 1 false (.t 13)) (.o 15 (.len (.t 14)) (.o 16 (.bin .eql (.t 15) (.c (.pv (.int .i64 0)))) .nil))))) (.cond (.t 16) (.seq (.reg 0 (.o 17 (.fld 2 1 false (.t 1)) (.o 18 (.load 1 false (.t 17)) (.o 19 (.len (.t 18)) (.o 20 (.fld 0 1 false (.t 1)) (.o 21 (.load 1 false (.t 20)) (.o 22 (.len (.t 21)) (.o 23 (.bin .eql (.t 19) (.t 22)) (.o 24 (.mv (.t 23)) (.g 25 24 true (.fld 2 1 false (.t 1)) (.g 26 24 true (.load 1 false (.t 25)) (.g 27 24 true (.call 70 [.t 26, .c (.pv (.int .i64 (-1000))), .c (.pv (.int .i64 1000))]) (.o 28 (.pick (.t 24) (.t 27) (.c (.pv (.bool false)))) (.o 2 (.mv (.t 28)) .nil)))))))))))))) .ret) .skip)) (.seq (.reg 0 (.o 29 (.fld 2 1 false (.t 1)) (.o 30 (.load 1 false (.t 29)) (.o 31 (.len (.t 30)) (.o 32 (.bin .eql (.t 31) (.c (.pv (.int .i64 0)))) (.o 33 (.mv (.t 32)) (.g 34 33 true (.load 3 true (.t 1)) (.g 35 33 true (.call 72 [.t 34]) (.g 36 33 true (.call 71 [.t 35]) (.o 37 (.pick (.t 33) (.t 36) (.c (.pv (.bool false)))) (.o 2 (.mv (.t 37)) .nil))))))))))) .ret))), [.t 2])) := by kernel_rfl
theorem c_spec_fitsPage (g : Pg) (hg : anyG g) : PCon prog 37 [pgP g] (fun p => p = .bool (fitsG g)) := by
 have hgk := hg.1
 have hgc := hg.2.1
 have hgv := hg.2.2
 refine con_of_VS sl_spec_fitsPage (by simp) (VS_seq (VS_r0 rfl (q_box rfl rfl rfl trivial (q_mv rfl (rg_nil (VS_seq (VS_seq (VS_r0 rfl (q_fld_r rfl (q_load_r rfl rfl rfl rfl rfl rfl rfl (q_callp (c_spec_validKeys g.ks (by omega)) rfl trivial (q_not rfl (q_mv rfl ?_)))))))))))))
 refine q_b rfl (fun g7 => ?_) (fun g7 => ?_)
 ·try simp at g7
  refine q_t rfl (q_fld_r rfl (q_t rfl (q_load_r rfl rfl rfl rfl rfl rfl rfl (q_t rfl (q_len_m rfl (q_t rfl (q_gtr rfl rfl (q_pick_f rfl rfl (rg_nil ?_)))))))))
  refine VS_cond rfl (fun c0 => ?_) (fun c0 => ?_)
  ·try simp at c0
   refine VS_seq (VS_r0 rfl (q_mv rfl (rg_nil (VS_ret ?_))))
   refine Bd.now ⟨_, rfl, congrArg PV.bool (fits_bad ?_).symm⟩
   (refine .inr ?_; omega)
  ·try simp at c0
   have hgd : goodKeys g.ks = true := by simp_all
   have h4l : g.ks.length ≤ 4 := by first | omega | (simp at *; omega)
   refine VS_skip (VS_seq (VS_seq (VS_r0 rfl (q_fld_r rfl (q_load_r rfl rfl rfl rfl rfl rfl rfl (q_len_m rfl (q_eql rfl rfl (rg_nil ?_))))))))
   refine VS_cond rfl (fun c1 => ?_) (fun c1 => ?_)
   ·try simp at c1
    have hc0 : g.cs.length = 0 := by first | omega | (rw [c1]; rfl) | (simp_all; done)
    refine VS_seq (VS_r0 rfl (q_fld_r rfl (q_load_r rfl rfl rfl rfl rfl rfl rfl (q_len_m rfl (q_fld_r rfl (q_load_r rfl rfl rfl rfl rfl rfl rfl (q_len_m rfl (q_eql rfl rfl (q_mv rfl ?_)))))))))
    refine q_b rfl (fun g24 => ?_) (fun g24 => ?_)
    ·try simp at g24
     refine q_t rfl (q_fld_r rfl (q_t rfl (q_load_r rfl rfl rfl rfl rfl rfl rfl (q_t rfl (q_callp (c_spec_allIn g.vs (-1000) 1000 (by omega)) rfl trivial (q_pick_t rfl rfl (q_mv rfl (rg_nil (VS_ret ?_)))))))))
     refine Bd.now ⟨_, rfl, congrArg PV.bool ?_⟩
     rw [fits_leaf hc0 hgd h4l]
     (simp at *; omega)
    ·try simp at g24
     refine q_f rfl (q_f rfl (q_f rfl (q_pick_f rfl rfl (q_mv rfl (rg_nil (VS_ret ?_))))))
     refine Bd.now ⟨_, rfl, congrArg PV.bool ?_⟩
     rw [fits_leaf hc0 hgd h4l]
     (simp at *; omega)
   ·try simp at c1
    have hc0 : g.cs.length ≠ 0 := by first | omega | exact c1 | (intro e; simp_all; done)
    refine VS_skip (VS_seq (VS_r0 rfl (q_fld_r rfl (q_load_r rfl rfl rfl rfl rfl rfl rfl (q_len_m rfl (q_eql rfl rfl (q_mv rfl ?_)))))))
    refine q_b rfl (fun g33 => ?_) (fun g33 => ?_)
    ·try simp at g33
     refine q_t rfl (q_load_ra rfl rfl rfl rfl rfl (by (simp; done)) rfl (q_t rfl (q_callp (c_spec_insideOf g) rfl trivial (q_t rfl (q_callp (c_spec_validInner g.ks g.cs (by omega) (by omega)) rfl trivial (q_pick_t rfl rfl (q_mv rfl (rg_nil (VS_ret ?_)))))))))
     refine Bd.now ⟨_, rfl, congrArg PV.bool ?_⟩
     rw [fits_inner hc0 hgd h4l]
     (simp_all; done)
    ·try simp at g33
     refine q_f rfl (q_f rfl (q_f rfl (q_pick_f rfl rfl (q_mv rfl (rg_nil (VS_ret ?_))))))
     refine Bd.now ⟨_, rfl, congrArg PV.bool ?_⟩
     rw [fits_inner hc0 hgd h4l]
     (simp_all; done)
 ·try simp at g7
  refine q_f rfl (q_f rfl (q_f rfl (q_f rfl (q_pick_t rfl rfl (rg_nil ?_)))))
  refine VS_cond rfl (fun _ => ?_) (fun e => by cases e)
  refine VS_seq (VS_r0 rfl (q_mv rfl (rg_nil (VS_ret ?_))))
  refine Bd.now ⟨_, rfl, congrArg PV.bool (fits_bad ?_).symm⟩
  (refine .inl ?_; simp_all; done)
theorem sl_spec_anyPage : slimF prog 32 = some (23, (.seq (.reg 0 (.o 2 (.alloc 25 3 (.agg [.nils, .nils, .nils])) .nil)) (.seq (.reg 0 (.o 4 (.mv (.t 0)) (.o 5 (.call 46 [.t 4]) (.o 3 (.alloc 39 2 (.agg [.pv (.int .i64 0), .nils])) (.op ⟨none, none, .store 2 (.t 3) (.t 5)⟩ .nil))))) (.seq (.seq (.reg 0 (.o 6 (.fld 1 1 false (.t 3)) (.o 7 (.load 1 false (.t 6)) (.o 8 (.len (.t 7)) (.o 9 (.bin .eql (.t 8) (.c (.pv (.int .i64 0)))) .nil))))) (.cond (.t 9) (.seq (.reg 0 (.o 10 (.lit 3 1 0 [.pv (.int .i64 0)] []) (.o 11 (.lit 3 1 0 [.pv (.int .i64 0)] []) (.o 12 (.lit 3 1 0 [.pv (.int .i64 0)] []) (.o 13 (.build [.nils, .nils, .nils] [(0, (1, .t 10)), (1, (1, .t 11)), (2, (1, .t 12))]) (.op ⟨none, none, .store 3 (.t 2) (.t 13)⟩ .nil)))))) .ret) .skip)) (.seq (.reg 2 (.o 14 (.fld 1 1 false (.t 3)) (.o 15 (.load 1 false (.t 14)) (.o 16 (.mv (.t 0)) (.o 17 (.fld 1 1 false (.t 3)) (.o 18 (.load 1 false (.t 17)) (.o 19 (.len (.t 18)) (.o 20 (.call 48 [.t 16, .t 19]) (.o 21 (.idx 3 (.t 15) (.t 20)) (.o 22 (.load 3 true (.t 21)) (.last ⟨none, none, .store 3 (.t 2) (.t 22)⟩))))))))))) .ret))), [.c 2 3])) := by kernel_rfl
theorem c_spec_anyPage (bs : List Int) (hb : isU8 bs) (hbl : bs.length ≤ 2000) (p : Int) (hp : 0 ≤ p) (hp2 : p ≤ 40000000000) : RdS prog 32 84 bs p [] (fun x q => ∃ g : Pg, x = pgP g ∧ anyG g ∧ (p ≤ q ∧ q ≤ p + 221)) := by
 refine callS_of_VS sl_spec_anyPage (by simp) (VS_seq (VS_r0 rfl (q_alloc trivial (rg_nil (VS_seq (VS_r0 rfl (q_mv rfl ?_)))))))
 refine q_rd rfl (c_spec_anyTree bs hb hbl _ (by omega) (by omega)) rfl rfl (fun _ => trivial) ?_
 rintro _ q5 ⟨t, rfl, ha, hq1, hq2⟩
 refine q_alloc trivial (q_store rfl rfl rfl rfl rfl rfl ⟨rfl, rfl, by simp, rfl, by simp [isOne]⟩ rfl trivial (rg_nil (VS_seq (VS_seq (VS_r0 rfl (q_fld_r rfl (q_load_r rfl rfl rfl rfl rfl rfl rfl (q_len_m rfl (q_eql rfl rfl (rg_nil ?_))))))))))
 refine VS_cond rfl (fun c0 => ?_) (fun c0 => ?_)
 ·try simp at c0
  refine VS_seq (VS_r0 rfl (q_lit0 (q_lit0 (q_lit0 (q_build rfl (q_store rfl rfl rfl rfl rfl rfl ⟨rfl, rfl, by simp, rfl, by simp [isOne]⟩ rfl trivial (rg_nil ?_)))))))
  refine VS_bd (Bd.pad ?_)
  refine VS_bd (Bd.frzF 3 1 0 0 3 1 (xs := []) (ps := []) (by decide) rfl rfl rfl rfl rfl ?_)
  refine VS_bd (Bd.frzF 3 1 0 1 3 1 (xs := []) (ps := []) (by decide) rfl rfl rfl rfl rfl ?_)
  refine VS_bd (Bd.frzF 3 1 0 2 3 1 (xs := []) (ps := []) (by decide) rfl rfl rfl rfl rfl ?_)
  refine VS_ret (Bd.aggP 1 0 [.sl [], .sl [], .sl []] rfl rfl ?_)
  refine Bd.renL [0, 1] (ocp rfl) (by simp) [(2, .ptr 1 0 0)] ⟨rfl, trivial⟩ rfl ?_
  exact ⟨_, rfl, _, _, _, rfl, ⟨⟨[], [], []⟩, rfl, ⟨by simp, by simp, by simp⟩, by omega⟩, rfl⟩
 ·try simp at c0
  have hm := ha.many
  have hpos : 0 < t.ps.length := by first | omega | exact List.length_pos_iff.2 c0
  refine VS_skip (VS_seq (VS_r2 [none, none, some ⟨39, 2, [.agg [.pv (i64 t.r), .pv (pgsP t.ps)]]⟩] hmix (SubL.sub (by repeat constructor)) (q_fld_r rfl (q_load_r rfl rfl rfl rfl rfl rfl rfl (q_mv rfl (q_fld_r rfl (q_load_r rfl rfl rfl rfl rfl rfl rfl (q_len_m rfl ?_))))))))
  refine q_rd rfl (c_spec_reader_pick bs hb hbl _ (by omega) (t.ps.length : Int) (by omega) (by omega)) rfl rfl (fun _ => (SubL.sub (by repeat constructor))) ?_
  rintro _ q20 ⟨v, rfl, q_v, rfl⟩
  refine q_idx_m (f := pgP) (xs := t.ps) (n := v) rfl rfl (by omega) (by omega) (fun _ => rfl) (q_load_c rfl rfl rfl (q_last (q_store rfl rfl rfl rfl rfl rfl ⟨rfl, rfl, by simp, rfl, by simp [isOne]⟩ rfl trivial (rg_nil (VS_ret (Bd.aggP 1 0 [ints (nth t.ps v.toNat).ks, ints (nth t.ps v.toNat).cs, ints (nth t.ps v.toNat).vs] rfl rfl ?_))))))
  refine Bd.renL [0, 1] (ocp rfl) (by simp) [(2, .ptr 1 0 0)] ⟨rfl, trivial⟩ rfl ?_
  exact ⟨_, rfl, _, _, _, rfl, ⟨nth t.ps v.toNat, rfl, ha.sm _ (by omega), by omega⟩, rfl⟩
theorem c_slices_Concat_int_n (xss : List (List Int)) (hn : xss.length ≤ 1000000) (hl : xss.flatten.length ≤ 100000000) (hz : ¬ xss.flatten.length = 0) : NewS prog 35 3 1 [.sl (xss.map fun xs => ints xs)] (dI xss.flatten) := by
 refine callS_of_VS sl_slices_Concat_int (by simp) (VS_seq (VS_r0 rfl (q_mv rfl (rg_nil (VS_seq (VS_r0 rfl (q_mv rfl (rg_nil (VS_seq (VS_seq (VS_r0 rfl (q_mv rfl (q_len_m rfl (q_mv rfl (rg_nil ?_)))))))))))))))
 refine VS_block ?_
 refine VS_bd (Bd.keepL [(0, .pv (.sl (xss.map fun xs => ints xs))), (3, .pv (i64 ((xss.take 0).flatten.length : Nat))), (9, .pv (.sl (xss.map fun xs => ints xs))), (10, .pv (i64 xss.length)), (11, .pv (i64 0))] ⟨rfl, rfl, rfl, rfl, rfl, trivial⟩ ?_)
 refine VS_loop (fun mz E S => ∃ i : Nat, mz = xss.length - i ∧ (i ≤ xss.length) ∧ E = env [(0, .pv (.sl (xss.map fun xs => ints xs))), (3, .pv (i64 ((xss.take i).flatten.length : Nat))), (9, .pv (.sl (xss.map fun xs => ints xs))), (10, .pv (i64 xss.length)), (11, .pv (i64 i))] ∧ S = []) ⟨_, 0, rfl, (by omega), rfl, rfl⟩ ?_
 rintro mz _ _ ⟨i, hmeas, g0, rfl, rfl⟩
 refine VS_seq (VS_r0 rfl (q_lss rfl rfl (rg_nil (VS_seq ?_))))
 refine VS_cond rfl (fun c0 => ?_) (fun c0 => ?_)
 ·try simp at c0
  have hf := flat_step (xss := xss) (i := i) (by omega)
  have hf1 : (xss.take (i + 1)).flatten.length = (xss.take i).flatten.length + (nth xss i).length := by rw [hf, List.length_append]
  have hf2 := flat_le xss (i + 1)
  refine VS_skip (VS_seq (VS_block (VS_seq (VS_r0 rfl (q_idx_c _ rfl rfl (by omega) (fun _ => rfl) (q_load_c rfl rfl rfl (q_mv rfl (rg_nil (VS_seq (VS_r0 rfl (q_mv rfl (q_mv rfl (q_len_m rfl (q_add_to (((xss.take (i + 1)).flatten.length : Nat) : Int) rfl rfl (by omega) (inR64 (by omega)) (q_mv rfl ?_)))))))))))))))
  refine rg_nil (VS_seq (VS_r0 rfl (q_mv rfl (q_lss_v false rfl rfl (decide_eq_false (by omega)) (rg_nil ?_)))))
  refine VS_cond rfl (fun e => by cases e) (fun _ => ?_)
  refine VS_skip (VS_r0 rfl (q_add rfl rfl (inR64 (by omega)) (q_mv rfl (rg_nil ?_))))
  refine Bd.keepL [(0, .pv (.sl (xss.map fun xs => ints xs))), (3, .pv (i64 ((xss.take (i + 1)).flatten.length : Nat))), (9, .pv (.sl (xss.map fun xs => ints xs))), (10, .pv (i64 xss.length)), (11, .pv (i64 (i + 1)))] ⟨rfl, rfl, rfl, rfl, rfl, trivial⟩ ⟨_, ?_, i + 1, rfl, ?_, rfl, rfl⟩
  ·omega
  ·omega
 ·try simp at c0
  refine VS_exit (VS_seq ?_)
  obtain rfl : i = xss.length := by omega
  rw [List.take_length]
  ·skip
   refine VS_r0 rfl (q_mv rfl ?_)
   refine q_grow rfl (c_slices_Grow_int xss.flatten.length (by omega)) rfl trivial trivial (fun h => absurd h hz) (fun _ => ?_)
   refine q_mv rfl (rg_nil (VS_seq (VS_seq (VS_r0 rfl (q_mv rfl (q_len_m rfl (q_mv rfl (rg_nil (VS_block ?_)))))))))
   refine VS_bd (Bd.keepL [(6, .own 0 ((([] : List Int))).length), (25, .pv (.sl (xss.map fun xs => ints xs))), (26, .pv (i64 xss.length)), (27, .pv (i64 0))] ⟨rfl, rfl, rfl, rfl, trivial⟩ ?_)
   refine VS_loop (fun mz E S => ∃ i : Nat, ∃ acc : List Int, mz = xss.length - i ∧ (i ≤ xss.length) ∧ (acc = (xss.take i).flatten) ∧ (acc.length = (xss.take i).flatten.length) ∧ E = env [(6, .own 0 (acc).length), (25, .pv (.sl (xss.map fun xs => ints xs))), (26, .pv (i64 xss.length)), (27, .pv (i64 i))] ∧ S = [some ⟨3, 1, dI acc⟩]) ⟨_, 0, ([] : List Int), rfl, (by omega), rfl, rfl, rfl, rfl⟩ ?_
   rintro mz _ _ ⟨i, acc, hmeas, g0, g1, g2, rfl, rfl⟩
   refine VS_seq (VS_r0 rfl (q_lss rfl rfl (rg_nil (VS_seq ?_))))
   refine VS_cond rfl (fun c2 => ?_) (fun c2 => ?_)
   ·try simp at c2
    have hf := flat_step (xss := xss) (i := i) (by omega)
    have hf1 : (xss.take (i + 1)).flatten.length = (xss.take i).flatten.length + (nth xss i).length := by rw [hf, List.length_append]
    have hf2 := flat_le xss (i + 1)
    refine VS_skip (VS_seq (VS_block (VS_seq (VS_r0 rfl (q_idx_c _ rfl rfl (by omega) (fun _ => rfl) (q_load_c rfl rfl rfl (q_mv rfl (rg_nil (VS_r0 rfl (q_mv rfl (q_mv rfl ?_)))))))))))
    refine q_app_om (xs := acc) (ys := nth xss i) (g := fun k => .pv (i64 k)) rfl (elems_I _) (cell_I _) rfl ⟨by omega, by unfold maxLen; omega⟩ trivial trivial ?_ ?_
    ·intro hys
     refine q_mv rfl (rg_nil (VS_r0 rfl (q_add rfl rfl (inR64 (by omega)) (q_mv rfl (rg_nil ?_)))))
     refine Bd.renL [0] (zcp _) (by simp) [(6, .own 0 (acc).length), (25, .pv (.sl (xss.map fun xs => ints xs))), (26, .pv (i64 xss.length)), (27, .pv (i64 (i + 1)))] ⟨rfl, rfl, rfl, rfl, trivial⟩ (l1 (mpO_I _)) ⟨_, ?_, i + 1, acc, rfl, ?_, ?_, ?_, rfl, rfl⟩
     ·omega
     ·omega
     ·rw [hf, hys, List.append_nil]; exact g1
     ·rw [hf1, hys]; simpa using g2
    ·intro hys
     refine q_mv rfl (rg_nil (VS_r0 rfl (q_add rfl rfl (inR64 (by omega)) (q_mv rfl (rg_nil ?_)))))
     refine Bd.renL [1] (zcp _) (by simp) [(6, .own 0 ((acc ++ nth xss i)).length), (25, .pv (.sl (xss.map fun xs => ints xs))), (26, .pv (i64 xss.length)), (27, .pv (i64 (i + 1)))] ⟨rfl, rfl, rfl, rfl, trivial⟩ (l1 (mpO_I _)) ⟨_, ?_, i + 1, acc ++ nth xss i, rfl, ?_, ?_, ?_, rfl, rfl⟩
     ·omega
     ·omega
     ·rw [hf, g1]
     ·rw [hf1, List.length_append]; omega
   ·try simp at c2
    refine VS_exit (VS_seq (VS_r0 rfl (q_mv rfl (q_mv rfl (rg_nil (VS_ret ?_))))))
    have e : i = xss.length := by omega
    subst e
    rw [List.take_length] at g1
    subst g1
    have hne : dI xss.flatten ≠ [] := fun e => hz ((List.length_map ..).symm.trans (congrArg List.length e))
    exact Bd.now ⟨_, rfl, by rw [ownD_ne hne, List.length_map]; rfl, by rw [obD_ne hne]⟩
theorem sl_impl_checkOf : slimF prog 36 = some (19, (.seq (.reg 0 (.o 2 (.mv (.c (.pv (.int .i64 0)))) .nil)) (.seq (.reg 0 (.o 3 (.mv (.c (.pv (.int .i64 23)))) .nil)) (.seq (.seq (.reg 0 (.o 6 (.mv (.t 0)) (.o 7 (.len (.t 6)) (.o 8 (.mv (.c (.pv (.int .i64 0)))) .nil)))) (.block 0 (.loop (.seq (.reg 0 (.o 9 (.bin .lss (.t 8) (.t 7)) .nil)) (.seq (.cond (.t 9) .skip (.exit 0)) (.seq (.block 1 (.seq (.reg 0 (.o 10 (.idx 1 (.t 6) (.t 8)) (.o 11 (.load 1 false (.t 10)) (.o 5 (.mv (.t 11)) .nil)))) (.reg 0 (.o 12 (.mv (.t 3)) (.o 13 (.bin .mul (.c (.pv (.int .i64 41))) (.t 12)) (.o 14 (.mv (.t 5)) (.o 15 (.bin .add (.t 13) (.t 14)) (.o 16 (.bin .rem (.t 15) (.c (.pv (.int .i64 2003)))) (.o 3 (.mv (.t 16)) .nil))))))))) (.reg 0 (.o 17 (.bin .add (.t 8) (.c (.pv (.int .i64 1)))) (.o 8 (.mv (.t 17)) .nil))))))))) (.seq (.reg 0 (.o 18 (.mv (.t 3)) (.o 2 (.mv (.t 18)) .nil))) .ret))), [.t 2])) := by kernel_rfl
theorem c_impl_checkOf (xs : List Int) (hl : xs.length ≤ 1000000000) (hb : smI xs) : PCon prog 36 [ints xs] (fun p => p = i64 (ckL xs)) := by
 refine con_of_VS sl_impl_checkOf (by simp) (VS_seq (VS_r0 rfl (q_mv rfl (rg_nil (VS_seq (VS_r0 rfl (q_mv rfl (rg_nil (VS_seq (VS_seq (VS_r0 rfl (q_mv rfl (q_len_m rfl (q_mv rfl (rg_nil ?_)))))))))))))))
 refine VS_block ?_
 refine VS_bd (Bd.keepL [(3, .pv (i64 23)), (6, .pv (ints xs)), (7, .pv (i64 xs.length)), (8, .pv (i64 0))] ⟨rfl, rfl, rfl, rfl, trivial⟩ ?_)
 refine VS_loop (fun mz E S => ∃ i : Nat, ∃ s : Int, mz = xs.length - i ∧ (i ≤ xs.length) ∧ (s = ckL (xs.take i)) ∧ (0 ≤ s ∧ s < 2003) ∧ E = env [(3, .pv (i64 s)), (6, .pv (ints xs)), (7, .pv (i64 xs.length)), (8, .pv (i64 i))] ∧ S = []) ⟨_, 0, 23, rfl, (by omega), rfl, (by omega), rfl, rfl⟩ ?_
 rintro mz _ _ ⟨i, s, hmeas, g0, g1, g2, rfl, rfl⟩
 refine VS_seq (VS_r0 rfl (q_lss rfl rfl (rg_nil (VS_seq ?_))))
 refine VS_cond rfl (fun c0 => ?_) (fun c0 => ?_)
 ·try simp at c0
  have hbi := hb.at (i := i) (by omega)
  refine VS_skip (VS_seq (VS_block (VS_seq (VS_r0 rfl (q_idx_m (f := fun k => i64 k) (xs := xs) (n := (i : Int)) rfl rfl (by omega) (by omega) (fun _ => rfl) ?_)))))
  rw [Int.toNat_natCast]
  refine q_load_c rfl rfl rfl (q_mv rfl (rg_nil (VS_r0 rfl (q_mv rfl (q_mul rfl rfl (inR64 (by omega)) (q_mv rfl (q_add rfl rfl (inR64 (by omega)) (q_rem rfl rfl ⟨by omega, by omega⟩ (q_mv rfl (rg_nil (VS_r0 rfl (q_add rfl rfl (inR64 (by omega)) (q_mv rfl (rg_nil ?_))))))))))))))
  refine Bd.keepL [(3, .pv (i64 ((41 * s + nth xs i) % 2003))), (6, .pv (ints xs)), (7, .pv (i64 xs.length)), (8, .pv (i64 (i + 1)))] ⟨rfl, rfl, rfl, rfl, trivial⟩ ⟨_, ?_, i + 1, (41 * s + nth xs i) % 2003, rfl, ?_, ?_, ?_, rfl, rfl⟩
  ·omega
  ·omega
  ·rw [take_succ_nth (by omega), ckL_snoc, g1]
  ·omega
 ·try simp at c0
  refine VS_exit (VS_seq (VS_r0 rfl (q_mv rfl (q_mv rfl (rg_nil (VS_ret ?_))))))
  have e : i = xs.length := by omega
  rw [e, List.take_length] at g1
  exact Bd.now ⟨_, rfl, by rw [g1]⟩
theorem sl_spec_checkOf : slimF prog 74 = some (20, (.seq (.reg 0 (.o 2 (.mv (.c (.pv (.int .i64 0)))) .nil)) (.seq (.reg 0 (.o 3 (.mv (.c (.pv (.int .i64 23)))) .nil)) (.seq (.seq (.reg 0 (.o 4 (.mv (.c (.pv (.int .i64 0)))) .nil)) (.block 0 (.loop (.seq (.seq (.reg 0 (.o 5 (.mv (.t 4)) (.o 6 (.mv (.t 0)) (.o 7 (.len (.t 6)) (.o 8 (.bin .lss (.t 5) (.t 7)) .nil))))) (.cond (.t 8) .skip (.exit 0))) (.seq (.block 1 (.reg 0 (.o 11 (.mv (.t 3)) (.o 12 (.bin .mul (.t 11) (.c (.pv (.int .i64 41)))) (.o 13 (.mv (.t 0)) (.o 14 (.mv (.t 4)) (.o 15 (.idx 1 (.t 13) (.t 14)) (.o 16 (.load 1 false (.t 15)) (.o 17 (.bin .add (.t 12) (.t 16)) (.o 18 (.bin .rem (.t 17) (.c (.pv (.int .i64 2003)))) (.o 3 (.mv (.t 18)) .nil))))))))))) (.reg 0 (.o 9 (.mv (.t 4)) (.o 10 (.bin .add (.t 9) (.c (.pv (.int .i64 1)))) (.o 4 (.mv (.t 10)) .nil))))))))) (.seq (.reg 0 (.o 19 (.mv (.t 3)) (.o 2 (.mv (.t 19)) .nil))) .ret))), [.t 2])) := by kernel_rfl
theorem c_spec_checkOf (xs : List Int) (hl : xs.length ≤ 1000000000) (hb : smI xs) : PCon prog 74 [ints xs] (fun p => p = i64 (ckL xs)) := by
 refine con_of_VS sl_spec_checkOf (by simp) (VS_seq (VS_r0 rfl (q_mv rfl (rg_nil (VS_seq (VS_r0 rfl (q_mv rfl (rg_nil (VS_seq (VS_seq (VS_r0 rfl (q_mv rfl (rg_nil (VS_block ?_))))))))))))))
 refine VS_bd (Bd.keepL [(0, .pv (ints xs)), (3, .pv (i64 23)), (4, .pv (i64 0))] ⟨rfl, rfl, rfl, trivial⟩ ?_)
 refine VS_loop (fun mz E S => ∃ i : Nat, ∃ s : Int, mz = xs.length - i ∧ (i ≤ xs.length) ∧ (s = ckL (xs.take i)) ∧ (0 ≤ s ∧ s < 2003) ∧ E = env [(0, .pv (ints xs)), (3, .pv (i64 s)), (4, .pv (i64 i))] ∧ S = []) ⟨_, 0, 23, rfl, (by omega), rfl, (by omega), rfl, rfl⟩ ?_
 rintro mz _ _ ⟨i, s, hmeas, g0, g1, g2, rfl, rfl⟩
 refine VS_seq (VS_seq (VS_r0 rfl (q_mv rfl (q_mv rfl (q_len_m rfl (q_lss rfl rfl (rg_nil ?_)))))))
 refine VS_cond rfl (fun c0 => ?_) (fun c0 => ?_)
 ·try simp at c0
  have hbi := hb.at (i := i) (by omega)
  refine VS_skip (VS_seq (VS_block (VS_r0 rfl (q_mv rfl (q_mul_to (41 * s) rfl rfl (by omega) (inR64 (by omega)) (q_mv rfl (q_mv rfl (q_idx_m (f := fun k => i64 k) (xs := xs) (n := (i : Int)) rfl rfl (by omega) (by omega) (fun _ => rfl) ?_))))))))
  rw [Int.toNat_natCast]
  refine q_load_c rfl rfl rfl (q_add rfl rfl (inR64 (by omega)) (q_rem rfl rfl ⟨by omega, by omega⟩ (q_mv rfl (rg_nil (VS_r0 rfl (q_mv rfl (q_add rfl rfl (inR64 (by omega)) (q_mv rfl (rg_nil ?_)))))))))
  refine Bd.keepL [(0, .pv (ints xs)), (3, .pv (i64 ((41 * s + nth xs i) % 2003))), (4, .pv (i64 (i + 1)))] ⟨rfl, rfl, rfl, trivial⟩ ⟨_, ?_, i + 1, (41 * s + nth xs i) % 2003, rfl, ?_, ?_, ?_, rfl, rfl⟩
  ·omega
  ·omega
  ·rw [take_succ_nth (by omega), ckL_snoc, g1]
  ·omega
 ·try simp at c0
  refine VS_exit (VS_seq (VS_r0 rfl (q_mv rfl (q_mv rfl (rg_nil (VS_ret ?_))))))
  have e : i = xs.length := by omega
  rw [e, List.take_length] at g1
  exact Bd.now ⟨_, rfl, by rw [g1]⟩
theorem pk_cat (g : Pg) (h4 : g.ks.length ≤ 4) (h5 : g.cs.length ≤ 5) (v : Int) (hv : v = pkN g) : NewS prog 35 3 1 [.sl [ints [v], ints g.ks, ints g.cs]] (dI (pkB g)) := by
 have h := c_slices_Concat_int_n [[v], g.ks, g.cs] (by simp) (by simp; omega) (by simp)
 have e : [[v], g.ks, g.cs].flatten = pkB g := by subst hv; simp [pkB]
 rw [e] at h
 exact h
theorem sl_impl_PackPage : slimF prog 12 = some (46, (.seq (.reg 0 (.o 1 (.box 25 3 (.t 0)) (.o 2 (.mv (.c .nils)) .nil))) (.seq (.seq (.reg 0 (.o 7 (.load 3 true (.t 1)) (.o 8 (.call 34 [.t 7]) (.o 9 (.not (.t 8)) .nil)))) (.cond (.t 9) (.seq (.reg 0 (.o 2 (.mv (.c .nils)) .nil)) .ret) .skip)) (.seq (.reg 0 (.o 10 (.fld 0 1 false (.t 1)) (.o 11 (.load 1 false (.t 10)) (.o 12 (.len (.t 11)) (.o 13 (.bin .mul (.c (.pv (.int .i64 2))) (.t 12)) (.o 3 (.mv (.t 13)) .nil)))))) (.seq (.seq (.reg 0 (.o 14 (.fld 1 1 false (.t 1)) (.o 15 (.load 1 false (.t 14)) (.o 16 (.len (.t 15)) (.o 17 (.bin .gtr (.t 16) (.c (.pv (.int .i64 0)))) .nil))))) (.cond (.t 17) (.reg 0 (.o 18 (.mv (.t 3)) (.o 19 (.bin .add (.t 18) (.c (.pv (.int .i64 1)))) (.o 3 (.mv (.t 19)) .nil)))) .skip)) (.seq (.reg 0 (.o 20 (.mv (.t 3)) (.o 21 (.lit 3 1 1 [.pv (.int .i64 0)] [(0, .t 20)]) (.o 22 (.fld 0 1 false (.t 1)) (.o 23 (.load 1 false (.t 22)) (.o 24 (.fld 1 1 false (.t 1)) (.o 25 (.load 1 false (.t 24)) (.o 26 (.lit 23 1 3 [.nils] [(0, .t 21), (1, .t 23), (2, .t 25)]) (.o 27 (.call 35 [.t 26]) (.o 4 (.mv (.t 27)) .nil)))))))))) (.seq (.seq (.reg 0 (.o 28 (.fld 2 1 false (.t 1)) (.o 29 (.load 1 false (.t 28)) (.o 30 (.len (.t 29)) (.o 31 (.mv (.c (.pv (.int .i64 0)))) .nil))))) (.block 0 (.loop (.seq (.reg 0 (.o 32 (.bin .lss (.t 31) (.t 30)) .nil)) (.seq (.cond (.t 32) .skip (.exit 0)) (.seq (.block 1 (.seq (.reg 0 (.o 33 (.idx 1 (.t 29) (.t 31)) (.o 34 (.load 1 false (.t 33)) (.o 6 (.mv (.t 34)) .nil)))) (.reg 0 (.o 35 (.mv (.t 4)) (.o 36 (.mv (.t 6)) (.o 37 (.bin .add (.t 36) (.c (.pv (.int .i64 1000)))) (.o 38 (.lit 3 1 1 [.pv (.int .i64 0)] [(0, .t 37)]) (.o 39 (.app 3 1 8 (.t 35) (.t 38)) (.o 4 (.mv (.t 39)) .nil))))))))) (.reg 0 (.o 40 (.bin .add (.t 31) (.c (.pv (.int .i64 1)))) (.o 31 (.mv (.t 40)) .nil))))))))) (.seq (.reg 0 (.o 41 (.mv (.t 4)) (.o 42 (.mv (.t 4)) (.o 43 (.call 36 [.t 42]) (.o 44 (.lit 3 1 1 [.pv (.int .i64 0)] [(0, .t 43)]) (.o 45 (.app 3 1 8 (.t 41) (.t 44)) (.o 2 (.mv (.t 45)) .nil))))))) .ret)))))), [.t 2])) := by kernel_rfl
theorem c_impl_PackPage (g : Pg) (hg : anyG g) : PCon prog 12 [pgP g] (fun p => p = ints (pkV g)) := by
 have hgk := hg.1
 have hgc := hg.2.1
 have hgv := hg.2.2
 refine con_of_VS sl_impl_PackPage (by simp) (VS_seq (VS_r0 rfl (q_box rfl rfl rfl trivial (q_mv rfl (rg_nil (VS_seq (VS_seq (VS_r0 rfl (q_load_ra rfl rfl rfl rfl rfl (by (simp; done)) rfl (q_callp (c_impl_FitsPage g hg) rfl trivial (q_not rfl (rg_nil ?_))))))))))))
 refine VS_cond rfl (fun c0 => ?_) (fun c0 => ?_)
 ·try simp at c0
  refine VS_seq (VS_r0 rfl (q_mv rfl (rg_nil (VS_ret ?_))))
  have hf : fitsG g = false := by simpa using c0
  exact Bd.now ⟨_, rfl, by rw [pkV, hf]; rfl⟩
 ·try simp at c0
  have hf : fitsG g = true := by simpa using c0
  have h4 := fits_four hf
  have h5 := (fits_kids hf).1
  have hvl := fits_vals hf
  have hsm := fits_sm hf
  refine VS_skip (VS_seq (VS_r0 rfl (q_fld_r rfl (q_load_r rfl rfl rfl rfl rfl rfl rfl (q_len_m rfl (q_mul_to (2 * (g.ks.length : Int)) rfl rfl rfl (inR64 (by omega)) (q_mv rfl (rg_nil (VS_seq (VS_seq (VS_r0 rfl (q_fld_r rfl (q_load_r rfl rfl rfl rfl rfl rfl rfl (q_len_m rfl (q_gtr rfl rfl ?_)))))))))))))))
  refine rg_nil ?_
  refine VS_cond rfl (fun c1 => ?_) (fun c1 => ?_)
  ·try simp at c1
   have hc1 : 0 < g.cs.length := by first | omega | (simp_all; done)
   have hN : 2 * (g.ks.length : Int) + 1 = pkN g := by unfold pkN; rw [if_pos hc1]
   refine VS_r0 rfl (q_mv rfl (q_add rfl rfl (inR64 (by omega)) (q_mv rfl (rg_nil (VS_seq (VS_r0 rfl (q_mv rfl (q_lit (xs := [i64 _]) rfl rfl rfl rfl (q_fld_r rfl (q_load_r rfl rfl rfl rfl rfl rfl rfl (q_fld_r rfl (q_load_r rfl rfl rfl rfl rfl rfl rfl (q_lit (xs := [ints [_], ints g.ks, ints g.cs]) rfl rfl rfl rfl (q_new rfl (pk_cat g h4 h5 _ hN) (flat_I _) (by rfl) trivial (q_mv rfl ?_)))))))))))))))
   refine rg_nil (VS_seq (VS_seq (VS_r0 rfl (q_fld_r rfl (q_load_r rfl rfl rfl rfl rfl rfl rfl (q_len_m rfl (q_mv rfl (rg_nil (VS_block ?_)))))))))
   refine VS_bd (Bd.keepL [(4, ownD 1 (dI (pkB g))), (29, .pv (ints g.vs)), (30, .pv (i64 g.vs.length)), (31, .pv (i64 0))] ⟨rfl, rfl, rfl, rfl, trivial⟩ ?_)
   refine VS_loop (fun mz E S => ∃ i : Nat, ∃ ys : List Int, mz = g.vs.length - i ∧ (i ≤ g.vs.length) ∧ (ys = (pkB g ++ (g.vs.take i).map (fun v => v + 1000))) ∧ (ys.length ≤ 20 + i) ∧ E = env [(4, ownD 1 (dI ys)), (29, .pv (ints g.vs)), (30, .pv (i64 g.vs.length)), (31, .pv (i64 i))] ∧ S = [some ⟨25, 3, [.pv (pgP g)]⟩, obD 3 1 (dI ys)]) ⟨_, 0, pkB g, rfl, (by omega), (by simp), (by simp [pkB]; omega), rfl, rfl⟩ ?_
   rintro mz _ _ ⟨i, ys, hmeas, g0, g1, g2, rfl, rfl⟩
   refine VS_seq (VS_r0 rfl (q_lss rfl rfl (rg_nil (VS_seq ?_))))
   refine VS_cond rfl (fun c2 => ?_) (fun c2 => ?_)
   ·try simp at c2
    have hvi := hvl.2 (nth g.vs i) (nth_mem (by omega))
    refine VS_skip (VS_seq (VS_block (VS_seq (VS_r0 rfl (q_idx_m (f := fun k => i64 k) (xs := g.vs) (n := (i : Int)) rfl rfl (by omega) (by omega) (fun _ => rfl) ?_)))))
    rw [Int.toNat_natCast]
    refine q_load_c rfl rfl rfl (q_mv rfl (rg_nil (VS_r0 rfl (q_mv rfl (q_mv rfl (q_add_to (nth g.vs i + 1000) rfl rfl rfl (inR64 (by omega)) (q_lit (xs := [i64 (nth g.vs i + 1000)]) rfl rfl rfl rfl (q_app_dm (xs := ys) (ys := [nth g.vs i + 1000]) (f := fun k => .pv (i64 k)) rfl rfl rfl rfl ⟨by simp; omega, by simp; omega⟩ trivial (q_mv rfl (rg_nil (VS_r0 rfl (q_add rfl rfl (inR64 (by omega)) (q_mv rfl (rg_nil ?_))))))))))))))
    refine Bd.renL [0, 2] (zcp _) (by simp) [(4, ownD 1 (dI (ys ++ [nth g.vs i + 1000]))), (29, .pv (ints g.vs)), (30, .pv (i64 g.vs.length)), (31, .pv (i64 (i + 1)))] ⟨inv_own rfl, rfl, rfl, rfl, trivial⟩ (l2 rfl (obD_mI _)) ⟨_, ?_, i + 1, ys ++ [nth g.vs i + 1000], rfl, ?_, ?_, ?_, rfl, rfl⟩
    ·omega
    ·omega
    ·rw [pkV_snoc g (by omega), g1]
    ·simp; omega
   ·try simp at c2
    have e : i = g.vs.length := by omega
    have hM : ys = pkM g := by rw [g1, e, List.take_length]; rfl
    have hml := pkM_len g
    refine VS_exit (VS_seq (VS_r0 rfl (q_mv rfl (q_mv rfl ?_))))
    refine q_calll rfl ((c_impl_checkOf ys (by omega) (by rw [hM]; exact hsm)).to (y := i64 (ckL (pkM g))) (by rw [hM])) (by (repeat' (first | exact toRs_nil | refine toRs_cons ?_ ?_ | rfl | exact toR_I rfl | exact toR_P rfl | exact toR_G rfl | exact toR_O rfl | refine toR_agg2 ?_ ?_ | refine toR_agg3 ?_ ?_ ?_))) rfl trivial ?_
    refine q_lit (xs := [i64 (ckL (pkM g))]) rfl rfl rfl rfl (q_app_dm (xs := ys) (ys := [ckL (pkM g)]) (f := fun k => .pv (i64 k)) rfl rfl rfl rfl ⟨by simp; omega, by simp; omega⟩ trivial (q_mv rfl (rg_nil (VS_ret (Bd.pureB 2 2 3 1 (xs := dI (ys ++ [ckL (pkM g)])) rfl rfl (toPVs_dI _) ?_)))))
    exact Bd.now ⟨_, rfl, by rw [pkV, if_pos hf, hM]; rfl⟩
  ·try simp at c1
   have hc0 : g.cs.length = 0 := by first | omega | (rw [c1]; rfl) | (simp_all; done)
   have hN : 2 * (g.ks.length : Int) = pkN g := by unfold pkN; rw [if_neg (by omega)]; omega
   refine VS_skip (VS_seq (VS_r0 rfl (q_mv rfl (q_lit (xs := [i64 _]) rfl rfl rfl rfl (q_fld_r rfl (q_load_r rfl rfl rfl rfl rfl rfl rfl (q_fld_r rfl (q_load_r rfl rfl rfl rfl rfl rfl rfl (q_lit (xs := [ints [_], ints g.ks, ints g.cs]) rfl rfl rfl rfl (q_new rfl (pk_cat g h4 h5 _ hN) (flat_I _) (by rfl) trivial (q_mv rfl (rg_nil (VS_seq (VS_seq (VS_r0 rfl ?_)))))))))))))))
   refine q_fld_r rfl (q_load_r rfl rfl rfl rfl rfl rfl rfl (q_len_m rfl (q_mv rfl (rg_nil (VS_block ?_)))))
   refine VS_bd (Bd.keepL [(4, ownD 1 (dI (pkB g))), (29, .pv (ints g.vs)), (30, .pv (i64 g.vs.length)), (31, .pv (i64 0))] ⟨rfl, rfl, rfl, rfl, trivial⟩ ?_)
   refine VS_loop (fun mz E S => ∃ i : Nat, ∃ ys : List Int, mz = g.vs.length - i ∧ (i ≤ g.vs.length) ∧ (ys = (pkB g ++ (g.vs.take i).map (fun v => v + 1000))) ∧ (ys.length ≤ 20 + i) ∧ E = env [(4, ownD 1 (dI ys)), (29, .pv (ints g.vs)), (30, .pv (i64 g.vs.length)), (31, .pv (i64 i))] ∧ S = [some ⟨25, 3, [.pv (pgP g)]⟩, obD 3 1 (dI ys)]) ⟨_, 0, pkB g, rfl, (by omega), (by simp), (by simp [pkB]; omega), rfl, rfl⟩ ?_
   rintro mz _ _ ⟨i, ys, hmeas, g0, g1, g2, rfl, rfl⟩
   refine VS_seq (VS_r0 rfl (q_lss rfl rfl (rg_nil (VS_seq ?_))))
   refine VS_cond rfl (fun c2 => ?_) (fun c2 => ?_)
   ·try simp at c2
    have hvi := hvl.2 (nth g.vs i) (nth_mem (by omega))
    refine VS_skip (VS_seq (VS_block (VS_seq (VS_r0 rfl (q_idx_m (f := fun k => i64 k) (xs := g.vs) (n := (i : Int)) rfl rfl (by omega) (by omega) (fun _ => rfl) ?_)))))
    rw [Int.toNat_natCast]
    refine q_load_c rfl rfl rfl (q_mv rfl (rg_nil (VS_r0 rfl (q_mv rfl (q_mv rfl (q_add_to (nth g.vs i + 1000) rfl rfl rfl (inR64 (by omega)) (q_lit (xs := [i64 (nth g.vs i + 1000)]) rfl rfl rfl rfl (q_app_dm (xs := ys) (ys := [nth g.vs i + 1000]) (f := fun k => .pv (i64 k)) rfl rfl rfl rfl ⟨by simp; omega, by simp; omega⟩ trivial (q_mv rfl (rg_nil (VS_r0 rfl (q_add rfl rfl (inR64 (by omega)) (q_mv rfl (rg_nil ?_))))))))))))))
    refine Bd.renL [0, 2] (zcp _) (by simp) [(4, ownD 1 (dI (ys ++ [nth g.vs i + 1000]))), (29, .pv (ints g.vs)), (30, .pv (i64 g.vs.length)), (31, .pv (i64 (i + 1)))] ⟨inv_own rfl, rfl, rfl, rfl, trivial⟩ (l2 rfl (obD_mI _)) ⟨_, ?_, i + 1, ys ++ [nth g.vs i + 1000], rfl, ?_, ?_, ?_, rfl, rfl⟩
    ·omega
    ·omega
    ·rw [pkV_snoc g (by omega), g1]
    ·simp; omega
   ·try simp at c2
    have e : i = g.vs.length := by omega
    have hM : ys = pkM g := by rw [g1, e, List.take_length]; rfl
    have hml := pkM_len g
    refine VS_exit (VS_seq (VS_r0 rfl (q_mv rfl (q_mv rfl ?_))))
    refine q_calll rfl ((c_impl_checkOf ys (by omega) (by rw [hM]; exact hsm)).to (y := i64 (ckL (pkM g))) (by rw [hM])) (by (repeat' (first | exact toRs_nil | refine toRs_cons ?_ ?_ | rfl | exact toR_I rfl | exact toR_P rfl | exact toR_G rfl | exact toR_O rfl | refine toR_agg2 ?_ ?_ | refine toR_agg3 ?_ ?_ ?_))) rfl trivial ?_
    refine q_lit (xs := [i64 (ckL (pkM g))]) rfl rfl rfl rfl (q_app_dm (xs := ys) (ys := [ckL (pkM g)]) (f := fun k => .pv (i64 k)) rfl rfl rfl rfl ⟨by simp; omega, by simp; omega⟩ trivial (q_mv rfl (rg_nil (VS_ret (Bd.pureB 2 2 3 1 (xs := dI (ys ++ [ckL (pkM g)])) rfl rfl (toPVs_dI _) ?_)))))
    exact Bd.now ⟨_, rfl, by rw [pkV, if_pos hf, hM]; rfl⟩
theorem sl_spec_packPage : slimF prog 38 [(1, 6)] = some (44, (.seq (.reg 0 (.o 1 (.box 25 3 (.t 0)) (.o 2 (.mv (.c .nils)) .nil))) (.seq (.reg 6 (.o 5 (.fld 0 1 false (.t 1)) (.o 6 (.load 1 false (.t 5)) (.o 7 (.len (.t 6)) (.o 8 (.bin .mul (.c (.pv (.int .i64 2))) (.t 7)) (.o 9 (.fld 1 1 false (.t 1)) (.o 10 (.load 1 false (.t 9)) (.o 11 (.len (.t 10)) (.o 12 (.bin .gtr (.t 11) (.c (.pv (.int .i64 0)))) (.o 16 (.fld 0 1 false (.t 1)) (.o 17 (.load 1 false (.t 16)) (.o 13 (.call 73 [.t 12]) (.o 14 (.bin .add (.t 8) (.t 13)) (.o 15 (.lit 3 1 1 [.pv (.int .i64 0)] [(0, .t 14)]) (.o 18 (.app 3 1 8 (.t 15) (.t 17)) (.o 3 (.mv (.t 18)) .nil)))))))))))))))) (.seq (.reg 0 (.o 19 (.mv (.t 3)) (.o 20 (.fld 1 1 false (.t 1)) (.o 21 (.load 1 false (.t 20)) (.o 22 (.app 3 1 8 (.t 19) (.t 21)) (.o 3 (.mv (.t 22)) .nil)))))) (.seq (.seq (.reg 0 (.o 4 (.mv (.c (.pv (.int .i64 0)))) .nil)) (.block 0 (.loop (.seq (.seq (.reg 0 (.o 23 (.mv (.t 4)) (.o 24 (.fld 2 1 false (.t 1)) (.o 25 (.load 1 false (.t 24)) (.o 26 (.len (.t 25)) (.o 27 (.bin .lss (.t 23) (.t 26)) .nil)))))) (.cond (.t 27) .skip (.exit 0))) (.seq (.block 1 (.reg 0 (.o 30 (.mv (.t 3)) (.o 31 (.fld 2 1 false (.t 1)) (.o 32 (.load 1 false (.t 31)) (.o 33 (.mv (.t 4)) (.o 34 (.idx 1 (.t 32) (.t 33)) (.o 35 (.load 1 false (.t 34)) (.o 36 (.bin .add (.t 35) (.c (.pv (.int .i64 1000)))) (.o 37 (.lit 3 1 1 [.pv (.int .i64 0)] [(0, .t 36)]) (.o 38 (.app 3 1 8 (.t 30) (.t 37)) (.o 3 (.mv (.t 38)) .nil)))))))))))) (.reg 0 (.o 28 (.mv (.t 4)) (.o 29 (.bin .add (.t 28) (.c (.pv (.int .i64 1)))) (.o 4 (.mv (.t 29)) .nil))))))))) (.seq (.reg 0 (.o 39 (.mv (.t 3)) (.o 40 (.mv (.t 3)) (.o 41 (.call 74 [.t 40]) (.o 42 (.lit 3 1 1 [.pv (.int .i64 0)] [(0, .t 41)]) (.o 43 (.app 3 1 8 (.t 39) (.t 42)) (.o 2 (.mv (.t 43)) .nil))))))) .ret)))), [.t 2])) := by kernel_rfl
theorem c_spec_packPage (g : Pg) (hg : anyG g) (hf : fitsG g = true) : PCon prog 38 [pgP g] (fun p => p = ints (pkL g)) := by
 have hgk := hg.1
 have hgc := hg.2.1
 have hgv := hg.2.2
 have h4 := fits_four hf
 have h5 := (fits_kids hf).1
 have hvl := fits_vals hf
 have hsm := fits_sm hf
 refine con_of_VS sl_spec_packPage (by simp) (VS_seq (VS_r0 rfl (q_box rfl rfl rfl trivial (q_mv rfl (rg_nil (VS_seq (VS_r6 [some ⟨25, 3, [.pv (pgP g)]⟩] hmix (SubL.sub (by repeat constructor)) (q_fld_r rfl (q_load_r rfl rfl rfl rfl rfl rfl rfl (q_len_m rfl (q_mul_to (2 * (g.ks.length : Int)) rfl rfl rfl (inR64 (by omega)) (q_fld_r rfl (q_load_r rfl rfl rfl rfl rfl rfl rfl (q_len_m rfl (q_gtr rfl rfl ?_)))))))))))))))
 refine q_fld_r rfl (q_load_r rfl rfl rfl rfl rfl rfl rfl (q_callp (c_spec_toInt (decide (0 < (g.cs.length : Int)))) rfl (Sub.refl _) (q_add_to (pkN g) rfl rfl (by unfold pkN; simp only [decide_eq_true_eq]; split <;> split <;> omega) (inR64 (by unfold pkN; split <;> omega)) (q_litx (xs := [i64 (pkN g)]) rfl rfl rfl rfl (Sub.app _ _) (q_app_dm (xs := [pkN g]) (ys := g.ks) (f := fun k => .pv (i64 k)) rfl (elems_I _) (cell_I _) rfl ⟨by simp; omega, by simp; omega⟩ (Sub.app _ _) (q_mv rfl (rg_nil (VS_seq (VS_r0 rfl (q_mv rfl (q_fld_r rfl (q_load_r rfl rfl rfl rfl rfl rfl rfl (q_app_dm (xs := [pkN g] ++ g.ks) (ys := g.cs) (f := fun k => .pv (i64 k)) rfl (elems_I _) (cell_I _) rfl ⟨by simp; omega, by simp; omega⟩ trivial (q_mv rfl (rg_nil ?_)))))))))))))))
 refine VS_seq (VS_seq (VS_r0 rfl (q_mv rfl (rg_nil (VS_block ?_)))))
 refine VS_bd (Bd.renL (S' := [some ⟨25, 3, [.pv (pgP g)]⟩, obD 3 1 (dI ([pkN g] ++ g.ks ++ g.cs))]) [0, 3] (zcp _) (by simp) [(1, .ptr 0 0 0), (3, ownD 1 (dI ([pkN g] ++ g.ks ++ g.cs))), (4, .pv (i64 0))] ⟨rfl, inv_own (o := 3) (k := 1) (xs := dI ([pkN g] ++ g.ks ++ g.cs)) rfl, rfl, trivial⟩ (l2 rfl (obD_mI ([pkN g] ++ g.ks ++ g.cs))) ?_)
 refine VS_bd (Bd.keepL [(1, .ptr 0 0 0), (3, ownD 1 (dI (pkB g))), (4, .pv (i64 0))] ⟨rfl, rfl, rfl, trivial⟩ ?_)
 refine VS_loop (fun mz E S => ∃ i : Nat, ∃ ys : List Int, mz = g.vs.length - i ∧ (i ≤ g.vs.length) ∧ (ys = (pkB g ++ (g.vs.take i).map (fun v => v + 1000))) ∧ (ys.length ≤ 20 + i) ∧ E = env [(1, .ptr 0 0 0), (3, ownD 1 (dI ys)), (4, .pv (i64 i))] ∧ S = [some ⟨25, 3, [.pv (pgP g)]⟩, obD 3 1 (dI ys)]) ⟨_, 0, pkB g, rfl, (by omega), (by simp), (by simp [pkB]; omega), rfl, rfl⟩ ?_
 rintro mz _ _ ⟨i, ys, hmeas, g0, g1, g2, rfl, rfl⟩
 refine VS_seq (VS_seq (VS_r0 rfl (q_mv rfl (q_fld_r rfl (q_load_r rfl rfl rfl rfl rfl rfl rfl (q_len_m rfl (q_lss rfl rfl (rg_nil ?_))))))))
 refine VS_cond rfl (fun c0 => ?_) (fun c0 => ?_)
 ·try simp at c0
  have hvi := hvl.2 (nth g.vs i) (nth_mem (by omega))
  refine VS_skip (VS_seq (VS_block (VS_r0 rfl (q_mv rfl (q_fld_r rfl (q_load_r rfl rfl rfl rfl rfl rfl rfl (q_mv rfl (q_idx_m (f := fun k => i64 k) (xs := g.vs) (n := (i : Int)) rfl rfl (by omega) (by omega) (fun _ => rfl) ?_))))))))
  rw [Int.toNat_natCast]
  refine q_load_c rfl rfl rfl (q_add_to (nth g.vs i + 1000) rfl rfl rfl (inR64 (by omega)) (q_lit (xs := [i64 (nth g.vs i + 1000)]) rfl rfl rfl rfl (q_app_dm (xs := ys) (ys := [nth g.vs i + 1000]) (f := fun k => .pv (i64 k)) rfl rfl rfl rfl ⟨by simp; omega, by simp; omega⟩ trivial (q_mv rfl (rg_nil (VS_r0 rfl (q_mv rfl (q_add rfl rfl (inR64 (by omega)) (q_mv rfl (rg_nil ?_))))))))))
  refine Bd.renL [0, 2] (zcp _) (by simp) [(1, .ptr 0 0 0), (3, ownD 1 (dI (ys ++ [nth g.vs i + 1000]))), (4, .pv (i64 (i + 1)))] ⟨rfl, inv_own rfl, rfl, trivial⟩ (l2 rfl (obD_mI _)) ⟨_, ?_, i + 1, ys ++ [nth g.vs i + 1000], rfl, ?_, ?_, ?_, rfl, rfl⟩
  ·omega
  ·omega
  ·rw [pkV_snoc g (by omega), g1]
  ·simp; omega
 ·try simp at c0
  have e : i = g.vs.length := by omega
  have hM : ys = pkM g := by rw [g1, e, List.take_length]; rfl
  have hml := pkM_len g
  refine VS_exit (VS_seq (VS_r0 rfl (q_mv rfl (q_mv rfl ?_))))
  refine q_calll rfl ((c_spec_checkOf ys (by omega) (by rw [hM]; exact hsm)).to (y := i64 (ckL (pkM g))) (by rw [hM])) (by (repeat' (first | exact toRs_nil | refine toRs_cons ?_ ?_ | rfl | exact toR_I rfl | exact toR_P rfl | exact toR_G rfl | exact toR_O rfl | refine toR_agg2 ?_ ?_ | refine toR_agg3 ?_ ?_ ?_))) rfl trivial ?_
  refine q_lit (xs := [i64 (ckL (pkM g))]) rfl rfl rfl rfl (q_app_dm (xs := ys) (ys := [ckL (pkM g)]) (f := fun k => .pv (i64 k)) rfl rfl rfl rfl ⟨by simp; omega, by simp; omega⟩ trivial (q_mv rfl (rg_nil (VS_ret (Bd.pureB 2 2 3 1 (xs := dI (ys ++ [ckL (pkM g)])) rfl rfl (toPVs_dI _) ?_)))))
  exact Bd.now ⟨_, rfl, by rw [hM]; rfl⟩
theorem sl_spec_PackPage : slimF prog 14 = some (8, (.seq (.reg 0 (.o 1 (.box 25 3 (.t 0)) (.o 2 (.mv (.c .nils)) .nil))) (.seq (.seq (.reg 0 (.o 3 (.load 3 true (.t 1)) (.o 4 (.call 37 [.t 3]) (.o 5 (.not (.t 4)) .nil)))) (.cond (.t 5) (.seq (.reg 0 (.o 2 (.mv (.c .nils)) .nil)) .ret) .skip)) (.seq (.reg 0 (.o 6 (.load 3 true (.t 1)) (.o 7 (.call 38 [.t 6]) (.o 2 (.mv (.t 7)) .nil)))) .ret)), [.t 2])) := by kernel_rfl
theorem c_spec_PackPage (g : Pg) (hg : anyG g) : PCon prog 14 [pgP g] (fun p => p = ints (pkV g)) := by
 have hgk := hg.1
 have hgc := hg.2.1
 have hgv := hg.2.2
 refine con_of_VS sl_spec_PackPage (by simp) (VS_seq (VS_r0 rfl (q_box rfl rfl rfl trivial (q_mv rfl (rg_nil (VS_seq (VS_seq (VS_r0 rfl (q_load_ra rfl rfl rfl rfl rfl (by (simp; done)) rfl (q_callp (c_spec_fitsPage g hg) rfl trivial (q_not rfl (rg_nil ?_))))))))))))
 refine VS_cond rfl (fun c0 => ?_) (fun c0 => ?_)
 ·try simp at c0
  refine VS_seq (VS_r0 rfl (q_mv rfl (rg_nil (VS_ret ?_))))
  have hf : fitsG g = false := by simpa using c0
  exact Bd.now ⟨_, rfl, by rw [pkV, hf]; rfl⟩
 ·try simp at c0
  refine VS_skip (VS_seq (VS_r0 rfl (q_load_ra rfl rfl rfl rfl rfl (by (simp; done)) rfl (q_callp (c_spec_packPage g hg (by simpa using c0)) rfl trivial (q_mv rfl (rg_nil (VS_ret ?_)))))))
  have hf : fitsG g = true := by simpa using c0
  exact Bd.now ⟨_, rfl, by rw [pkV, hf]; rfl⟩
theorem sl_spec_DrawPackPage : slimF prog 11 = some (6, (.seq (.reg 0 (.o 2 (.alloc 25 3 (.agg [.nils, .nils, .nils])) .nil)) (.seq (.reg 0 (.o 3 (.mv (.t 0)) (.o 4 (.call 33 [.t 3]) (.o 5 (.call 32 [.t 4]) (.op ⟨none, none, .store 3 (.t 2) (.t 5)⟩ .nil))))) .ret), [.c 2 3])) := by kernel_rfl
theorem c_spec_DrawPackPage (bs : List Int) (hb : isU8 bs) (hl : bs.length ≤ 1048576) : PCon prog 11 [u8s bs] (fun p => ∃ g : Pg, p = pgP g ∧ anyG g) := by
 refine con_of_VS sl_spec_DrawPackPage (by simp) (VS_seq (VS_r0 rfl (q_alloc trivial (rg_nil (VS_seq (VS_r0 rfl (q_mv rfl ?_)))))))
 refine q_newRd rfl (c_spec_newReader _ hb hl) rfl (fun _ => trivial) ?_
 rintro bs ⟨hb, hbl⟩
 refine q_rd rfl (c_spec_anyPage bs hb hbl _ (by omega) (by omega)) rfl rfl (fun _ => trivial) ?_
 rintro _ q5 ⟨g, rfl, hg, hq1, hq2⟩
 refine q_store rfl rfl rfl rfl rfl rfl ⟨rfl, rfl, by simp, rfl, by simp [isOne]⟩ rfl trivial (rg_nil (VS_ret ?_))
 exact Bd.now ⟨_, rfl, g, rfl, hg⟩
end Go.V
