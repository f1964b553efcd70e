/- A part of the proofs about laws of the page tree (see the text that bears the law): a small language of steps, its rules, and what the functions of the program return. -/
import Derived.Test.YtanckppjkbfbfaaWKcg
import Derived.Test.YtanckppjkbfbfaaWC
import Derived.Test.YtanckppjkbfbfaaWB
set_option linter.all false
set_option linter.unusedVariables false
set_option linter.unusedSimpArgs false
set_option maxHeartbeats 4000000
namespace Go.V
open Go.Proofs.Try (prog)
set_option maxRecDepth 100000
theorem sl_laws_FnPathToOrder : slimF prog 4 = some (92, (.seq (.reg 0 (.o 2 (.mv (.c (.pv (.bool false)))) .nil)) (.seq (.seq (.reg 0 (.o 11 (.mv (.t 0)) (.o 12 (.len (.t 11)) (.o 13 (.bin .gtr (.t 12) (.c (.pv (.int .i64 1048576)))) .nil)))) (.cond (.t 13) (.seq (.reg 0 (.o 2 (.mv (.c (.pv (.bool true)))) .nil)) .ret) .skip)) (.seq (.reg 0 (.o 15 (.mv (.t 0)) (.o 16 (.call 14 [.t 15]) (.o 14 (.mv (.t 16)) (.o 17 (.ext (.t 14) 0) (.o 18 (.ext (.t 14) 1) (.o 3 (.alloc 25 2 (.agg [.pv (.int .i64 0), .nils])) (.op ⟨none, none, .store 2 (.t 3) (.t 17)⟩ (.o 4 (.mv (.t 18)) .nil))))))))) (.seq (.reg 0 (.o 19 (.load 2 true (.t 3)) (.o 20 (.mv (.t 4)) (.o 21 (.call 15 [.t 19, .t 20]) (.o 5 (.mv (.t 21)) .nil))))) (.seq (.seq (.reg 0 (.o 22 (.mv (.t 5)) (.o 23 (.load 2 true (.t 3)) (.o 24 (.mv (.t 4)) (.o 25 (.call 17 [.t 23, .t 24]) (.o 26 (.call 16 [.t 22, .t 25]) (.o 27 (.not (.t 26)) (.o 28 (.mv (.t 27)) (.g 29 28 false (.mv (.t 5)) (.g 30 28 false (.len (.t 29)) (.g 31 28 false (.bin .eql (.t 30) (.c (.pv (.int .i64 0)))) (.o 32 (.pick (.t 28) (.c (.pv (.bool true))) (.t 31)) .nil)))))))))))) (.cond (.t 32) (.seq (.reg 0 (.o 33 (.mv (.t 5)) (.o 34 (.load 2 true (.t 3)) (.o 35 (.mv (.t 4)) (.o 36 (.call 17 [.t 34, .t 35]) (.o 37 (.call 16 [.t 33, .t 36]) (.o 2 (.mv (.t 37)) .nil))))))) .ret) .skip)) (.seq (.reg 0 (.o 38 (.load 2 true (.t 3)) (.o 39 (.mv (.t 4)) (.o 40 (.bin .add (.t 39) (.c (.pv (.int .i64 1)))) (.o 41 (.call 15 [.t 38, .t 40]) (.o 6 (.mv (.t 41)) .nil)))))) (.seq (.reg 0 (.o 42 (.load 2 true (.t 3)) (.o 43 (.call 19 [.t 42]) (.o 7 (.mv (.t 43)) .nil)))) (.seq (.reg 0 (.o 8 (.mv (.c (.pv (.int .i64 (-1))))) .nil)) (.seq (.reg 0 (.o 9 (.mv (.c (.pv (.int .i64 (-1))))) .nil)) (.seq (.seq (.reg 0 (.o 10 (.mv (.c (.pv (.int .i64 0)))) .nil)) (.block 0 (.loop (.seq (.seq (.reg 0 (.o 44 (.mv (.t 10)) (.o 45 (.mv (.t 7)) (.o 46 (.len (.t 45)) (.o 47 (.bin .lss (.t 44) (.t 46)) (.o 48 (.mv (.t 47)) (.g 49 48 true (.mv (.t 6)) (.g 50 48 true (.len (.t 49)) (.g 51 48 true (.bin .gtr (.t 50) (.c (.pv (.int .i64 0)))) (.o 52 (.pick (.t 48) (.t 51) (.c (.pv (.bool false)))) .nil)))))))))) (.cond (.t 52) .skip (.exit 0))) (.seq (.block 1 (.seq (.seq (.reg 1 (.o 55 (.mv (.t 7)) (.o 56 (.mv (.t 10)) (.o 57 (.idx 1 (.t 55) (.t 56)) (.o 58 (.load 1 false (.t 57)) (.o 59 (.mv (.t 5)) (.o 60 (.mv (.t 5)) (.o 61 (.len (.t 60)) (.o 62 (.bin .sub (.t 61) (.c (.pv (.int .i64 1)))) (.o 63 (.idx 1 (.t 59) (.t 62)) (.o 64 (.load 1 false (.t 63)) (.o 65 (.bin .eql (.t 58) (.t 64)) .nil)))))))))))) (.cond (.t 65) (.reg 0 (.o 66 (.mv (.t 10)) (.o 8 (.mv (.t 66)) .nil))) .skip)) (.seq (.reg 1 (.o 67 (.mv (.t 7)) (.o 68 (.mv (.t 10)) (.o 69 (.idx 1 (.t 67) (.t 68)) (.o 70 (.load 1 false (.t 69)) (.o 71 (.mv (.t 6)) (.o 72 (.mv (.t 6)) (.o 73 (.len (.t 72)) (.o 74 (.bin .sub (.t 73) (.c (.pv (.int .i64 1)))) (.o 75 (.idx 1 (.t 71) (.t 74)) (.o 76 (.load 1 false (.t 75)) (.o 77 (.bin .eql (.t 70) (.t 76)) .nil)))))))))))) (.cond (.t 77) (.reg 0 (.o 78 (.mv (.t 10)) (.o 9 (.mv (.t 78)) .nil))) .skip)))) (.reg 0 (.o 53 (.mv (.t 10)) (.o 54 (.bin .add (.t 53) (.c (.pv (.int .i64 1)))) (.o 10 (.mv (.t 54)) .nil))))))))) (.seq (.reg 0 (.o 79 (.mv (.t 8)) (.o 80 (.bin .geq (.t 79) (.c (.pv (.int .i64 0)))) (.o 81 (.mv (.t 80)) (.g 82 81 true (.mv (.t 9)) (.g 83 81 true (.mv (.t 8)) (.g 84 81 true (.bin .eql (.t 82) (.t 83)) (.g 85 81 true (.mv (.t 84)) (.g 86 85 false (.mv (.t 9)) (.g 87 85 false (.mv (.t 8)) (.g 88 85 false (.bin .add (.t 87) (.c (.pv (.int .i64 1)))) (.g 89 85 false (.bin .eql (.t 86) (.t 88)) (.g 90 81 true (.pick (.t 85) (.c (.pv (.bool true))) (.t 89)) (.o 91 (.pick (.t 81) (.t 90) (.c (.pv (.bool false)))) (.o 2 (.mv (.t 91)) .nil))))))))))))))) .ret)))))))))), [.t 2])) := by kernel_rfl
theorem c_laws_FnPathToOrder (bs : List Int) (hb : isU8 bs) : PCon prog 4 [u8s bs] (fun p => p = .bool true) := by
 refine con_of_VS sl_laws_FnPathToOrder (by simp) (VS_seq (VS_r0 rfl (q_mv rfl (rg_nil (VS_seq (VS_seq (VS_r0 rfl (q_mv rfl (q_len_m rfl (q_gtr rfl rfl (rg_nil ?_)))))))))))
 refine VS_cond rfl (fun c0 => ?_) (fun c0 => ?_)
 ·try simp at c0
  refine VS_seq (VS_r0 rfl (q_mv rfl (rg_nil (VS_ret ?_))))
  exact Bd.now ⟨_, rfl, rfl⟩
 ·try simp at c0
  refine VS_skip (VS_seq (VS_r0 rfl (q_mv rfl (q_calle rfl (c_spec_DrawPathTo bs hb (by omega)) rfl trivial ?_))))
  rintro _ ⟨t, k, rfl, ha, qvk⟩
  refine q_mv rfl (q_ext rfl rfl (q_ext rfl rfl (q_alloc trivial (q_store rfl rfl rfl rfl rfl rfl ⟨rfl, rfl, by simp, rfl, by simp [isOne]⟩ rfl trivial (q_mv rfl (rg_nil (VS_seq ?_)))))))
  cases hv : validT t
  ·skip
   have hs := ha.small
   refine VS_r0 rfl (q_load_ra rfl rfl rfl rfl rfl (by (simp [setAt]; done)) rfl (q_mv rfl (q_callp ((c_impl_PathTo t hs k).to (y := ints []) (by rw [hv]; rfl)) rfl trivial (q_mv rfl (rg_nil (VS_seq (VS_seq (VS_r0 rfl (q_mv rfl (q_load_ra rfl rfl rfl rfl rfl (by (simp [setAt]; done)) rfl (q_mv rfl (q_callp ((c_spec_PathTo t hs k).to (y := ints []) (by rw [hv]; rfl)) rfl trivial (q_callp (x := .bool true) ((c_laws_equalInts _ _ (by (simp; done)) (by (simp; done))).eqT (by rfl)) rfl trivial (q_not rfl (q_mv rfl ?_)))))))))))))))
   refine q_t rfl (q_mv rfl (q_t rfl (q_len_m rfl (q_t rfl (q_eql_v true rfl rfl (decide_eq_true rfl) (q_pick_f rfl rfl (rg_nil ?_)))))))
   refine VS_cond rfl (fun _ => ?_) (fun e => by cases e)
   refine VS_seq (VS_r0 rfl (q_mv rfl (q_load_ra rfl rfl rfl rfl rfl (by (simp [setAt]; done)) rfl (q_mv rfl (q_callp ((c_spec_PathTo t hs k).to (y := ints []) (by rw [hv]; rfl)) rfl trivial (q_callp (x := .bool true) ((c_laws_equalInts _ _ (by (simp; done)) (by (simp; done))).eqT (by rfl)) rfl trivial (q_mv rfl (rg_nil (VS_ret ?_)))))))))
   exact Bd.now ⟨_, rfl, rfl⟩
  ·skip
   have hs := ha.small
   have hlf := lfF hv
   have hll := hlf.len
   have hlv := lvV_len (t := t)
   have hA := hlf.at_ k
   have hB := hlf.at_ (k + 1)
   have hAB := hlf.nxt k
   have hua := upTo_le (sepV t) k
   have hub := upTo_le (sepV t) (k + 1)
   have hpl2 := pthT_len hv k
   have hpl3 := pthT_len hv (k + 1)
   have hh3 := (valid_ok hv).2.1
   have hh1 := (okT_top (valid_ok hv).2.2.1).1
   refine VS_r0 rfl (q_load_ra rfl rfl rfl rfl rfl (by (simp [setAt]; done)) rfl (q_mv rfl (q_callp ((c_impl_PathTo t hs (k)).to (y := ints (pthT t (k))) (by rw [if_pos hv])) rfl trivial (q_mv rfl (rg_nil (VS_seq (VS_seq (VS_r0 rfl (q_mv rfl (q_load_ra rfl rfl rfl rfl rfl (by (simp [setAt]; done)) rfl (q_mv rfl (q_callp ((c_spec_PathTo t hs (k)).to (y := ints (pthT t (k))) (by rw [if_pos hv])) rfl trivial (q_callp (x := .bool true) ((c_laws_equalInts _ _ (by omega) (by omega)).eqT (by rfl)) rfl trivial (q_not rfl (q_mv rfl ?_)))))))))))))))
   refine q_t rfl (q_mv rfl (q_t rfl (q_len_m rfl (q_t rfl (q_eql_v false rfl rfl (decide_eq_false (by omega)) (q_pick_f rfl rfl (rg_nil ?_)))))))
   refine VS_cond rfl (fun e => by cases e) (fun _ => ?_)
   refine VS_skip (VS_seq (VS_r0 rfl (q_load_ra rfl rfl rfl rfl rfl (by (simp [setAt]; done)) rfl (q_mv rfl (q_add rfl rfl (inR64 (by omega)) (q_callp ((c_impl_PathTo t hs (k + 1)).to (y := ints (pthT t (k + 1))) (by rw [if_pos hv])) rfl trivial (q_mv rfl (rg_nil (VS_seq (VS_r0 rfl (q_load_ra rfl rfl rfl rfl rfl (by (simp [setAt]; done)) rfl (q_callp (c_impl_LeavesOf t hs) rfl trivial (q_mv rfl (rg_nil (VS_seq ?_)))))))))))))))
   refine VS_r0 rfl (q_mv rfl (rg_nil (VS_seq (VS_r0 rfl (q_mv rfl (rg_nil (VS_seq (VS_seq (VS_r0 rfl (q_mv rfl (rg_nil (VS_block ?_))))))))))))
   refine VS_bd (Bd.keepL [(3, .ptr 0 0 0), (5, .pv (ints (pthT t k))), (6, .pv (ints (pthT t (k + 1)))), (7, .pv (ints (lvV t))), (8, .pv (i64 (-1))), (9, .pv (i64 (-1))), (10, .pv (i64 0))] ⟨rfl, rfl, rfl, rfl, rfl, rfl, rfl, trivial⟩ ?_)
   refine VS_loop (fun mz E S => ∃ i : Nat, ∃ x : Int, ∃ y : Int, mz = (lvV t).length - i ∧ (i ≤ (lvV t).length) ∧ ((upTo (sepV t) k < i ∧ x = (upTo (sepV t) k : Nat)) ∨ (i ≤ upTo (sepV t) k ∧ x = -1)) ∧ ((upTo (sepV t) (k + 1) < i ∧ y = (upTo (sepV t) (k + 1) : Nat)) ∨ (i ≤ upTo (sepV t) (k + 1) ∧ y = -1)) ∧ E = env [(3, .ptr 0 0 0), (5, .pv (ints (pthT t k))), (6, .pv (ints (pthT t (k + 1)))), (7, .pv (ints (lvV t))), (8, .pv (i64 x)), (9, .pv (i64 y)), (10, .pv (i64 i))] ∧ S = [some ⟨25, 2, [.agg [.pv (i64 t.r), .pv (pgsP t.ps)]]⟩]) ⟨_, 0, -1, -1, rfl, (by omega), (.inr ⟨by omega, rfl⟩), (.inr ⟨by omega, rfl⟩), rfl, rfl⟩ ?_
   rintro mz _ _ ⟨i, x, y, hmeas, g0, gx, gy, rfl, rfl⟩
   refine VS_seq (VS_seq (VS_r0 rfl (q_mv rfl (q_mv rfl (q_len_m rfl (q_lss rfl rfl (q_mv rfl ?_)))))))
   refine q_b rfl (fun g48 => ?_) (fun g48 => ?_)
   ·try simp at g48
    refine q_t rfl (q_mv rfl (q_t rfl (q_len_m rfl (q_t rfl (q_gtr_v true rfl rfl (decide_eq_true (by omega)) (q_pick_t rfl rfl (rg_nil ?_)))))))
    refine VS_cond rfl (fun _ => ?_) (fun e => by cases e)
    refine VS_skip (VS_seq (VS_block (VS_seq (VS_seq (VS_r1 hmix rfl (q_mv rfl (q_mv rfl (q_idx_at (f := fun k => i64 k) (xs := lvV t) (m := i) rfl rfl (by omega) (fun _ => rfl) (q_load_c rfl rfl rfl (q_mv rfl (q_mv rfl (q_len_m rfl (q_sub_to (((pthT t (k)).length - 1 : Nat) : Int) rfl rfl (by omega) (inR64 (by omega)) (q_idx_at (f := fun k => i64 k) (xs := pthT t (k)) (m := (pthT t (k)).length - 1) rfl rfl (by omega) (fun _ => rfl) (q_load_c rfl rfl rfl ?_)))))))))))))))
    refine q_eql rfl rfl (rg_nil ?_)
    refine VS_cond rfl (fun c3 => ?_) (fun c3 => ?_)
    ·try simp at c3
     have hiA := (nodup_at hlf.nd (i := i) (j := upTo (sepV t) k) (by omega) (by omega)).1 (c3.trans hA)
     refine VS_r0 rfl (q_mv rfl (q_mv rfl (rg_nil (VS_seq (VS_r1 hmix rfl (q_mv rfl (q_mv rfl (q_idx_at (f := fun k => i64 k) (xs := lvV t) (m := i) rfl rfl (by omega) (fun _ => rfl) (q_load_c rfl rfl rfl (q_mv rfl (q_mv rfl (q_len_m rfl (q_sub_to (((pthT t (k + 1)).length - 1 : Nat) : Int) rfl rfl (by omega) (inR64 (by omega)) (q_idx_at (f := fun k => i64 k) (xs := pthT t (k + 1)) (m := (pthT t (k + 1)).length - 1) rfl rfl (by omega) (fun _ => rfl) (q_load_c rfl rfl rfl ?_)))))))))))))))
     refine q_eql rfl rfl (rg_nil ?_)
     refine VS_cond rfl (fun c4 => ?_) (fun c4 => ?_)
     ·try simp at c4
      have hiB := (nodup_at hlf.nd (i := i) (j := upTo (sepV t) (k + 1)) (by omega) (by omega)).1 (c4.trans hB)
      refine VS_r0 rfl (q_mv rfl (q_mv rfl (rg_nil (VS_r0 rfl (q_mv rfl (q_add rfl rfl (inR64 (by omega)) (q_mv rfl (rg_nil ?_))))))))
      refine Bd.keepL [(3, .ptr 0 0 0), (5, .pv (ints (pthT t k))), (6, .pv (ints (pthT t (k + 1)))), (7, .pv (ints (lvV t))), (8, .pv (i64 ((i : Int)))), (9, .pv (i64 ((i : Int)))), (10, .pv (i64 (i + 1)))] ⟨rfl, rfl, rfl, rfl, rfl, rfl, rfl, trivial⟩ ⟨_, ?_, i + 1, (i : Int), (i : Int), rfl, ?_, ?_, ?_, rfl, rfl⟩
      ·omega
      ·omega
      ·omega
      ·omega
     ·try simp at c4
      have hiB : i ≠ upTo (sepV t) (k + 1) := fun e => c4 (by rw [hB, ← e])
      refine VS_skip (VS_r0 rfl (q_mv rfl (q_add rfl rfl (inR64 (by omega)) (q_mv rfl (rg_nil ?_)))))
      refine Bd.keepL [(3, .ptr 0 0 0), (5, .pv (ints (pthT t k))), (6, .pv (ints (pthT t (k + 1)))), (7, .pv (ints (lvV t))), (8, .pv (i64 ((i : Int)))), (9, .pv (i64 y)), (10, .pv (i64 (i + 1)))] ⟨rfl, rfl, rfl, rfl, rfl, rfl, rfl, trivial⟩ ⟨_, ?_, i + 1, (i : Int), y, rfl, ?_, ?_, ?_, rfl, rfl⟩
      ·omega
      ·omega
      ·omega
      ·omega
    ·try simp at c3
     have hiA : i ≠ upTo (sepV t) k := fun e => c3 (by rw [hA, ← e])
     refine VS_skip (VS_seq (VS_r1 hmix rfl (q_mv rfl (q_mv rfl (q_idx_at (f := fun k => i64 k) (xs := lvV t) (m := i) rfl rfl (by omega) (fun _ => rfl) (q_load_c rfl rfl rfl (q_mv rfl (q_mv rfl (q_len_m rfl (q_sub_to (((pthT t (k + 1)).length - 1 : Nat) : Int) rfl rfl (by omega) (inR64 (by omega)) (q_idx_at (f := fun k => i64 k) (xs := pthT t (k + 1)) (m := (pthT t (k + 1)).length - 1) rfl rfl (by omega) (fun _ => rfl) (q_load_c rfl rfl rfl (q_eql rfl rfl (rg_nil ?_))))))))))))))
     refine VS_cond rfl (fun c4 => ?_) (fun c4 => ?_)
     ·try simp at c4
      have hiB := (nodup_at hlf.nd (i := i) (j := upTo (sepV t) (k + 1)) (by omega) (by omega)).1 (c4.trans hB)
      refine VS_r0 rfl (q_mv rfl (q_mv rfl (rg_nil (VS_r0 rfl (q_mv rfl (q_add rfl rfl (inR64 (by omega)) (q_mv rfl (rg_nil ?_))))))))
      refine Bd.keepL [(3, .ptr 0 0 0), (5, .pv (ints (pthT t k))), (6, .pv (ints (pthT t (k + 1)))), (7, .pv (ints (lvV t))), (8, .pv (i64 x)), (9, .pv (i64 ((i : Int)))), (10, .pv (i64 (i + 1)))] ⟨rfl, rfl, rfl, rfl, rfl, rfl, rfl, trivial⟩ ⟨_, ?_, i + 1, x, (i : Int), rfl, ?_, ?_, ?_, rfl, rfl⟩
      ·omega
      ·omega
      ·omega
      ·omega
     ·try simp at c4
      have hiB : i ≠ upTo (sepV t) (k + 1) := fun e => c4 (by rw [hB, ← e])
      refine VS_skip (VS_r0 rfl (q_mv rfl (q_add rfl rfl (inR64 (by omega)) (q_mv rfl (rg_nil ?_)))))
      refine Bd.keepL [(3, .ptr 0 0 0), (5, .pv (ints (pthT t k))), (6, .pv (ints (pthT t (k + 1)))), (7, .pv (ints (lvV t))), (8, .pv (i64 x)), (9, .pv (i64 y)), (10, .pv (i64 (i + 1)))] ⟨rfl, rfl, rfl, rfl, rfl, rfl, rfl, trivial⟩ ⟨_, ?_, i + 1, x, y, rfl, ?_, ?_, ?_, rfl, rfl⟩
      ·omega
      ·omega
      ·omega
      ·omega
   ·try simp at g48
    refine q_f rfl (q_f rfl (q_f rfl (q_pick_f rfl rfl (rg_nil ?_))))
    refine VS_cond rfl (fun e => by cases e) (fun _ => ?_)
    refine VS_exit (VS_seq (VS_r0 rfl (q_mv rfl (q_geq_v true rfl rfl (decide_eq_true (by omega)) (q_mv rfl (q_t rfl (q_mv rfl (q_t rfl (q_mv rfl (q_t rfl (q_eql rfl rfl (q_t rfl (q_mv rfl ?_)))))))))))))
    refine q_b rfl (fun g85 => ?_) (fun g85 => ?_)
    ·try simp at g85
     refine q_t rfl (q_mv rfl (q_t rfl (q_mv rfl (q_t rfl (q_add rfl rfl (inR64 (by omega)) (q_t rfl (q_eql_v true rfl rfl (decide_eq_true (by omega)) (q_t rfl (q_pick_f rfl rfl (q_pick_t rfl rfl (q_mv rfl (rg_nil (VS_ret ?_)))))))))))))
     exact Bd.now ⟨_, rfl, rfl⟩
    ·try simp at g85
     refine q_f rfl (q_f rfl (q_f rfl (q_f rfl (q_t rfl (q_pick_t rfl rfl (q_pick_t rfl rfl (q_mv rfl (rg_nil (VS_ret ?_)))))))))
     exact Bd.now ⟨_, rfl, rfl⟩
theorem sl_laws_FnLeavesOfFirst : slimF prog 5 = some (67, (.seq (.reg 0 (.o 2 (.mv (.c (.pv (.bool false)))) .nil)) (.seq (.seq (.reg 0 (.o 7 (.mv (.t 0)) (.o 8 (.len (.t 7)) (.o 9 (.bin .gtr (.t 8) (.c (.pv (.int .i64 1048576)))) .nil)))) (.cond (.t 9) (.seq (.reg 0 (.o 2 (.mv (.c (.pv (.bool true)))) .nil)) .ret) .skip)) (.seq (.reg 0 (.o 10 (.mv (.t 0)) (.o 11 (.call 20 [.t 10]) (.o 3 (.alloc 25 2 (.agg [.pv (.int .i64 0), .nils])) (.op ⟨none, none, .store 2 (.t 3) (.t 11)⟩ .nil))))) (.seq (.reg 0 (.o 12 (.load 2 true (.t 3)) (.o 13 (.call 19 [.t 12]) (.o 4 (.mv (.t 13)) .nil)))) (.seq (.seq (.reg 0 (.o 14 (.mv (.t 4)) (.o 15 (.load 2 true (.t 3)) (.o 16 (.call 21 [.t 15]) (.o 17 (.call 16 [.t 14, .t 16]) (.o 18 (.not (.t 17)) (.o 19 (.mv (.t 18)) (.g 20 19 false (.mv (.t 4)) (.g 21 19 false (.len (.t 20)) (.g 22 19 false (.bin .eql (.t 21) (.c (.pv (.int .i64 0)))) (.o 23 (.pick (.t 19) (.c (.pv (.bool true))) (.t 22)) .nil))))))))))) (.cond (.t 23) (.seq (.reg 0 (.o 24 (.mv (.t 4)) (.o 25 (.load 2 true (.t 3)) (.o 26 (.call 21 [.t 25]) (.o 27 (.call 16 [.t 24, .t 26]) (.o 2 (.mv (.t 27)) .nil)))))) .ret) .skip)) (.seq (.reg 0 (.o 28 (.load 2 true (.t 3)) (.o 29 (.call 15 [.t 28, .c (.pv (.int .i64 0))]) (.o 5 (.mv (.t 29)) .nil)))) (.seq (.reg 0 (.o 30 (.load 2 true (.t 3)) (.o 31 (.call 15 [.t 30, .c (.pv (.int .i64 99))]) (.o 6 (.mv (.t 31)) .nil)))) (.seq (.reg 1 (.o 32 (.mv (.t 5)) (.o 33 (.len (.t 32)) (.o 34 (.bin .gtr (.t 33) (.c (.pv (.int .i64 0)))) (.o 35 (.mv (.t 34)) (.g 36 35 true (.mv (.t 6)) (.g 37 35 true (.len (.t 36)) (.g 38 35 true (.bin .gtr (.t 37) (.c (.pv (.int .i64 0)))) (.o 39 (.pick (.t 35) (.t 38) (.c (.pv (.bool false)))) (.o 40 (.mv (.t 39)) (.g 41 40 true (.mv (.t 4)) (.g 42 40 true (.idx 1 (.t 41) (.c (.pv (.int .i64 0)))) (.g 43 40 true (.load 1 false (.t 42)) (.g 44 40 true (.mv (.t 5)) (.g 45 40 true (.mv (.t 5)) (.g 46 40 true (.len (.t 45)) (.g 47 40 true (.bin .sub (.t 46) (.c (.pv (.int .i64 1)))) (.g 48 40 true (.idx 1 (.t 44) (.t 47)) (.g 49 40 true (.load 1 false (.t 48)) (.g 50 40 true (.bin .eql (.t 43) (.t 49)) (.o 51 (.pick (.t 40) (.t 50) (.c (.pv (.bool false)))) (.o 52 (.mv (.t 51)) (.g 53 52 true (.mv (.t 4)) (.g 54 52 true (.mv (.t 4)) (.g 55 52 true (.len (.t 54)) (.g 56 52 true (.bin .sub (.t 55) (.c (.pv (.int .i64 1)))) (.g 57 52 true (.idx 1 (.t 53) (.t 56)) (.g 58 52 true (.load 1 false (.t 57)) (.g 59 52 true (.mv (.t 6)) (.g 60 52 true (.mv (.t 6)) (.g 61 52 true (.len (.t 60)) (.g 62 52 true (.bin .sub (.t 61) (.c (.pv (.int .i64 1)))) (.g 63 52 true (.idx 1 (.t 59) (.t 62)) (.g 64 52 true (.load 1 false (.t 63)) (.g 65 52 true (.bin .eql (.t 58) (.t 64)) (.o 66 (.pick (.t 52) (.t 65) (.c (.pv (.bool false)))) (.o 2 (.mv (.t 66)) .nil))))))))))))))))))))))))))))))))))))) .ret))))))), [.t 2])) := by kernel_rfl
theorem c_laws_FnLeavesOfFirst (bs : List Int) (hb : isU8 bs) : PCon prog 5 [u8s bs] (fun p => p = .bool true) := by
 refine con_of_VS sl_laws_FnLeavesOfFirst (by simp) (VS_seq (VS_r0 rfl (q_mv rfl (rg_nil (VS_seq (VS_seq (VS_r0 rfl (q_mv rfl (q_len_m rfl (q_gtr rfl rfl (rg_nil ?_)))))))))))
 refine VS_cond rfl (fun c0 => ?_) (fun c0 => ?_)
 ·try simp at c0
  refine VS_seq (VS_r0 rfl (q_mv rfl (rg_nil (VS_ret ?_))))
  exact Bd.now ⟨_, rfl, rfl⟩
 ·try simp at c0
  refine VS_skip (VS_seq (VS_r0 rfl (q_mv rfl (q_calle rfl (c_spec_DrawLeavesOf bs hb (by omega)) rfl trivial ?_))))
  rintro _ ⟨t, rfl, ha⟩
  refine q_alloc trivial (q_store rfl rfl rfl rfl rfl rfl ⟨rfl, rfl, by simp, rfl, by simp [isOne]⟩ rfl trivial (rg_nil (VS_seq ?_)))
  cases hv : validT t
  ·skip
   have hs := ha.small
   refine VS_r0 rfl (q_load_ra rfl rfl rfl rfl rfl (by (simp [setAt]; done)) rfl (q_callp ((c_impl_LeavesOf t hs).to (y := ints []) (by rw [lvV, hv]; rfl)) rfl trivial (q_mv rfl (rg_nil (VS_seq (VS_seq (VS_r0 rfl (q_mv rfl (q_load_ra rfl rfl rfl rfl rfl (by (simp [setAt]; done)) rfl (q_callp ((c_spec_LeavesOf t hs).to (y := ints []) (by rw [lvV, hv]; rfl)) rfl trivial (q_callp (x := .bool true) ((c_laws_equalInts _ _ (by (simp; done)) (by (simp; done))).eqT (by rfl)) rfl trivial (q_not rfl (q_mv rfl (q_t rfl (q_mv rfl ?_)))))))))))))))
   refine q_t rfl (q_len_m rfl (q_t rfl (q_eql_v true rfl rfl (decide_eq_true rfl) (q_pick_f rfl rfl (rg_nil ?_)))))
   refine VS_cond rfl (fun _ => ?_) (fun e => by cases e)
   refine VS_seq (VS_r0 rfl (q_mv rfl (q_load_ra rfl rfl rfl rfl rfl (by (simp [setAt]; done)) rfl (q_callp ((c_spec_LeavesOf t hs).to (y := ints []) (by rw [lvV, hv]; rfl)) rfl trivial (q_callp (x := .bool true) ((c_laws_equalInts _ _ (by (simp; done)) (by (simp; done))).eqT (by rfl)) rfl trivial (q_mv rfl (rg_nil (VS_ret ?_))))))))
   exact Bd.now ⟨_, rfl, rfl⟩
  ·skip
   have hs := ha.small
   have hlf := lfF hv
   have hlv := lvV_len (t := t)
   have hlp := lv_pos hv
   have hpl2 := pthT_len hv 0
   have hpl3 := pthT_len hv 99
   have hh3 := (valid_ok hv).2.1
   have hh1 := (okT_top (valid_ok hv).2.2.1).1
   refine VS_r0 rfl (q_load_ra rfl rfl rfl rfl rfl (by (simp [setAt]; done)) rfl (q_callp (c_impl_LeavesOf t hs) rfl trivial (q_mv rfl (rg_nil (VS_seq (VS_seq (VS_r0 rfl (q_mv rfl (q_load_ra rfl rfl rfl rfl rfl (by (simp [setAt]; done)) rfl (q_callp (c_spec_LeavesOf t hs) rfl trivial (q_callp (x := .bool true) ((c_laws_equalInts _ _ (by omega) (by omega)).eqT (by rfl)) rfl trivial (q_not rfl (q_mv rfl (q_t rfl (q_mv rfl ?_)))))))))))))))
   refine q_t rfl (q_len_m rfl (q_t rfl (q_eql_v false rfl rfl (decide_eq_false (by omega)) (q_pick_f rfl rfl (rg_nil ?_)))))
   refine VS_cond rfl (fun e => by cases e) (fun _ => ?_)
   refine VS_skip (VS_seq (VS_r0 rfl (q_load_ra rfl rfl rfl rfl rfl (by (simp [setAt]; done)) rfl (q_callp ((c_impl_PathTo t hs (0)).to (y := ints (pthT t (0))) (by rw [if_pos hv])) rfl trivial (q_mv rfl (rg_nil (VS_seq (VS_r0 rfl (q_load_ra rfl rfl rfl rfl rfl (by (simp [setAt]; done)) rfl (q_callp ((c_impl_PathTo t hs (99)).to (y := ints (pthT t (99))) (by rw [if_pos hv])) rfl trivial (q_mv rfl (rg_nil (VS_seq (VS_r1 hmix rfl (q_mv rfl ?_)))))))))))))))
   refine q_len_m rfl (q_gtr_v true rfl rfl (decide_eq_true (by omega)) (q_mv rfl (q_t rfl (q_mv rfl (q_t rfl (q_len_m rfl (q_t rfl (q_gtr_v true rfl rfl (decide_eq_true (by omega)) (q_pick_t rfl rfl (q_mv rfl (q_t rfl (q_mv rfl (q_t rfl (q_idx_at (f := fun k => i64 k) (xs := lvV t) (m := 0) rfl rfl (by omega) (fun _ => rfl) (q_t rfl ?_)))))))))))))))
   refine q_load_c rfl rfl rfl (q_t rfl (q_mv rfl (q_t rfl (q_mv rfl (q_t rfl (q_len_m rfl (q_t rfl (q_sub_to (((pthT t (0)).length - 1 : Nat) : Int) rfl rfl (by omega) (inR64 (by omega)) (q_t rfl (q_idx_at (f := fun k => i64 k) (xs := pthT t (0)) (m := (pthT t (0)).length - 1) rfl rfl (by omega) (fun _ => rfl) (q_t rfl (q_load_c rfl rfl rfl (q_t rfl (q_eql_v true rfl rfl (decide_eq_true (by exact hlf.fst)) (q_pick_t rfl rfl ?_)))))))))))))))
   refine q_mv rfl (q_t rfl (q_mv rfl (q_t rfl (q_mv rfl (q_t rfl (q_len_m rfl (q_t rfl (q_sub_to (((lvV t).length - 1 : Nat) : Int) rfl rfl (by omega) (inR64 (by omega)) (q_t rfl (q_idx_at (f := fun k => i64 k) (xs := lvV t) (m := (lvV t).length - 1) rfl rfl (by omega) (fun _ => rfl) (q_t rfl (q_load_c rfl rfl rfl (q_t rfl (q_mv rfl (q_t rfl ?_)))))))))))))))
   refine q_mv rfl (q_t rfl (q_len_m rfl (q_t rfl (q_sub_to (((pthT t (99)).length - 1 : Nat) : Int) rfl rfl (by omega) (inR64 (by omega)) (q_t rfl (q_idx_at (f := fun k => i64 k) (xs := pthT t (99)) (m := (pthT t (99)).length - 1) rfl rfl (by omega) (fun _ => rfl) (q_t rfl (q_load_c rfl rfl rfl (q_t rfl (q_eql_v true rfl rfl (decide_eq_true (by exact hlf.lst)) (q_pick_t rfl rfl (q_mv rfl (rg_nil (VS_ret ?_))))))))))))))
   exact Bd.now ⟨_, rfl, rfl⟩
end Go.V
