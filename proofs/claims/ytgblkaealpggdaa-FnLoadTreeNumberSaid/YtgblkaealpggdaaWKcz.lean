/- A part of the proofs about laws of the page tree (see the text that bears the law): a small language of steps, its rules, and what the functions of the program return. -/
import Derived.Test.YtgblkaealpggdaaWKcx
import Derived.Test.YtgblkaealpggdaaWH
import Derived.Test.YtgblkaealpggdaaWKcv
import Derived.Test.YtgblkaealpggdaaLH
set_option linter.all false
set_option linter.unusedVariables false
set_option linter.unusedSimpArgs false
set_option maxHeartbeats 4000000
namespace Go.V
open Go.Proofs.Try (prog)
set_option maxRecDepth 100000
theorem sl_laws_FnLoadTreeNumber : slimF prog 10 = some (92, (.seq (.reg 0 (.o 2 (.mv (.c (.pv (.bool false)))) .nil)) (.seq (.seq (.reg 0 (.o 13 (.mv (.t 0)) (.o 14 (.len (.t 13)) (.o 15 (.bin .gtr (.t 14) (.c (.pv (.int .i64 1048576)))) .nil)))) (.cond (.t 15) (.seq (.reg 0 (.o 2 (.mv (.c (.pv (.bool true)))) .nil)) .ret) .skip)) (.seq (.reg 0 (.o 16 (.mv (.t 0)) (.o 17 (.call 27 [.t 16]) (.o 3 (.mv (.t 17)) .nil)))) (.seq (.reg 0 (.o 19 (.mv (.t 3)) (.o 20 (.call 28 [.t 19]) (.o 18 (.mv (.t 20)) (.o 21 (.ext (.t 18) 0) (.o 22 (.ext (.t 18) 1) (.o 4 (.alloc 39 2 (.agg [.pv (.int .i64 0), .nils])) (.op ⟨none, none, .store 2 (.t 4) (.t 21)⟩ (.o 5 (.mv (.t 22)) .nil))))))))) (.seq (.reg 0 (.o 24 (.mv (.t 3)) (.o 25 (.call 29 [.t 24]) (.o 23 (.mv (.t 25)) (.o 26 (.ext (.t 23) 0) (.o 27 (.ext (.t 23) 1) (.o 6 (.alloc 39 2 (.agg [.pv (.int .i64 0), .nils])) (.op ⟨none, none, .store 2 (.t 6) (.t 26)⟩ (.o 7 (.mv (.t 27)) .nil))))))))) (.seq (.seq (.reg 0 (.o 28 (.load 2 true (.t 4)) (.o 29 (.load 2 true (.t 6)) (.o 30 (.call 26 [.t 28, .t 29]) (.o 31 (.not (.t 30)) (.o 32 (.mv (.t 31)) (.g 33 32 false (.mv (.t 5)) (.g 34 32 false (.mv (.t 7)) (.g 35 32 false (.beq true (.t 33) (.t 34)) (.o 36 (.pick (.t 32) (.c (.pv (.bool true))) (.t 35)) (.o 37 (.mv (.t 36)) (.g 38 37 false (.mv (.t 5)) (.g 39 37 false (.not (.t 38)) (.o 40 (.pick (.t 37) (.c (.pv (.bool true))) (.t 39)) .nil)))))))))))))) (.cond (.t 40) (.seq (.reg 0 (.o 41 (.load 2 true (.t 4)) (.o 42 (.load 2 true (.t 6)) (.o 43 (.call 26 [.t 41, .t 42]) (.o 44 (.mv (.t 43)) (.g 45 44 true (.mv (.t 5)) (.g 46 44 true (.mv (.t 7)) (.g 47 44 true (.beq false (.t 45) (.t 46)) (.o 48 (.pick (.t 44) (.t 47) (.c (.pv (.bool false)))) (.o 2 (.mv (.t 48)) .nil)))))))))) .ret) .skip)) (.seq (.reg 0 (.o 50 (.load 2 true (.t 4)) (.o 51 (.call 24 [.t 50]) (.o 49 (.mv (.t 51)) (.o 52 (.ext (.t 49) 0) (.o 53 (.ext (.t 49) 1) (.o 8 (.alloc 39 2 (.agg [.pv (.int .i64 0), .nils])) (.op ⟨none, none, .store 2 (.t 8) (.t 52)⟩ (.o 9 (.mv (.t 53)) .nil))))))))) (.seq (.reg 0 (.o 54 (.mv (.t 3)) (.o 55 (.call 30 [.t 54]) (.o 10 (.mv (.t 55)) .nil)))) (.seq (.seq (.reg 0 (.o 11 (.mv (.c (.pv (.int .i64 0)))) .nil)) (.block 0 (.loop (.seq (.seq (.reg 0 (.o 56 (.mv (.t 11)) (.o 57 (.fld 1 1 false (.t 4)) (.o 58 (.load 1 false (.t 57)) (.o 59 (.len (.t 58)) (.o 60 (.bin .lss (.t 56) (.t 59)) .nil)))))) (.cond (.t 60) .skip (.exit 0))) (.seq (.block 1 (.seq (.reg 0 (.o 12 (.mv (.c (.pv (.int .i64 0)))) .nil)) (.block 2 (.loop (.seq (.seq (.reg 0 (.o 63 (.mv (.t 12)) (.o 64 (.fld 1 1 false (.t 4)) (.o 65 (.load 1 false (.t 64)) (.o 66 (.mv (.t 11)) (.o 67 (.idx 3 (.t 65) (.t 66)) (.o 68 (.fld 0 1 false (.t 67)) (.o 69 (.load 1 false (.t 68)) (.o 70 (.len (.t 69)) (.o 71 (.bin .lss (.t 63) (.t 70)) .nil)))))))))) (.cond (.t 71) .skip (.exit 2))) (.seq (.block 3 (.seq (.reg 0 (.o 74 (.mv (.t 10)) (.o 75 (.fld 1 1 false (.t 4)) (.o 76 (.load 1 false (.t 75)) (.o 77 (.mv (.t 11)) (.o 78 (.idx 3 (.t 76) (.t 77)) (.o 79 (.fld 0 1 false (.t 78)) (.o 80 (.load 1 false (.t 79)) (.o 81 (.mv (.t 12)) (.o 82 (.idx 1 (.t 80) (.t 81)) (.o 83 (.load 1 false (.t 82)) (.o 84 (.call 31 [.t 74, .t 83]) (.o 85 (.not (.t 84)) .nil))))))))))))) (.cond (.t 85) (.seq (.reg 0 (.o 2 (.mv (.c (.pv (.bool false)))) .nil)) .ret) .skip))) (.reg 0 (.o 72 (.mv (.t 12)) (.o 73 (.bin .add (.t 72) (.c (.pv (.int .i64 1)))) (.o 12 (.mv (.t 73)) .nil)))))))))) (.reg 0 (.o 61 (.mv (.t 11)) (.o 62 (.bin .add (.t 61) (.c (.pv (.int .i64 1)))) (.o 11 (.mv (.t 62)) .nil))))))))) (.seq (.reg 0 (.o 86 (.mv (.t 9)) (.o 87 (.mv (.t 86)) (.g 88 87 true (.load 2 true (.t 8)) (.g 89 87 true (.load 2 true (.t 4)) (.g 90 87 true (.call 26 [.t 88, .t 89]) (.o 91 (.pick (.t 87) (.t 90) (.c (.pv (.bool false)))) (.o 2 (.mv (.t 91)) .nil)))))))) .ret))))))))), [.t 2])) := by kernel_rfl
theorem c_laws_FnLoadTreeNumber (bs : List Int) (hb : isU8 bs) : PCon prog 10 [u8s bs] (fun p => p = .bool true) := by
 refine con_of_VS sl_laws_FnLoadTreeNumber (by simp) (VS_seq (VS_r0 rfl (q_mv rfl (rg_nil (VS_seq (VS_seq (VS_r0 rfl (q_mv rfl (q_len_m rfl (q_gtr rfl rfl (rg_nil ?_)))))))))))
 refine VS_cond rfl (fun c0 => ?_) (fun c0 => ?_)
 ·try simp at c0
  refine VS_seq (VS_r0 rfl (q_mv rfl (rg_nil (VS_ret ?_))))
  exact Bd.now ⟨_, rfl, rfl⟩
 ·try simp at c0
  refine VS_skip (VS_seq (VS_r0 rfl (q_mv rfl (q_calle rfl (c_spec_DrawLoadTree bs hb (by omega)) rfl trivial ?_))))
  rintro _ ⟨xs, rfl, hx1, hx2⟩
  refine q_mv rfl (rg_nil (VS_seq ?_))
  cases hg : goodR xs
  ·skip
   have hs0 := small0
   refine VS_r0 rfl (q_mv rfl (q_callp ((c_impl_LoadTree xs (by omega)).to (y := .tup [ptP ⟨0, []⟩, .bool false]) (by rw [hg]; rfl)) rfl trivial (q_mv rfl (q_ext rfl rfl (q_ext rfl rfl (q_alloc trivial (q_store rfl rfl rfl rfl rfl rfl ⟨rfl, rfl, by simp, rfl, by simp [isOne]⟩ rfl trivial (q_mv rfl (rg_nil (VS_seq (VS_r0 rfl (q_mv rfl (q_callp ((c_spec_LoadTree xs (by omega)).to (y := .tup [ptP ⟨0, []⟩, .bool false]) (by rw [hg]; rfl)) rfl trivial (q_mv rfl (q_ext rfl rfl ?_)))))))))))))))
   refine q_ext rfl rfl (q_alloc trivial (q_store rfl rfl rfl rfl rfl rfl ⟨rfl, rfl, by simp, rfl, by simp [isOne]⟩ rfl trivial (q_mv rfl (rg_nil (VS_seq (VS_seq (VS_r0 rfl (q_load_ra rfl rfl rfl rfl rfl (by (simp [setAt]; done)) rfl (q_load_ra rfl rfl rfl rfl rfl (by (simp [setAt]; done)) rfl (q_callp (x := .bool true) ((c_laws_equalTree _ _ (by assumption) (by assumption)).eqT (by rfl)) rfl trivial (q_not rfl (q_mv rfl (q_t rfl (q_mv rfl (q_t rfl ?_)))))))))))))))
   refine q_mv rfl (q_t rfl (q_beq_v false rfl rfl (rfl) (q_pick_f rfl rfl (q_mv rfl (q_t rfl (q_mv rfl (q_t rfl (q_not rfl (q_pick_f rfl rfl (rg_nil ?_))))))))))
   refine VS_cond rfl (fun _ => ?_) (fun e => by cases e)
   refine VS_seq (VS_r0 rfl (q_load_ra rfl rfl rfl rfl rfl (by (simp [setAt]; done)) rfl (q_load_ra rfl rfl rfl rfl rfl (by (simp [setAt]; done)) rfl (q_callp (x := .bool true) ((c_laws_equalTree _ _ (by assumption) (by assumption)).eqT (by rfl)) rfl trivial (q_mv rfl (q_t rfl (q_mv rfl (q_t rfl (q_mv rfl (q_t rfl (q_beq_v true rfl rfl (rfl) (q_pick_t rfl rfl (q_mv rfl (rg_nil (VS_ret ?_)))))))))))))))
   exact Bd.now ⟨_, rfl, rfl⟩
  ·skip
   obtain ⟨hv, hpr, hlv, hcn, hs⟩ := load_good hg
   have hx := goodR_len hg
   have hn := nlv_le hx
   have h16 := (valid_ok hv).1
   have hlk := load_keys hg
   refine VS_r0 rfl (q_mv rfl (q_callp ((c_impl_LoadTree xs (by omega)).to (y := .tup [ptP (loadT xs), .bool true]) (by rw [hg]; rfl)) rfl trivial (q_mv rfl (q_ext rfl rfl (q_ext rfl rfl (q_alloc trivial (q_store rfl rfl rfl rfl rfl rfl ⟨rfl, rfl, by simp, rfl, by simp [isOne]⟩ rfl trivial (q_mv rfl (rg_nil (VS_seq (VS_r0 rfl (q_mv rfl (q_callp ((c_spec_LoadTree xs (by omega)).to (y := .tup [ptP (loadT xs), .bool true]) (by rw [hg]; rfl)) rfl trivial (q_mv rfl (q_ext rfl rfl ?_)))))))))))))))
   refine q_ext rfl rfl (q_alloc trivial (q_store rfl rfl rfl rfl rfl rfl ⟨rfl, rfl, by simp, rfl, by simp [isOne]⟩ rfl trivial (q_mv rfl (rg_nil (VS_seq (VS_seq (VS_r0 rfl (q_load_ra rfl rfl rfl rfl rfl (by (simp [setAt]; done)) rfl (q_load_ra rfl rfl rfl rfl rfl (by (simp [setAt]; done)) rfl (q_callp (x := .bool true) ((c_laws_equalTree _ _ (by assumption) (by assumption)).eqT (by rfl)) rfl trivial (q_not rfl (q_mv rfl (q_t rfl (q_mv rfl (q_t rfl ?_)))))))))))))))
   refine q_mv rfl (q_t rfl (q_beq_v false rfl rfl (rfl) (q_pick_f rfl rfl (q_mv rfl (q_t rfl (q_mv rfl (q_t rfl (q_not rfl (q_pick_f rfl rfl (rg_nil ?_))))))))))
   refine VS_cond rfl (fun e => by cases e) (fun _ => ?_)
   refine VS_skip (VS_seq (VS_r0 rfl (q_load_ra rfl rfl rfl rfl rfl (by (simp [setAt]; done)) rfl (q_callp ((c_impl_RenumberTree (loadT xs) hs).to (y := .tup [ptP (loadT xs), .bool true]) (by rw [hv, if_pos rfl, rn_load hg])) rfl trivial (q_mv rfl (q_ext rfl rfl (q_ext rfl rfl (q_alloc trivial (q_store rfl rfl rfl rfl rfl rfl ⟨rfl, rfl, by simp, rfl, by simp [isOne]⟩ rfl trivial (q_mv rfl (rg_nil (VS_seq (VS_r0 rfl (q_mv rfl (q_callp (c_laws_keysOf xs (by omega)) rfl trivial ?_)))))))))))))))
   refine q_mv rfl (rg_nil (VS_seq (VS_seq (VS_r0 rfl (q_mv rfl (rg_nil (VS_block ?_)))))))
   refine VS_bd (Bd.keepL [(4, .ptr 0 0 0), (8, .ptr 2 0 0), (9, .pv (.bool true)), (10, .pv (ints (keysR xs))), (11, .pv (i64 0))] ⟨rfl, rfl, rfl, rfl, rfl, trivial⟩ ?_)
   refine VS_loop (fun mz E S => ∃ i : Nat, mz = (loadT xs).ps.length - i ∧ (i ≤ (loadT xs).ps.length) ∧ E = env [(4, .ptr 0 0 0), (8, .ptr 2 0 0), (9, .pv (.bool true)), (10, .pv (ints (keysR xs))), (11, .pv (i64 i))] ∧ S = [some ⟨39, 2, [.agg [.pv (i64 (loadT xs).r), .pv (pgsP (loadT xs).ps)]]⟩, some ⟨39, 2, [.agg [.pv (i64 (loadT xs).r), .pv (pgsP (loadT xs).ps)]]⟩, some ⟨39, 2, [.agg [.pv (i64 (loadT xs).r), .pv (pgsP (loadT xs).ps)]]⟩]) ⟨_, 0, rfl, (by omega), rfl, rfl⟩ ?_
   rintro mz _ _ ⟨i, hmeas, g0, rfl, rfl⟩
   refine VS_seq (VS_seq (VS_r0 rfl (q_mv rfl (q_fld_r rfl (q_load_r rfl rfl rfl rfl rfl rfl rfl (q_len_m rfl (q_lss rfl rfl (rg_nil ?_))))))))
   refine VS_cond rfl (fun c2 => ?_) (fun c2 => ?_)
   ·try simp at c2
    have hks : (nth (loadT xs).ps i).ks.length ≤ 1000000 := (hs.2 (i : Int) (by omega) (by omega)).1
    refine VS_skip (VS_seq (VS_block (VS_seq (VS_r0 rfl (q_mv rfl (rg_nil (VS_block ?_)))))))
    refine VS_bd (Bd.keepL [(4, .ptr 0 0 0), (8, .ptr 2 0 0), (9, .pv (.bool true)), (10, .pv (ints (keysR xs))), (11, .pv (i64 i)), (12, .pv (i64 0))] ⟨rfl, rfl, rfl, rfl, rfl, rfl, trivial⟩ ?_)
    refine VS_loop (fun mz E S => ∃ k : Nat, mz = (nth (loadT xs).ps i).ks.length - k ∧ (k ≤ (nth (loadT xs).ps i).ks.length) ∧ E = env [(4, .ptr 0 0 0), (8, .ptr 2 0 0), (9, .pv (.bool true)), (10, .pv (ints (keysR xs))), (11, .pv (i64 i)), (12, .pv (i64 k))] ∧ S = [some ⟨39, 2, [.agg [.pv (i64 (loadT xs).r), .pv (pgsP (loadT xs).ps)]]⟩, some ⟨39, 2, [.agg [.pv (i64 (loadT xs).r), .pv (pgsP (loadT xs).ps)]]⟩, some ⟨39, 2, [.agg [.pv (i64 (loadT xs).r), .pv (pgsP (loadT xs).ps)]]⟩]) ⟨_, 0, rfl, (by omega), rfl, rfl⟩ ?_
    rintro mz _ _ ⟨k, hmeas, k0, rfl, rfl⟩
    refine VS_seq (VS_seq (VS_r0 rfl (q_mv rfl (q_fld_r rfl (q_load_r rfl rfl rfl rfl rfl rfl rfl (q_mv rfl (q_idx_m (f := pgP) (xs := (loadT xs).ps) (n := (i : Int)) rfl rfl (by omega) (by omega) (fun _ => rfl) ?_)))))))
    rw [Int.toNat_natCast]
    refine q_fld_c rfl rfl (q_load_c rfl rfl rfl (q_len_m rfl (q_lss rfl rfl (rg_nil ?_))))
    refine VS_cond rfl (fun c3 => ?_) (fun c3 => ?_)
    ·try simp at c3
     refine VS_skip (VS_seq (VS_block (VS_seq (VS_r0 rfl (q_mv rfl (q_fld_r rfl (q_load_r rfl rfl rfl rfl rfl rfl rfl (q_mv rfl (q_idx_m (f := pgP) (xs := (loadT xs).ps) (n := (i : Int)) rfl rfl (by omega) (by omega) (fun _ => rfl) ?_)))))))))
     rw [Int.toNat_natCast]
     refine q_fld_c rfl rfl (q_load_c rfl rfl rfl (q_mv rfl (q_idx_at (f := fun k => i64 k) (xs := (nth (loadT xs).ps i).ks) (m := k) rfl rfl (by omega) (fun _ => rfl) (q_load_c rfl rfl rfl (q_callp (x := .bool true) ((c_laws_isIn (keysR xs) (nth (nth (loadT xs).ps i).ks k) (by simp; omega)).to (y := .bool true) (congrArg PV.bool (hlk _ (nth_mem (by omega)) _ (nth_mem (by omega))))) rfl trivial (q_not rfl (rg_nil ?_)))))))
     refine VS_cond rfl (fun e => by cases e) (fun _ => ?_)
     refine VS_skip (VS_r0 rfl (q_mv rfl (q_add rfl rfl (inR64 (by omega)) (q_mv rfl (rg_nil ?_)))))
     refine Bd.keepL [(4, .ptr 0 0 0), (8, .ptr 2 0 0), (9, .pv (.bool true)), (10, .pv (ints (keysR xs))), (11, .pv (i64 i)), (12, .pv (i64 (k + 1)))] ⟨rfl, rfl, rfl, rfl, rfl, rfl, trivial⟩ ⟨_, ?_, k + 1, rfl, ?_, rfl, rfl⟩
     ·omega
     ·omega
    ·try simp at c3
     refine VS_exit (VS_r0 rfl (q_mv rfl (q_add rfl rfl (inR64 (by omega)) (q_mv rfl (rg_nil ?_)))))
     refine Bd.keepL [(4, .ptr 0 0 0), (8, .ptr 2 0 0), (9, .pv (.bool true)), (10, .pv (ints (keysR xs))), (11, .pv (i64 (i + 1)))] ⟨rfl, rfl, rfl, rfl, rfl, trivial⟩ ⟨_, ?_, i + 1, rfl, ?_, rfl, rfl⟩
     ·omega
     ·omega
   ·try simp at c2
    refine VS_exit (VS_seq (VS_r0 rfl (q_mv rfl (q_mv rfl ?_))))
    refine q_b rfl (fun g87 => ?_) (fun g87 => ?_)
    ·try simp at g87
     refine q_t rfl (q_load_ra rfl rfl rfl rfl rfl (by (simp; done)) rfl (q_t rfl (q_load_ra rfl rfl rfl rfl rfl (by (simp; done)) rfl (q_t rfl (q_callp (x := .bool true) ((c_laws_equalTree _ _ (by assumption) (by assumption)).eqT (by rfl)) rfl trivial (q_pick_t rfl rfl (q_mv rfl (rg_nil (VS_ret ?_)))))))))
     exact Bd.now ⟨_, rfl, rfl⟩
    ·exfalso; first | (simp at g87; done) | omega | (simp_all; done) | (simp_all; omega)
end Go.V
