/- A part of the proofs about laws of the page tree (see the text that bears the law): a small language of steps, its rules, and what the functions of the program return. -/
import Derived.Test.YtgblkaealpggdaaWF
import Derived.Test.YtgblkaealpggdaaLF
import Derived.Test.YtgblkaealpggdaaWD
import Derived.Test.YtgblkaealpggdaaLG
set_option linter.all false
set_option linter.unusedVariables false
set_option linter.unusedSimpArgs false
set_option maxHeartbeats 4000000
namespace Go.V
open Go.Proofs.Try (prog)
theorem zbc (os : List Nat) : ∀ i, i < 0 → os[i]? = some i := fun i hi => absurd hi (Nat.not_lt_zero i)
set_option maxRecDepth 100000
theorem sl_spec_share : slimF prog 93 = some (19, (.seq (.reg 0 (.o 6 (.mv (.c (.pv (.int .i64 0)))) .nil)) (.seq (.reg 1 (.o 7 (.mv (.t 0)) (.o 8 (.mv (.t 2)) (.o 9 (.bin .add (.t 8) (.c (.pv (.int .i64 1)))) (.o 10 (.bin .mul (.t 7) (.t 9)) (.o 11 (.mv (.t 1)) (.o 12 (.bin .quo (.t 10) (.t 11)) (.o 13 (.mv (.t 0)) (.o 14 (.mv (.t 2)) (.o 15 (.bin .mul (.t 13) (.t 14)) (.o 16 (.mv (.t 1)) (.o 17 (.bin .quo (.t 15) (.t 16)) (.o 18 (.bin .sub (.t 12) (.t 17)) (.o 6 (.mv (.t 18)) .nil)))))))))))))) .ret), [.t 6])) := by kernel_rfl
theorem c_spec_share (m n i : Nat) (hm : m ≤ 24) (hn : 1 ≤ n) (hi : i < 7) : PCon prog 93 [i64 m, i64 n, i64 i] (fun p => p = i64 ((cutAt m n (i + 1) : Int) - (cutAt m n i : Int))) := by
 have hb1 := mul_le24 (i := i + 1) hm (by omega)
 have hb2 := mul_le24 (i := i) hm (by omega)
 have hc1 : cutAt m n (i + 1) ≤ m * (i + 1) := Nat.div_le_self _ _
 have hc2 : cutAt m n i ≤ m * i := Nat.div_le_self _ _
 refine con_of_VS sl_spec_share (by simp) (VS_seq (VS_r0 rfl (q_mv rfl (rg_nil (VS_seq (VS_r1 hmix rfl (q_mv rfl (q_mv rfl (q_add rfl rfl (inR64 (by omega)) (q_mul_to ((m * (i + 1) : Nat) : Int) rfl rfl (by simp) (inR64 (by omega)) (q_mv rfl (q_quo_to ((cutAt m n (i + 1) : Nat) : Int) rfl rfl ⟨by omega, by omega⟩ rfl (inR64 (by omega)) (q_mv rfl (q_mv rfl (q_mul_to ((m * i : Nat) : Int) rfl rfl (by simp) (inR64 (by omega)) ?_)))))))))))))))
 refine q_mv rfl (q_quo_to ((cutAt m n i : Nat) : Int) rfl rfl ⟨by omega, by omega⟩ rfl (inR64 (by omega)) (q_sub rfl rfl (inR64 (by omega)) (q_mv rfl (rg_nil (VS_ret ?_)))))
 exact Bd.now ⟨_, rfl, (by rfl)⟩
theorem sl_spec_leafOf : slimF prog 94 = some (27, (.seq (.reg 0 (.o 2 (.alloc 25 3 (.agg [.nils, .nils, .nils])) .nil)) (.seq (.reg 0 (.o 5 (.mv (.t 0)) (.o 6 (.call 79 [.t 5]) (.o 7 (.lit 3 1 0 [.pv (.int .i64 0)] []) (.o 8 (.lit 3 1 0 [.pv (.int .i64 0)] []) (.o 9 (.build [.nils, .nils, .nils] [(0, (1, .t 6)), (1, (1, .t 7)), (2, (1, .t 8))]) (.o 3 (.alloc 25 3 (.agg [.nils, .nils, .nils])) (.op ⟨none, none, .store 3 (.t 3) (.t 9)⟩ .nil)))))))) (.seq (.seq (.reg 0 (.o 4 (.mv (.c (.pv (.int .i64 0)))) .nil)) (.block 0 (.loop (.seq (.seq (.reg 0 (.o 10 (.mv (.t 4)) (.o 11 (.mv (.t 0)) (.o 12 (.len (.t 11)) (.o 13 (.bin .lss (.t 10) (.t 12)) .nil))))) (.cond (.t 13) .skip (.exit 0))) (.seq (.block 1 (.reg 2 (.o 16 (.fld 2 1 false (.t 3)) (.o 17 (.load 1 false (.t 16)) (.o 18 (.mv (.t 0)) (.o 19 (.mv (.t 4)) (.o 20 (.idx 2 (.t 18) (.t 19)) (.o 21 (.fld 1 1 false (.t 20)) (.o 22 (.load 1 false (.t 21)) (.o 23 (.lit 3 1 1 [.pv (.int .i64 0)] [(0, .t 22)]) (.o 24 (.app 3 1 8 (.t 17) (.t 23)) (.o 25 (.fld 2 1 false (.t 3)) (.last ⟨none, none, .store 1 (.t 25) (.t 24)⟩))))))))))))) (.reg 0 (.o 14 (.mv (.t 4)) (.o 15 (.bin .add (.t 14) (.c (.pv (.int .i64 1)))) (.o 4 (.mv (.t 15)) .nil))))))))) (.seq (.reg 0 (.o 26 (.load 3 true (.t 3)) (.op ⟨none, none, .store 3 (.t 2) (.t 26)⟩ .nil))) .ret))), [.c 2 3])) := by kernel_rfl
theorem c_spec_leafOf (xs : List (Int × Int)) (hl : xs.length ≤ 1000000) : PCon prog 94 [prs xs] (fun p => p = pgP (leafG xs)) := by
 refine con_of_VS sl_spec_leafOf (by simp) (VS_seq (VS_r0 rfl (q_alloc trivial (rg_nil (VS_seq (VS_r0 rfl (q_mv rfl (q_callp (c_spec_keysOf xs (by omega)) rfl trivial (q_lit0 (q_lit0 (q_build rfl (q_alloc trivial (q_store rfl rfl rfl rfl rfl rfl ⟨rfl, rfl, by simp, rfl, by simp [isOne]⟩ rfl trivial (rg_nil (VS_seq ?_)))))))))))))))
 refine VS_seq (VS_r0 rfl (q_mv rfl (rg_nil (VS_block ?_))))
 refine VS_bd (Bd.pad ?_)
 refine VS_bd (Bd.keepL [(0, .pv (prs xs)), (2, .ptr 0 0 0), (3, .ptr 1 0 0), (4, .pv (i64 0))] ⟨rfl, rfl, rfl, rfl, trivial⟩ ?_)
 refine VS_loop (fun mz E S => ∃ i : Nat, ∃ ys : List Int, mz = xs.length - i ∧ (i ≤ xs.length) ∧ (ys = (xs.take i).map Prod.snd) ∧ (ys.length = i) ∧ E = env [(0, .pv (prs xs)), (2, .ptr 0 0 0), (3, .ptr 1 0 0), (4, .pv (i64 i))] ∧ S = [some ⟨25, 3, [.agg [.nils, .nils, .nils]]⟩, some ⟨25, 3, [.agg [.pv (ints (keysR xs)), .nils, ownD 2 (dI ys)]]⟩, obD 3 1 (dI ys)]) ⟨_, 0, [], rfl, (by omega), rfl, rfl, rfl, rfl⟩ ?_
 rintro mz _ _ ⟨i, ys, hmeas, g0, g1, g2, rfl, rfl⟩
 refine VS_seq (VS_seq (VS_r0 rfl (q_mv rfl (q_mv rfl (q_len_m rfl (q_lss rfl rfl (rg_nil ?_)))))))
 refine VS_cond rfl (fun c0 => ?_) (fun c0 => ?_)
 ·try simp at c0
  refine VS_skip (VS_seq (VS_block (VS_r2 [none, some ⟨25, 3, [.agg [.pv (ints (keysR xs)), .nils, ownD 2 (dI ys)]]⟩] hmix (SubL.sub (by repeat constructor)) (q_fld_r rfl (q_load_o rfl rfl rfl rfl rfl (q_mv rfl (q_mv rfl (q_idx_m (f := pairP) (xs := xs) (n := (i : Int)) rfl rfl (by omega) (by omega) (fun _ => rfl) (q_fld_c rfl rfl (q_load_c rfl rfl rfl (q_lit (xs := [i64 (nth xs i).2]) rfl rfl rfl rfl (q_app_dm (xs := ys) (ys := [(nth xs i).2]) (f := fun k => .pv (i64 k)) rfl rfl rfl rfl ⟨by simp; omega, by simp; omega⟩ (SubL.sub (by repeat constructor)) (q_fld_r rfl (q_last (q_storeF rfl rfl rfl rfl rfl (by (simp; done)) trivial ?_)))))))))))))))
  refine rg_nil (VS_r0 rfl (q_mv rfl (q_add rfl rfl (inR64 (by omega)) (q_mv rfl (rg_nil ?_)))))
  refine Bd.renL [0, 1, 3] (zbc _) (by simp) [(0, .pv (prs xs)), (2, .ptr 0 0 0), (3, .ptr 1 0 0), (4, .pv (i64 (i + 1)))] ⟨rfl, rfl, rfl, rfl, trivial⟩ (l3 rfl (congrArg (fun z => some (⟨25, 3, [.agg [.pv (ints (keysR xs)), .nils, z]]⟩ : Ob)) (mp1_own rfl)) (obD_mI _)) ⟨_, ?_, i + 1, ys ++ [(nth xs i).2], rfl, ?_, ?_, ?_, rfl, rfl⟩
  ·omega
  ·omega
  ·rw [g1, take_succ_nth (by omega)]; simp
  ·simp; omega
 ·try simp at c0
  refine VS_exit (VS_seq ?_)
  refine VS_bd (Bd.frzF 2 1 0 2 3 1 (xs := dI ys) (by decide) rfl (toPVs_dI _) rfl rfl rfl ?_)
  refine VS_r0 rfl (q_load_ra rfl rfl rfl rfl rfl (by (simp; done)) rfl (q_store rfl rfl rfl rfl rfl rfl ⟨rfl, rfl, by simp, rfl, by simp [isOne]⟩ rfl trivial (rg_nil (VS_ret ?_))))
  have e : i = xs.length := by omega
  rw [e, List.take_length] at g1
  exact Bd.now ⟨_, rfl, by rw [leafG, g1]; rfl⟩
theorem sl_spec_innerOf : slimF prog 95 = some (9, (.seq (.reg 0 (.o 1 (.box 88 2 (.t 0)) (.o 2 (.alloc 25 3 (.agg [.nils, .nils, .nils])) .nil))) (.seq (.reg 0 (.o 3 (.fld 0 1 false (.t 1)) (.o 4 (.load 1 false (.t 3)) (.o 5 (.fld 1 1 false (.t 1)) (.o 6 (.load 1 false (.t 5)) (.o 7 (.lit 3 1 0 [.pv (.int .i64 0)] []) (.o 8 (.build [.nils, .nils, .nils] [(0, (1, .t 4)), (1, (1, .t 6)), (2, (1, .t 7))]) (.op ⟨none, none, .store 3 (.t 2) (.t 8)⟩ .nil)))))))) .ret), [.c 2 3])) := by kernel_rfl
theorem c_spec_innerOf (ks cs : List Int) : PCon prog 95 [innP ks cs] (fun p => p = pgP ⟨ks, cs, []⟩) := by
 refine con_of_VS sl_spec_innerOf (by simp) (VS_seq (VS_r0 rfl (q_box rfl rfl rfl trivial (q_alloc trivial (rg_nil (VS_seq (VS_r0 rfl (q_fld_r rfl (q_load_r rfl rfl rfl rfl rfl rfl rfl (q_fld_r rfl (q_load_r rfl rfl rfl rfl rfl rfl rfl (q_lit0 (q_build rfl (q_store rfl rfl rfl rfl rfl rfl ⟨rfl, rfl, by simp, rfl, by simp [isOne]⟩ rfl trivial (rg_nil ?_)))))))))))))))
 refine VS_ret ?_
 exact Bd.now ⟨_, rfl, rfl⟩
theorem sl_spec_load : slimF prog 64 [(35, 6)] = some (184, (.seq (.reg 0 (.o 2 (.alloc 39 2 (.agg [.pv (.int .i64 0), .nils])) .nil)) (.seq (.reg 0 (.o 16 (.mv (.t 0)) (.o 17 (.len (.t 16)) (.o 18 (.bin .add (.t 17) (.c (.pv (.int .i64 4)))) (.o 19 (.bin .sub (.t 18) (.c (.pv (.int .i64 1)))) (.o 20 (.bin .quo (.t 19) (.c (.pv (.int .i64 4)))) (.o 21 (.mx (.c (.pv (.int .i64 1))) (.t 20)) (.o 3 (.mv (.t 21)) .nil)))))))) (.seq (.reg 0 (.o 22 (.lit 25 3 0 [.nils, .nils, .nils] []) (.o 4 (.mv (.t 22)) .nil))) (.seq (.reg 0 (.o 5 (.mv (.c (.pv (.int .i64 0)))) .nil)) (.seq (.seq (.reg 0 (.o 6 (.mv (.c (.pv (.int .i64 0)))) .nil)) (.block 0 (.loop (.seq (.seq (.reg 0 (.o 23 (.mv (.t 6)) (.o 24 (.mv (.t 3)) (.o 25 (.bin .lss (.t 23) (.t 24)) .nil)))) (.cond (.t 25) .skip (.exit 0))) (.seq (.block 1 (.seq (.reg 0 (.o 28 (.mv (.t 0)) (.o 29 (.len (.t 28)) (.o 30 (.mv (.t 3)) (.o 31 (.mv (.t 6)) (.o 32 (.call 93 [.t 29, .t 30, .t 31]) (.o 7 (.mv (.t 32)) .nil))))))) (.seq (.reg 0 (.o 33 (.mv (.t 4)) (.o 34 (.mv (.t 0)) (.o 35 (.mv (.t 5)) (.o 36 (.mv (.t 5)) (.o 37 (.mv (.t 7)) (.o 38 (.bin .add (.t 36) (.t 37)) (.o 39 (.slc 2 (.t 34) (some (.t 35)) (some (.t 38))) (.o 40 (.call 94 [.t 39]) (.o 41 (.lit 25 3 1 [.nils, .nils, .nils] [(0, .t 40)]) (.o 42 (.app 25 3 72 (.t 33) (.t 41)) (.o 4 (.mv (.t 42)) .nil)))))))))))) (.reg 0 (.o 43 (.mv (.t 5)) (.o 44 (.mv (.t 7)) (.o 45 (.bin .add (.t 43) (.t 44)) (.o 5 (.mv (.t 45)) .nil)))))))) (.reg 0 (.o 26 (.mv (.t 6)) (.o 27 (.bin .add (.t 26) (.c (.pv (.int .i64 1)))) (.o 6 (.mv (.t 27)) .nil))))))))) (.seq (.seq (.reg 0 (.o 46 (.mv (.t 3)) (.o 47 (.bin .eql (.t 46) (.c (.pv (.int .i64 1)))) .nil))) (.cond (.t 47) (.seq (.reg 0 (.o 48 (.mv (.t 4)) (.o 49 (.build [.pv (.int .i64 0), .nils] [(1, (1, .t 48))]) (.op ⟨none, none, .store 2 (.t 2) (.t 49)⟩ .nil)))) .ret) .skip)) (.seq (.seq (.reg 0 (.o 50 (.mv (.t 3)) (.o 51 (.bin .leq (.t 50) (.c (.pv (.int .i64 5)))) .nil))) (.cond (.t 51) (.seq (.reg 0 (.o 52 (.lit 3 1 0 [.pv (.int .i64 0)] []) (.o 53 (.lit 3 1 0 [.pv (.int .i64 0)] []) (.o 54 (.build [.nils, .nils] [(0, (1, .t 52)), (1, (1, .t 53))]) (.o 8 (.alloc 88 2 (.agg [.nils, .nils])) (.op ⟨none, none, .store 2 (.t 8) (.t 54)⟩ .nil)))))) (.seq (.seq (.reg 0 (.o 9 (.mv (.c (.pv (.int .i64 0)))) .nil)) (.block 2 (.loop (.seq (.seq (.reg 0 (.o 55 (.mv (.t 9)) (.o 56 (.mv (.t 3)) (.o 57 (.bin .lss (.t 55) (.t 56)) .nil)))) (.cond (.t 57) .skip (.exit 2))) (.seq (.block 3 (.seq (.seq (.reg 0 (.o 60 (.mv (.t 9)) (.o 61 (.bin .gtr (.t 60) (.c (.pv (.int .i64 0)))) .nil))) (.cond (.t 61) (.reg 2 (.o 62 (.fld 0 1 false (.t 8)) (.o 63 (.load 1 false (.t 62)) (.o 64 (.mv (.t 4)) (.o 65 (.mv (.t 9)) (.o 66 (.idx 3 (.t 64) (.t 65)) (.o 67 (.fld 0 1 false (.t 66)) (.o 68 (.load 1 false (.t 67)) (.o 69 (.idx 1 (.t 68) (.c (.pv (.int .i64 0)))) (.o 70 (.load 1 false (.t 69)) (.o 71 (.lit 3 1 1 [.pv (.int .i64 0)] [(0, .t 70)]) (.o 72 (.app 3 1 8 (.t 63) (.t 71)) (.o 73 (.fld 0 1 false (.t 8)) (.last ⟨none, none, .store 1 (.t 73) (.t 72)⟩)))))))))))))) .skip)) (.reg 0 (.o 74 (.fld 1 1 false (.t 8)) (.o 75 (.load 1 false (.t 74)) (.o 76 (.mv (.t 9)) (.o 77 (.bin .add (.t 76) (.c (.pv (.int .i64 1)))) (.o 78 (.lit 3 1 1 [.pv (.int .i64 0)] [(0, .t 77)]) (.o 79 (.app 3 1 8 (.t 75) (.t 78)) (.o 80 (.fld 1 1 false (.t 8)) (.op ⟨none, none, .store 1 (.t 80) (.t 79)⟩ .nil))))))))))) (.reg 0 (.o 58 (.mv (.t 9)) (.o 59 (.bin .add (.t 58) (.c (.pv (.int .i64 1)))) (.o 9 (.mv (.t 59)) .nil))))))))) (.seq (.reg 0 (.o 81 (.load 2 true (.t 8)) (.o 82 (.call 95 [.t 81]) (.o 83 (.lit 25 3 1 [.nils, .nils, .nils] [(0, .t 82)]) (.o 84 (.mv (.t 4)) (.o 85 (.app 25 3 72 (.t 83) (.t 84)) (.o 86 (.build [.pv (.int .i64 0), .nils] [(1, (1, .t 85))]) (.op ⟨none, none, .store 2 (.t 2) (.t 86)⟩ .nil)))))))) .ret))) .skip)) (.seq (.reg 0 (.o 87 (.mv (.t 3)) (.o 88 (.bin .quo (.t 87) (.c (.pv (.int .i64 2)))) (.o 10 (.mv (.t 88)) .nil)))) (.seq (.reg 0 (.o 89 (.lit 3 1 0 [.pv (.int .i64 0)] []) (.o 90 (.lit 3 1 0 [.pv (.int .i64 0)] []) (.o 91 (.build [.nils, .nils] [(0, (1, .t 89)), (1, (1, .t 90))]) (.o 11 (.alloc 88 2 (.agg [.nils, .nils])) (.op ⟨none, none, .store 2 (.t 11) (.t 91)⟩ .nil)))))) (.seq (.reg 0 (.o 92 (.lit 3 1 0 [.pv (.int .i64 0)] []) (.o 93 (.lit 3 1 0 [.pv (.int .i64 0)] []) (.o 94 (.build [.nils, .nils] [(0, (1, .t 92)), (1, (1, .t 93))]) (.o 12 (.alloc 88 2 (.agg [.nils, .nils])) (.op ⟨none, none, .store 2 (.t 12) (.t 94)⟩ .nil)))))) (.seq (.seq (.reg 0 (.o 13 (.mv (.c (.pv (.int .i64 0)))) .nil)) (.block 4 (.loop (.seq (.seq (.reg 0 (.o 95 (.mv (.t 13)) (.o 96 (.mv (.t 3)) (.o 97 (.bin .lss (.t 95) (.t 96)) .nil)))) (.cond (.t 97) .skip (.exit 4))) (.seq (.block 5 (.seq (.seq (.reg 0 (.o 100 (.mv (.t 13)) (.o 101 (.mv (.t 10)) (.o 102 (.bin .lss (.t 100) (.t 101)) .nil)))) (.cond (.t 102) (.reg 0 (.o 103 (.fld 1 1 false (.t 11)) (.o 104 (.load 1 false (.t 103)) (.o 105 (.mv (.t 13)) (.o 106 (.bin .add (.c (.pv (.int .i64 2))) (.t 105)) (.o 107 (.lit 3 1 1 [.pv (.int .i64 0)] [(0, .t 106)]) (.o 108 (.app 3 1 8 (.t 104) (.t 107)) (.o 109 (.fld 1 1 false (.t 11)) (.op ⟨none, none, .store 1 (.t 109) (.t 108)⟩ .nil))))))))) (.reg 0 (.o 110 (.fld 1 1 false (.t 12)) (.o 111 (.load 1 false (.t 110)) (.o 112 (.mv (.t 13)) (.o 113 (.bin .add (.c (.pv (.int .i64 3))) (.t 112)) (.o 114 (.lit 3 1 1 [.pv (.int .i64 0)] [(0, .t 113)]) (.o 115 (.app 3 1 8 (.t 111) (.t 114)) (.o 116 (.fld 1 1 false (.t 12)) (.op ⟨none, none, .store 1 (.t 116) (.t 115)⟩ .nil))))))))))) (.seq (.seq (.reg 0 (.o 117 (.mv (.t 13)) (.o 118 (.bin .gtr (.t 117) (.c (.pv (.int .i64 0)))) (.o 119 (.mv (.t 118)) (.g 120 119 true (.mv (.t 13)) (.g 121 119 true (.mv (.t 10)) (.g 122 119 true (.bin .lss (.t 120) (.t 121)) (.o 123 (.pick (.t 119) (.t 122) (.c (.pv (.bool false)))) .nil)))))))) (.cond (.t 123) (.reg 2 (.o 124 (.fld 0 1 false (.t 11)) (.o 125 (.load 1 false (.t 124)) (.o 126 (.mv (.t 4)) (.o 127 (.mv (.t 13)) (.o 128 (.idx 3 (.t 126) (.t 127)) (.o 129 (.fld 0 1 false (.t 128)) (.o 130 (.load 1 false (.t 129)) (.o 131 (.idx 1 (.t 130) (.c (.pv (.int .i64 0)))) (.o 132 (.load 1 false (.t 131)) (.o 133 (.lit 3 1 1 [.pv (.int .i64 0)] [(0, .t 132)]) (.o 134 (.app 3 1 8 (.t 125) (.t 133)) (.o 135 (.fld 0 1 false (.t 11)) (.last ⟨none, none, .store 1 (.t 135) (.t 134)⟩)))))))))))))) .skip)) (.seq (.reg 0 (.o 136 (.mv (.t 13)) (.o 137 (.mv (.t 10)) (.o 138 (.bin .gtr (.t 136) (.t 137)) .nil)))) (.cond (.t 138) (.reg 2 (.o 139 (.fld 0 1 false (.t 12)) (.o 140 (.load 1 false (.t 139)) (.o 141 (.mv (.t 4)) (.o 142 (.mv (.t 13)) (.o 143 (.idx 3 (.t 141) (.t 142)) (.o 144 (.fld 0 1 false (.t 143)) (.o 145 (.load 1 false (.t 144)) (.o 146 (.idx 1 (.t 145) (.c (.pv (.int .i64 0)))) (.o 147 (.load 1 false (.t 146)) (.o 148 (.lit 3 1 1 [.pv (.int .i64 0)] [(0, .t 147)]) (.o 149 (.app 3 1 8 (.t 140) (.t 148)) (.o 150 (.fld 0 1 false (.t 12)) (.last ⟨none, none, .store 1 (.t 150) (.t 149)⟩)))))))))))))) .skip))))) (.reg 0 (.o 98 (.mv (.t 13)) (.o 99 (.bin .add (.t 98) (.c (.pv (.int .i64 1)))) (.o 13 (.mv (.t 99)) .nil))))))))) (.seq (.reg 0 (.o 151 (.mv (.t 4)) (.o 152 (.mv (.t 10)) (.o 153 (.idx 3 (.t 151) (.t 152)) (.o 154 (.fld 0 1 false (.t 153)) (.o 155 (.load 1 false (.t 154)) (.o 156 (.idx 1 (.t 155) (.c (.pv (.int .i64 0)))) (.o 157 (.load 1 false (.t 156)) (.o 158 (.lit 3 1 1 [.pv (.int .i64 0)] [(0, .t 157)]) (.o 159 (.mv (.t 10)) (.o 160 (.bin .add (.c (.pv (.int .i64 2))) (.t 159)) (.o 161 (.lit 3 1 2 [.pv (.int .i64 0)] [(0, .c (.pv (.int .i64 1))), (1, .t 160)]) (.o 162 (.build [.nils, .nils] [(0, (1, .t 158)), (1, (1, .t 161))]) (.o 14 (.alloc 88 2 (.agg [.nils, .nils])) (.op ⟨none, none, .store 2 (.t 14) (.t 162)⟩ .nil))))))))))))))) (.seq (.reg 6 (.o 163 (.load 2 true (.t 14)) (.o 165 (.load 2 true (.t 11)) (.o 164 (.call 95 [.t 163]) (.o 166 (.call 95 [.t 165]) (.o 167 (.lit 25 3 2 [.nils, .nils, .nils] [(0, .t 164), (1, .t 166)]) (.o 15 (.mv (.t 167)) .nil))))))) (.seq (.reg 0 (.o 168 (.mv (.t 15)) (.o 169 (.mv (.t 4)) (.o 170 (.mv (.t 10)) (.o 171 (.slc 3 (.t 169) none (some (.t 170))) (.o 172 (.app 25 3 72 (.t 168) (.t 171)) (.o 15 (.mv (.t 172)) .nil))))))) (.seq (.reg 0 (.o 173 (.mv (.t 15)) (.o 174 (.load 2 true (.t 12)) (.o 175 (.call 95 [.t 174]) (.o 176 (.lit 25 3 1 [.nils, .nils, .nils] [(0, .t 175)]) (.o 177 (.app 25 3 72 (.t 173) (.t 176)) (.o 15 (.mv (.t 177)) .nil))))))) (.seq (.reg 0 (.o 178 (.mv (.t 15)) (.o 179 (.mv (.t 4)) (.o 180 (.mv (.t 10)) (.o 181 (.slc 3 (.t 179) (some (.t 180)) none) (.o 182 (.app 25 3 72 (.t 178) (.t 181)) (.o 183 (.build [.pv (.int .i64 0), .nils] [(1, (1, .t 182))]) (.op ⟨none, none, .store 2 (.t 2) (.t 183)⟩ .nil)))))))) .ret))))))))))))))), [.c 2 2])) := by kernel_rfl
theorem c_spec_load (xs : List (Int × Int)) (hx : xs.length ≤ 24) : CallS prog 64 [.pv (prs xs)] [] (fun d S => ∃ T, d = treeD 0 (loadT xs) ∧ S = obD 25 3 (dG (loadT xs).ps) :: T) := by
 have hn := nlv_le hx
 have hll := lvsP_len (xs := xs)
 refine callS_of_VS sl_spec_load (by simp) (VS_seq (VS_r0 rfl (q_alloc trivial (rg_nil (VS_seq (VS_r0 rfl (q_mv rfl (q_len_m rfl (q_add rfl rfl (inR64 (by omega)) (q_sub rfl rfl (inR64 (by omega)) (q_quo_to (((xs.length + 3) / 4 : Nat) : Int) rfl rfl ⟨by omega, by omega⟩ (by omega) (inR64 (by omega)) (q_mx_to ((nlv xs.length : Nat) : Int) rfl rfl (by simp only [nlv]; omega) (q_mv rfl (rg_nil (VS_seq ?_)))))))))))))))
 refine VS_r0 rfl (q_lit0 (q_mv rfl (rg_nil (VS_seq (VS_r0 rfl (q_mv rfl (rg_nil (VS_seq (VS_seq (VS_r0 rfl (q_mv rfl (rg_nil (VS_block ?_)))))))))))))
 refine VS_bd (Bd.pad ?_)
 refine VS_bd (Bd.keepL [(0, .pv (prs xs)), (2, .ptr 0 0 0), (3, .pv (i64 (nlv xs.length))), (4, ownD 1 (dG ([]))), (5, .pv (i64 0)), (6, .pv (i64 0))] ⟨rfl, rfl, rfl, rfl, rfl, rfl, trivial⟩ ?_)
 refine VS_loop (fun mz E S => ∃ i : Nat, ∃ ps : List Pg, ∃ u : Nat, mz = nlv xs.length - i ∧ (i ≤ nlv xs.length) ∧ (ps = (lvsP xs).take i) ∧ (ps.length = i) ∧ (u = cutAt xs.length (nlv xs.length) i) ∧ E = env [(0, .pv (prs xs)), (2, .ptr 0 0 0), (3, .pv (i64 (nlv xs.length))), (4, ownD 1 (dG ps)), (5, .pv (i64 u)), (6, .pv (i64 i))] ∧ S = [some ⟨39, 2, [.agg [.pv (i64 0), .nils]]⟩, obD 25 3 (dG ps)]) ⟨_, 0, [], 0, rfl, (by omega), rfl, rfl, cut_zero.symm, rfl, rfl⟩ ?_
 rintro mz _ _ ⟨i, ps, u, hmeas, g0, g1, g2, g3, rfl, rfl⟩
 refine VS_seq (VS_seq (VS_r0 rfl (q_mv rfl (q_mv rfl (q_lss rfl rfl (rg_nil ?_))))))
 refine VS_cond rfl (fun c0 => ?_) (fun c0 => ?_)
 ·try simp at c0
  subst g3
  have hc1 := cut_le (m := xs.length) (n := nlv xs.length) (i := i + 1) (by omega) (by omega)
  have hc2 := cut_mono (m := xs.length) (n := nlv xs.length) (i := i)
  refine VS_skip (VS_seq (VS_block (VS_seq (VS_r0 rfl (q_mv rfl (q_len_m rfl (q_mv rfl (q_mv rfl (q_callp (c_spec_share xs.length (nlv xs.length) i hx (by omega) (by omega)) rfl trivial (q_mv rfl (rg_nil (VS_seq (VS_r0 rfl (q_mv rfl (q_mv rfl ?_)))))))))))))))
  refine q_mv rfl (q_mv rfl (q_mv rfl (q_add_to ((cutAt xs.length (nlv xs.length) (i + 1) : Nat) : Int) rfl rfl (by omega) (inR64 (by omega)) (q_slc_m (xs := xs) (f := pairP) (cutAt xs.length (nlv xs.length) i) (cutAt xs.length (nlv xs.length) (i + 1)) rfl rfl rfl ⟨rfl, rfl, by omega, by omega⟩ (fun _ => rfl) (q_callp (c_spec_leafOf (cutP xs (nlv xs.length) i) (by rw [cutP_len (by omega)]; omega)) rfl trivial (q_lit (xs := [pgP (leafG (cutP xs (nlv xs.length) i))]) rfl rfl rfl rfl (q_app_dm (xs := ps) (ys := [leafG (cutP xs (nlv xs.length) i)]) (f := fun p => .pv (pgP p)) rfl rfl rfl rfl ⟨by simp; omega, by simp; omega⟩ trivial (q_mv rfl (rg_nil (VS_r0 rfl (q_mv rfl (q_mv rfl (q_add_to ((cutAt xs.length (nlv xs.length) (i + 1) : Nat) : Int) rfl rfl (by omega) (inR64 (by omega)) (q_mv rfl (rg_nil ?_)))))))))))))))
  refine VS_r0 rfl (q_mv rfl (q_add rfl rfl (inR64 (by omega)) (q_mv rfl (rg_nil ?_))))
  refine Bd.renL [0, 2] (zbc _) (by simp) [(0, .pv (prs xs)), (2, .ptr 0 0 0), (3, .pv (i64 (nlv xs.length))), (4, ownD 1 (dG (ps ++ [leafG (cutP xs (nlv xs.length) i)]))), (5, .pv (i64 (cutAt xs.length (nlv xs.length) (i + 1)))), (6, .pv (i64 (i + 1)))] ⟨rfl, rfl, rfl, inv_own rfl, rfl, rfl, trivial⟩ (l2 rfl (obD_mG _)) ⟨_, ?_, i + 1, ps ++ [leafG (cutP xs (nlv xs.length) i)], cutAt xs.length (nlv xs.length) (i + 1), rfl, ?_, ?_, ?_, ?_, rfl, rfl⟩
  ·omega
  ·omega
  ·rw [lvs_step (by omega), g1]
  ·simp; omega
  ·rfl
 ·try simp at c0
  refine VS_exit (VS_seq (VS_seq (VS_r0 rfl (q_mv rfl (q_eql rfl rfl (rg_nil ?_))))))
  refine VS_cond rfl (fun c1 => ?_) (fun c1 => ?_)
  ·try simp at c1
   have he : i = nlv xs.length := by omega
   have hps : ps = lvsP xs := by rw [g1, he, ← hll, List.take_length]
   refine VS_seq (VS_r0 rfl (q_mv rfl (q_build1 (d := ownD 1 (dG ps)) rfl cellsD_own (q_store rfl rfl rfl rfl rfl rfl ⟨rfl, rfl, by simp, by simp [setAt, isCell_own, isCell_sl, isCell_int, isCell_nils], by simp [isOne]⟩ rfl trivial (rg_nil (VS_ret ?_))))))
   refine Bd.renL [1, 0] (zbc _) (by simp) [(2, .ptr 1 0 0)] ⟨rfl, trivial⟩ (l2 (obD_mG (ty := 25) (sz := 3) (ps)) (congrArg (fun z => some (⟨39, 2, [.agg [.pv (i64 0), z]]⟩ : Ob)) (mp1_own rfl))) ?_
   have hload : loadP xs = ps := by rw [loadP, if_pos (by omega), hps]
   exact ⟨_, rfl, _, by show _ = D.agg [.pv (i64 0), ownD 0 (dG (loadP xs))]; rw [hload], by show _ = obD _ 3 (dG (loadP xs)) :: _; rw [hload]⟩
  ·try simp at c1
   have he : i = nlv xs.length := by omega
   have hps : ps = lvsP xs := by rw [g1, he, ← hll, List.take_length]
   have hpl : ps.length = nlv xs.length := by rw [hps, hll]
   refine VS_bd (Bd.pure 4 1 25 3 (xs := dG ps) rfl rfl (toPVs_dG _) ?_)
   refine VS_bd (Bd.renL [0] (zbc _) (by simp) [(0, .pv (prs xs)), (2, .ptr 0 0 0), (3, .pv (i64 (nlv xs.length))), (4, .pv (pgsP ps))] ⟨rfl, rfl, rfl, rfl, trivial⟩ rfl ?_)
   refine VS_skip (VS_seq (VS_seq (VS_r0 rfl (q_mv rfl (q_leq rfl rfl (rg_nil ?_))))))
   refine VS_cond rfl (fun c2 => ?_) (fun c2 => ?_)
   ·try simp at c2
    refine VS_seq (VS_r0 rfl (q_lit0 (q_lit0 (q_build rfl (q_alloc trivial (q_store rfl rfl rfl rfl rfl rfl ⟨rfl, rfl, by simp, rfl, by simp [isOne]⟩ rfl trivial (rg_nil (VS_seq (VS_seq (VS_r0 rfl (q_mv rfl (rg_nil (VS_block ?_)))))))))))))
    refine VS_bd (Bd.pad ?_)
    refine VS_bd (Bd.pad ?_)
    refine VS_bd (Bd.keepL [(2, .ptr 0 0 0), (3, .pv (i64 (nlv xs.length))), (4, .pv (pgsP ps)), (8, .ptr 1 0 0), (9, .pv (i64 0))] ⟨rfl, rfl, rfl, rfl, rfl, trivial⟩ ?_)
    refine VS_loop (fun mz E S => ∃ i : Nat, ∃ ks : List Int, ∃ cs : List Int, mz = nlv xs.length - i ∧ (i ≤ nlv xs.length) ∧ (ks = (((lvsP xs).take i).drop 1).map fk) ∧ (cs = natI 1 i) ∧ (ks.length ≤ i) ∧ (cs.length = i) ∧ E = env [(2, .ptr 0 0 0), (3, .pv (i64 (nlv xs.length))), (4, .pv (pgsP ps)), (8, .ptr 1 0 0), (9, .pv (i64 i))] ∧ S = [some ⟨39, 2, [.agg [.pv (i64 0), .nils]]⟩, some ⟨88, 2, [.agg [ownD 2 (dI ks), ownD 3 (dI cs)]]⟩, obD 3 1 (dI ks), obD 3 1 (dI cs)]) ⟨_, 0, [], [], rfl, (by omega), rfl, rfl, (Nat.le_refl _), rfl, rfl, rfl⟩ ?_
    rintro mz _ _ ⟨i, ks, cs, hmeas, k0, k1, k2, k3, k4, rfl, rfl⟩
    refine VS_seq (VS_seq (VS_r0 rfl (q_mv rfl (q_mv rfl (q_lss rfl rfl (rg_nil ?_))))))
    refine VS_cond rfl (fun c3 => ?_) (fun c3 => ?_)
    ·try simp at c3
     refine VS_skip (VS_seq (VS_block (VS_seq (VS_seq (VS_r0 rfl (q_mv rfl (q_gtr rfl rfl (rg_nil ?_))))))))
     refine VS_cond rfl (fun c4 => ?_) (fun c4 => ?_)
     ·try simp at c4
      have hks0 : 0 < (nth ps i).ks.length := by rw [hps]; exact lvs_ks hx (by omega) (by omega)
      refine VS_r2 [none, some ⟨88, 2, [.agg [ownD 2 (dI ks), ownD 3 (dI cs)]]⟩] hmix (SubL.sub (by repeat constructor)) (q_fld_r rfl (q_load_o rfl rfl rfl rfl rfl (q_mv rfl (q_mv rfl (q_idx_m (f := pgP) (xs := ps) (n := (i : Int)) rfl rfl (by omega) (by omega) (fun _ => rfl) (q_fld_c rfl rfl (q_load_c rfl rfl rfl (q_idx_m (f := fun k => i64 k) (xs := (nth ps i).ks) (n := 0) rfl rfl (by omega) (by omega) (fun _ => rfl) (q_load_c rfl rfl rfl (q_lit (xs := [i64 (fk (nth ps i))]) rfl rfl rfl rfl (q_app_dm (xs := ks) (ys := [fk (nth ps i)]) (f := fun k => .pv (i64 k)) rfl rfl rfl rfl ⟨by simp; omega, by simp; omega⟩ (SubL.sub (by repeat constructor)) (q_fld_r rfl (q_last (q_storeF rfl rfl rfl rfl rfl (by (simp; done)) trivial (rg_nil ?_)))))))))))))))
      refine VS_r0 rfl (q_fld_r rfl (q_load_o rfl rfl rfl rfl rfl (q_mv rfl (q_add rfl rfl (inR64 (by omega)) (q_lit (xs := [i64 ((i : Int) + 1)]) rfl rfl rfl rfl (q_app_dm (xs := cs) (ys := [(i : Int) + 1]) (f := fun k => .pv (i64 k)) rfl rfl rfl rfl ⟨by simp; omega, by simp; omega⟩ trivial (q_fld_r rfl (q_storeF rfl rfl rfl rfl rfl (by (simp [setAt]; done)) trivial (rg_nil (VS_r0 rfl (q_mv rfl (q_add rfl rfl (inR64 (by omega)) (q_mv rfl (rg_nil ?_))))))))))))))
      refine Bd.renL [0, 1, 4, 5] (zbc _) (by simp) [(2, .ptr 0 0 0), (3, .pv (i64 (nlv xs.length))), (4, .pv (pgsP ps)), (8, .ptr 1 0 0), (9, .pv (i64 (i + 1)))] ⟨rfl, rfl, rfl, rfl, rfl, trivial⟩ (l4 rfl (in2 rfl rfl) (obD_mI _) (obD_mI _)) ⟨_, ?_, i + 1, ks ++ [fk (nth ps i)], cs ++ [(i : Int) + 1], rfl, ?_, ?_, ?_, ?_, ?_, rfl, rfl⟩
      ·omega
      ·omega
      ·rw [lvs_keys (by omega) (by omega), k1, hps]
      ·rw [natI_succ, k2]; congr 2; omega
      ·simp; omega
      ·simp; omega
     ·try simp at c4
      refine VS_skip (VS_r0 rfl (q_fld_r rfl (q_load_o rfl rfl rfl rfl rfl (q_mv rfl (q_add rfl rfl (inR64 (by omega)) (q_lit (xs := [i64 ((i : Int) + 1)]) rfl rfl rfl rfl (q_app_dm (xs := cs) (ys := [(i : Int) + 1]) (f := fun k => .pv (i64 k)) rfl rfl rfl rfl ⟨by simp; omega, by simp; omega⟩ trivial (q_fld_r rfl (q_storeF rfl rfl rfl rfl rfl (by (simp; done)) trivial (rg_nil (VS_r0 rfl (q_mv rfl (q_add rfl rfl (inR64 (by omega)) (q_mv rfl (rg_nil ?_)))))))))))))))
      refine Bd.renL [0, 1, 2, 4] (zbc _) (by simp) [(2, .ptr 0 0 0), (3, .pv (i64 (nlv xs.length))), (4, .pv (pgsP ps)), (8, .ptr 1 0 0), (9, .pv (i64 (i + 1)))] ⟨rfl, rfl, rfl, rfl, rfl, trivial⟩ (l4 rfl (in2 rfl rfl) (obD_mI _) (obD_mI _)) ⟨_, ?_, i + 1, ks, cs ++ [(i : Int) + 1], rfl, ?_, ?_, ?_, ?_, ?_, rfl, rfl⟩
      ·omega
      ·omega
      ·obtain rfl : i = 0 := by omega
       rw [k1]
       cases lvsP xs <;> rfl
      ·rw [natI_succ, k2]; congr 2; omega
      ·omega
      ·simp; omega
    ·try simp at c3
     refine VS_exit (VS_seq ?_)
     refine VS_bd (Bd.frzF 2 1 0 0 3 1 (xs := dI ks) (by decide) rfl (toPVs_dI _) rfl rfl rfl ?_)
     refine VS_bd (Bd.frzF 3 1 0 1 3 1 (xs := dI cs) (by decide) rfl (toPVs_dI _) rfl rfl rfl ?_)
     refine VS_r0 rfl (q_load_ra rfl rfl rfl rfl rfl (by (simp; done)) rfl (q_callp (c_spec_innerOf ks cs) rfl trivial (q_lito (xs := [pgP ⟨ks, cs, []⟩]) rfl rfl rfl rfl (q_mv rfl (q_app_dm (xs := [(⟨ks, cs, []⟩ : Pg)]) (ys := ps) (f := fun p => .pv (pgP p)) rfl (elems_G _) (cell_G _) rfl ⟨by simp; omega, by simp; omega⟩ trivial (q_build1 (d := ownD 5 (dG ([(⟨ks, cs, []⟩ : Pg)] ++ ps))) rfl cellsD_own (q_store rfl rfl rfl rfl rfl rfl ⟨rfl, rfl, by simp, rfl, by simp [isOne]⟩ rfl trivial (rg_nil (VS_ret ?_)))))))))
     have hi2 : i = nlv xs.length := by omega
     rw [hi2, ← hll, List.take_length] at k1
     rw [hi2] at k2
     refine Bd.renL [5, 0] (zbc _) (by simp) [(2, .ptr 1 0 0)] ⟨rfl, trivial⟩ (l2 (obD_mG (ty := 25) (sz := 3) ([(⟨ks, cs, []⟩ : Pg)] ++ ps)) (congrArg (fun z => some (⟨39, 2, [.agg [.pv (i64 0), z]]⟩ : Ob)) (mp1_own rfl))) ?_
     have hload : loadP xs = [(⟨ks, cs, []⟩ : Pg)] ++ ps := by rw [loadP, if_neg (by omega), if_pos (by omega), ← k1, ← k2, hps]; rfl
     exact ⟨_, rfl, _, by show _ = D.agg [.pv (i64 0), ownD 0 (dG (loadP xs))]; rw [hload], by show _ = obD _ 3 (dG (loadP xs)) :: _; rw [hload]⟩
   ·try simp at c2
    have h6 : nlv xs.length = 6 := by omega
    have h3 : (nlv xs.length / 2) = 3 := by omega
    refine VS_skip (VS_seq (VS_r0 rfl (q_mv rfl (q_quo_to (((nlv xs.length / 2) : Nat) : Int) rfl rfl ⟨by omega, by omega⟩ (by omega) (inR64 (by omega)) (q_mv rfl (rg_nil (VS_seq (VS_r0 rfl (q_lit0 (q_lit0 (q_build rfl (q_alloc trivial (q_store rfl rfl rfl rfl rfl rfl ⟨rfl, rfl, by simp, rfl, by simp [isOne]⟩ rfl trivial (rg_nil (VS_seq ?_)))))))))))))))
    refine VS_r0 rfl (q_lit0 (q_lit0 (q_build rfl (q_alloc trivial (q_store rfl rfl rfl rfl rfl rfl ⟨rfl, rfl, by simp, rfl, by simp [isOne]⟩ rfl trivial (rg_nil (VS_seq (VS_seq (VS_r0 rfl (q_mv rfl (rg_nil (VS_block ?_))))))))))))
    refine VS_bd (Bd.pad ?_)
    refine VS_bd (Bd.pad ?_)
    refine VS_bd (Bd.pad ?_)
    refine VS_bd (Bd.pad ?_)
    refine VS_bd (Bd.keepL [(2, .ptr 0 0 0), (3, .pv (i64 (nlv xs.length))), (4, .pv (pgsP ps)), (10, .pv (i64 (nlv xs.length / 2))), (11, .ptr 1 0 0), (12, .ptr 2 0 0), (13, .pv (i64 0))] ⟨rfl, rfl, rfl, rfl, rfl, rfl, rfl, trivial⟩ ?_)
    refine VS_loop (fun mz E S => ∃ i : Nat, ∃ ka : List Int, ∃ ca : List Int, ∃ kb : List Int, ∃ cb : List Int, mz = nlv xs.length - i ∧ (i ≤ nlv xs.length) ∧ (ka = ((ps.take (min i 3)).drop 1).map fk) ∧ (ca = natI 2 (min i 3)) ∧ (kb = ((ps.take i).drop 4).map fk) ∧ (cb = natI 6 (i - 3)) ∧ (ka.length ≤ i ∧ ca.length ≤ i ∧ kb.length ≤ i ∧ cb.length ≤ i) ∧ E = env [(2, .ptr 0 0 0), (3, .pv (i64 (nlv xs.length))), (4, .pv (pgsP ps)), (10, .pv (i64 (nlv xs.length / 2))), (11, .ptr 1 0 0), (12, .ptr 2 0 0), (13, .pv (i64 i))] ∧ S = [some ⟨39, 2, [.agg [.pv (i64 0), .nils]]⟩, some ⟨88, 2, [.agg [ownD 3 (dI ka), ownD 4 (dI ca)]]⟩, some ⟨88, 2, [.agg [ownD 5 (dI kb), ownD 6 (dI cb)]]⟩, obD 3 1 (dI ka), obD 3 1 (dI ca), obD 3 1 (dI kb), obD 3 1 (dI cb)]) ⟨_, 0, [], [], [], [], rfl, (by omega), (by simp), rfl, (by simp), rfl, ⟨Nat.le_refl _, Nat.le_refl _, Nat.le_refl _, Nat.le_refl _⟩, rfl, rfl⟩ ?_
    rintro mz _ _ ⟨i, ka, ca, kb, cb, hmeas, m0, m1, m2, m3, m4, m5, rfl, rfl⟩
    refine VS_seq (VS_seq (VS_r0 rfl (q_mv rfl (q_mv rfl (q_lss rfl rfl (rg_nil ?_))))))
    refine VS_cond rfl (fun c5 => ?_) (fun c5 => ?_)
    ·try simp at c5
     refine VS_skip (VS_seq (VS_block (VS_seq (VS_seq (VS_r0 rfl (q_mv rfl (q_mv rfl (q_lss rfl rfl (rg_nil ?_)))))))))
     refine VS_cond rfl (fun c6 => ?_) (fun c6 => ?_)
     ·try simp at c6
      refine VS_r0 rfl (q_fld_r rfl (q_load_o rfl rfl rfl rfl rfl (q_mv rfl (q_add rfl rfl (inR64 (by omega)) (q_lit (xs := [i64 (2 + (i : Int))]) rfl rfl rfl rfl (q_app_dm (xs := ca) (ys := [2 + (i : Int)]) (f := fun k => .pv (i64 k)) rfl rfl rfl rfl ⟨by simp; omega, by simp; omega⟩ trivial (q_fld_r rfl (q_storeF rfl rfl rfl rfl rfl (by (simp; done)) trivial (rg_nil (VS_seq (VS_seq (VS_r0 rfl (q_mv rfl (q_gtr rfl rfl (q_mv rfl ?_)))))))))))))))
      refine q_b rfl (fun g119 => ?_) (fun g119 => ?_)
      ·try simp at g119
       refine q_t rfl (q_mv rfl (q_t rfl (q_mv rfl (q_t rfl (q_lss rfl rfl (q_pick_t rfl rfl (rg_nil ?_)))))))
       refine VS_cond rfl (fun c7 => ?_) (fun c7 => ?_)
       ·try simp at c7
        have hks1 : 0 < (nth ps i).ks.length := by rw [hps]; exact lvs_ks hx (by omega) (by omega)
        refine VS_r2 [none, some ⟨88, 2, [.agg [ownD 3 (dI ka), ownD 7 (dI (ca ++ [2 + (i : Int)]))]]⟩] hmix (SubL.sub (by repeat constructor)) (q_fld_r rfl (q_load_o rfl rfl rfl rfl rfl (q_mv rfl (q_mv rfl (q_idx_m (f := pgP) (xs := ps) (n := (i : Int)) rfl rfl (by omega) (by omega) (fun _ => rfl) (q_fld_c rfl rfl (q_load_c rfl rfl rfl (q_idx_m (f := fun k => i64 k) (xs := (nth ps i).ks) (n := 0) rfl rfl (by omega) (by omega) (fun _ => rfl) (q_load_c rfl rfl rfl (q_lit (xs := [i64 (fk (nth ps i))]) rfl rfl rfl rfl (q_app_dm (xs := ka) (ys := [fk (nth ps i)]) (f := fun k => .pv (i64 k)) rfl rfl rfl rfl ⟨by simp; omega, by simp; omega⟩ (SubL.sub (by repeat constructor)) (q_fld_r rfl (q_last (q_storeF rfl rfl rfl rfl rfl (by (simp [setAt]; done)) trivial (rg_nil ?_)))))))))))))))
        refine VS_seq (VS_r0 rfl (q_mv rfl (q_mv rfl (q_gtr rfl rfl (rg_nil ?_)))))
        refine VS_cond rfl (fun c8 => ?_) (fun c8 => ?_)
        ·exfalso; simp at c8; omega
        ·try simp at c8
         refine VS_skip (VS_r0 rfl (q_mv rfl (q_add rfl rfl (inR64 (by omega)) (q_mv rfl (rg_nil ?_)))))
         refine Bd.renL [0, 1, 2, 8, 7, 5, 6] (zbc _) (by simp) [(2, .ptr 0 0 0), (3, .pv (i64 (nlv xs.length))), (4, .pv (pgsP ps)), (10, .pv (i64 (nlv xs.length / 2))), (11, .ptr 1 0 0), (12, .ptr 2 0 0), (13, .pv (i64 (i + 1)))] ⟨rfl, rfl, rfl, rfl, rfl, rfl, rfl, trivial⟩ (l7 rfl (in2 rfl rfl) (in2 rfl rfl) (obD_mI _) (obD_mI _) (obD_mI _) (obD_mI _)) ⟨_, ?_, i + 1, ka ++ [fk (nth ps i)], ca ++ [2 + (i : Int)], kb, cb, rfl, ?_, ?_, ?_, ?_, ?_, ?_, rfl, rfl⟩
         ·omega
         ·omega
         ·rw [m1, show min (i + 1) 3 = i + 1 by omega, show min i 3 = i by omega, keys_drop (by omega) (by omega)]
         ·rw [m2, show min (i + 1) 3 = i + 1 by omega, show min i 3 = i by omega, natI_succ]; rfl
         ·rw [m3, List.drop_of_length_le (by simp; omega), List.drop_of_length_le (by simp; omega)]
         ·rw [m4, show i + 1 - 3 = i - 3 by omega]
         ·simp; omega
       ·try simp at c7
        refine VS_skip (VS_seq (VS_r0 rfl (q_mv rfl (q_mv rfl (q_gtr rfl rfl (rg_nil ?_))))))
        refine VS_cond rfl (fun c8 => ?_) (fun c8 => ?_)
        ·exfalso; simp at c8; omega
        ·try simp at c8
         refine VS_skip (VS_r0 rfl (q_mv rfl (q_add rfl rfl (inR64 (by omega)) (q_mv rfl (rg_nil ?_)))))
         refine Bd.renL [0, 1, 2, 3, 7, 5, 6] (zbc _) (by simp) [(2, .ptr 0 0 0), (3, .pv (i64 (nlv xs.length))), (4, .pv (pgsP ps)), (10, .pv (i64 (nlv xs.length / 2))), (11, .ptr 1 0 0), (12, .ptr 2 0 0), (13, .pv (i64 (i + 1)))] ⟨rfl, rfl, rfl, rfl, rfl, rfl, rfl, trivial⟩ (l7 rfl (in2 rfl rfl) (in2 rfl rfl) (obD_mI _) (obD_mI _) (obD_mI _) (obD_mI _)) ⟨_, ?_, i + 1, ka, ca ++ [2 + (i : Int)], kb, cb, rfl, ?_, ?_, ?_, ?_, ?_, ?_, rfl, rfl⟩
         ·omega
         ·omega
         ·obtain rfl : i = 0 := by omega
          rw [m1]
          cases ps <;> rfl
         ·rw [m2, show min (i + 1) 3 = i + 1 by omega, show min i 3 = i by omega, natI_succ]; rfl
         ·rw [m3, List.drop_of_length_le (by simp; omega), List.drop_of_length_le (by simp; omega)]
         ·rw [m4, show i + 1 - 3 = i - 3 by omega]
         ·simp; omega
      ·try simp at g119
       refine q_f rfl (q_f rfl (q_f rfl (q_pick_f rfl rfl (rg_nil ?_))))
       refine VS_cond rfl (fun e => by cases e) (fun _ => ?_)
       refine VS_skip (VS_seq (VS_r0 rfl (q_mv rfl (q_mv rfl (q_gtr rfl rfl (rg_nil ?_))))))
       refine VS_cond rfl (fun c8 => ?_) (fun c8 => ?_)
       ·exfalso; simp at c8; omega
       ·try simp at c8
        refine VS_skip (VS_r0 rfl (q_mv rfl (q_add rfl rfl (inR64 (by omega)) (q_mv rfl (rg_nil ?_)))))
        refine Bd.renL [0, 1, 2, 3, 7, 5, 6] (zbc _) (by simp) [(2, .ptr 0 0 0), (3, .pv (i64 (nlv xs.length))), (4, .pv (pgsP ps)), (10, .pv (i64 (nlv xs.length / 2))), (11, .ptr 1 0 0), (12, .ptr 2 0 0), (13, .pv (i64 (i + 1)))] ⟨rfl, rfl, rfl, rfl, rfl, rfl, rfl, trivial⟩ (l7 rfl (in2 rfl rfl) (in2 rfl rfl) (obD_mI _) (obD_mI _) (obD_mI _) (obD_mI _)) ⟨_, ?_, i + 1, ka, ca ++ [2 + (i : Int)], kb, cb, rfl, ?_, ?_, ?_, ?_, ?_, ?_, rfl, rfl⟩
        ·omega
        ·omega
        ·obtain rfl : i = 0 := by omega
         rw [m1]
         cases ps <;> rfl
        ·rw [m2, show min (i + 1) 3 = i + 1 by omega, show min i 3 = i by omega, natI_succ]; rfl
        ·rw [m3, List.drop_of_length_le (by simp; omega), List.drop_of_length_le (by simp; omega)]
        ·rw [m4, show i + 1 - 3 = i - 3 by omega]
        ·simp; omega
     ·try simp at c6
      refine VS_r0 rfl (q_fld_r rfl (q_load_o rfl rfl rfl rfl rfl (q_mv rfl (q_add rfl rfl (inR64 (by omega)) (q_lit (xs := [i64 (3 + (i : Int))]) rfl rfl rfl rfl (q_app_dm (xs := cb) (ys := [3 + (i : Int)]) (f := fun k => .pv (i64 k)) rfl rfl rfl rfl ⟨by simp; omega, by simp; omega⟩ trivial (q_fld_r rfl (q_storeF rfl rfl rfl rfl rfl (by (simp; done)) trivial (rg_nil (VS_seq (VS_seq (VS_r0 rfl (q_mv rfl (q_gtr rfl rfl (q_mv rfl ?_)))))))))))))))
      refine q_b rfl (fun g119 => ?_) (fun g119 => ?_)
      ·try simp at g119
       refine q_t rfl (q_mv rfl (q_t rfl (q_mv rfl (q_t rfl (q_lss rfl rfl (q_pick_t rfl rfl (rg_nil ?_)))))))
       refine VS_cond rfl (fun c7 => ?_) (fun c7 => ?_)
       ·exfalso; simp at c7; omega
       ·try simp at c7
        refine VS_skip (VS_seq (VS_r0 rfl (q_mv rfl (q_mv rfl (q_gtr rfl rfl (rg_nil ?_))))))
        refine VS_cond rfl (fun c8 => ?_) (fun c8 => ?_)
        ·try simp at c8
         have hks2 : 0 < (nth ps i).ks.length := by rw [hps]; exact lvs_ks hx (by omega) (by omega)
         refine VS_r2 [none, none, some ⟨88, 2, [.agg [ownD 5 (dI kb), ownD 7 (dI (cb ++ [3 + (i : Int)]))]]⟩] hmix (SubL.sub (by repeat constructor)) (q_fld_r rfl (q_load_o rfl rfl rfl rfl rfl (q_mv rfl (q_mv rfl (q_idx_m (f := pgP) (xs := ps) (n := (i : Int)) rfl rfl (by omega) (by omega) (fun _ => rfl) (q_fld_c rfl rfl (q_load_c rfl rfl rfl (q_idx_m (f := fun k => i64 k) (xs := (nth ps i).ks) (n := 0) rfl rfl (by omega) (by omega) (fun _ => rfl) (q_load_c rfl rfl rfl (q_lit (xs := [i64 (fk (nth ps i))]) rfl rfl rfl rfl (q_app_dm (xs := kb) (ys := [fk (nth ps i)]) (f := fun k => .pv (i64 k)) rfl rfl rfl rfl ⟨by simp; omega, by simp; omega⟩ (SubL.sub (by repeat constructor)) (q_fld_r rfl (q_last (q_storeF rfl rfl rfl rfl rfl (by (simp [setAt]; done)) trivial (rg_nil ?_)))))))))))))))
         refine VS_r0 rfl (q_mv rfl (q_add rfl rfl (inR64 (by omega)) (q_mv rfl (rg_nil ?_))))
         refine Bd.renL [0, 1, 2, 3, 4, 8, 7] (zbc _) (by simp) [(2, .ptr 0 0 0), (3, .pv (i64 (nlv xs.length))), (4, .pv (pgsP ps)), (10, .pv (i64 (nlv xs.length / 2))), (11, .ptr 1 0 0), (12, .ptr 2 0 0), (13, .pv (i64 (i + 1)))] ⟨rfl, rfl, rfl, rfl, rfl, rfl, rfl, trivial⟩ (l7 rfl (in2 rfl rfl) (in2 rfl rfl) (obD_mI _) (obD_mI _) (obD_mI _) (obD_mI _)) ⟨_, ?_, i + 1, ka, ca, kb ++ [fk (nth ps i)], cb ++ [3 + (i : Int)], rfl, ?_, ?_, ?_, ?_, ?_, ?_, rfl, rfl⟩
         ·omega
         ·omega
         ·rw [m1, show min (i + 1) 3 = min i 3 by omega]
         ·rw [m2, show min (i + 1) 3 = min i 3 by omega]
         ·rw [m3, keys_drop (by omega) (by omega)]
         ·rw [m4, show i + 1 - 3 = (i - 3) + 1 by omega, natI_succ]; congr 2; omega
         ·simp; omega
        ·try simp at c8
         refine VS_skip (VS_r0 rfl (q_mv rfl (q_add rfl rfl (inR64 (by omega)) (q_mv rfl (rg_nil ?_)))))
         refine Bd.renL [0, 1, 2, 3, 4, 5, 7] (zbc _) (by simp) [(2, .ptr 0 0 0), (3, .pv (i64 (nlv xs.length))), (4, .pv (pgsP ps)), (10, .pv (i64 (nlv xs.length / 2))), (11, .ptr 1 0 0), (12, .ptr 2 0 0), (13, .pv (i64 (i + 1)))] ⟨rfl, rfl, rfl, rfl, rfl, rfl, rfl, trivial⟩ (l7 rfl (in2 rfl rfl) (in2 rfl rfl) (obD_mI _) (obD_mI _) (obD_mI _) (obD_mI _)) ⟨_, ?_, i + 1, ka, ca, kb, cb ++ [3 + (i : Int)], rfl, ?_, ?_, ?_, ?_, ?_, ?_, rfl, rfl⟩
         ·omega
         ·omega
         ·rw [m1, show min (i + 1) 3 = min i 3 by omega]
         ·rw [m2, show min (i + 1) 3 = min i 3 by omega]
         ·rw [m3, List.drop_of_length_le (by simp; omega), List.drop_of_length_le (by simp; omega)]
         ·rw [m4, show i + 1 - 3 = (i - 3) + 1 by omega, natI_succ]; congr 2; omega
         ·simp; omega
      ·try simp at g119
       refine q_f rfl (q_f rfl (q_f rfl (q_pick_f rfl rfl (rg_nil ?_))))
       refine VS_cond rfl (fun e => by cases e) (fun _ => ?_)
       refine VS_skip (VS_seq (VS_r0 rfl (q_mv rfl (q_mv rfl (q_gtr rfl rfl (rg_nil ?_))))))
       refine VS_cond rfl (fun c8 => ?_) (fun c8 => ?_)
       ·try simp at c8
        have hks2 : 0 < (nth ps i).ks.length := by rw [hps]; exact lvs_ks hx (by omega) (by omega)
        refine VS_r2 [none, none, some ⟨88, 2, [.agg [ownD 5 (dI kb), ownD 7 (dI (cb ++ [3 + (i : Int)]))]]⟩] hmix (SubL.sub (by repeat constructor)) (q_fld_r rfl (q_load_o rfl rfl rfl rfl rfl (q_mv rfl (q_mv rfl (q_idx_m (f := pgP) (xs := ps) (n := (i : Int)) rfl rfl (by omega) (by omega) (fun _ => rfl) (q_fld_c rfl rfl (q_load_c rfl rfl rfl (q_idx_m (f := fun k => i64 k) (xs := (nth ps i).ks) (n := 0) rfl rfl (by omega) (by omega) (fun _ => rfl) (q_load_c rfl rfl rfl (q_lit (xs := [i64 (fk (nth ps i))]) rfl rfl rfl rfl (q_app_dm (xs := kb) (ys := [fk (nth ps i)]) (f := fun k => .pv (i64 k)) rfl rfl rfl rfl ⟨by simp; omega, by simp; omega⟩ (SubL.sub (by repeat constructor)) (q_fld_r rfl (q_last (q_storeF rfl rfl rfl rfl rfl (by (simp [setAt]; done)) trivial (rg_nil ?_)))))))))))))))
        refine VS_r0 rfl (q_mv rfl (q_add rfl rfl (inR64 (by omega)) (q_mv rfl (rg_nil ?_))))
        refine Bd.renL [0, 1, 2, 3, 4, 8, 7] (zbc _) (by simp) [(2, .ptr 0 0 0), (3, .pv (i64 (nlv xs.length))), (4, .pv (pgsP ps)), (10, .pv (i64 (nlv xs.length / 2))), (11, .ptr 1 0 0), (12, .ptr 2 0 0), (13, .pv (i64 (i + 1)))] ⟨rfl, rfl, rfl, rfl, rfl, rfl, rfl, trivial⟩ (l7 rfl (in2 rfl rfl) (in2 rfl rfl) (obD_mI _) (obD_mI _) (obD_mI _) (obD_mI _)) ⟨_, ?_, i + 1, ka, ca, kb ++ [fk (nth ps i)], cb ++ [3 + (i : Int)], rfl, ?_, ?_, ?_, ?_, ?_, ?_, rfl, rfl⟩
        ·omega
        ·omega
        ·rw [m1, show min (i + 1) 3 = min i 3 by omega]
        ·rw [m2, show min (i + 1) 3 = min i 3 by omega]
        ·rw [m3, keys_drop (by omega) (by omega)]
        ·rw [m4, show i + 1 - 3 = (i - 3) + 1 by omega, natI_succ]; congr 2; omega
        ·simp; omega
       ·try simp at c8
        refine VS_skip (VS_r0 rfl (q_mv rfl (q_add rfl rfl (inR64 (by omega)) (q_mv rfl (rg_nil ?_)))))
        refine Bd.renL [0, 1, 2, 3, 4, 5, 7] (zbc _) (by simp) [(2, .ptr 0 0 0), (3, .pv (i64 (nlv xs.length))), (4, .pv (pgsP ps)), (10, .pv (i64 (nlv xs.length / 2))), (11, .ptr 1 0 0), (12, .ptr 2 0 0), (13, .pv (i64 (i + 1)))] ⟨rfl, rfl, rfl, rfl, rfl, rfl, rfl, trivial⟩ (l7 rfl (in2 rfl rfl) (in2 rfl rfl) (obD_mI _) (obD_mI _) (obD_mI _) (obD_mI _)) ⟨_, ?_, i + 1, ka, ca, kb, cb ++ [3 + (i : Int)], rfl, ?_, ?_, ?_, ?_, ?_, ?_, rfl, rfl⟩
        ·omega
        ·omega
        ·rw [m1, show min (i + 1) 3 = min i 3 by omega]
        ·rw [m2, show min (i + 1) 3 = min i 3 by omega]
        ·rw [m3, List.drop_of_length_le (by simp; omega), List.drop_of_length_le (by simp; omega)]
        ·rw [m4, show i + 1 - 3 = (i - 3) + 1 by omega, natI_succ]; congr 2; omega
        ·simp; omega
    ·try simp at c5
     refine VS_exit (VS_seq ?_)
     have hks3 : 0 < (nth ps (nlv xs.length / 2)).ks.length := by rw [hps]; exact lvs_ks hx (by omega) (by omega)
     refine VS_bd (Bd.frzF 3 1 0 0 3 1 (xs := dI ka) (by decide) rfl (toPVs_dI _) rfl rfl rfl ?_)
     refine VS_bd (Bd.frzF 4 1 0 1 3 1 (xs := dI ca) (by decide) rfl (toPVs_dI _) rfl rfl rfl ?_)
     refine VS_bd (Bd.frzF 5 2 0 0 3 1 (xs := dI kb) (by decide) rfl (toPVs_dI _) rfl rfl rfl ?_)
     refine VS_bd (Bd.frzF 6 2 0 1 3 1 (xs := dI cb) (by decide) rfl (toPVs_dI _) rfl rfl rfl ?_)
     refine VS_st [some ⟨39, 2, [.agg [.pv (i64 0), .nils]]⟩, some ⟨88, 2, [.agg [.pv (ints ka), .pv (ints ca)]]⟩, some ⟨88, 2, [.agg [.pv (ints kb), .pv (ints cb)]]⟩, none, none, none, none] rfl (VS_r0 rfl (q_mv rfl (q_mv rfl (q_idx_m (f := pgP) (xs := ps) (n := (((nlv xs.length / 2) : Nat) : Int)) rfl rfl (by omega) (by omega) (fun _ => rfl) (q_fld_c rfl rfl (q_load_c rfl rfl rfl (q_idx_m (f := fun k => i64 k) (xs := (nth ps (nlv xs.length / 2)).ks) (n := 0) rfl rfl (by omega) (by omega) (fun _ => rfl) (q_load_c rfl rfl rfl (q_lit (xs := [i64 (fk (nth ps (nlv xs.length / 2)))]) rfl rfl rfl rfl (q_mv rfl (q_add_to ((2 + (nlv xs.length / 2) : Nat) : Int) rfl rfl (by omega) (inR64 (by omega)) (q_lit (xs := [i64 1, i64 ((2 + (nlv xs.length / 2) : Nat) : Int)]) rfl rfl rfl rfl (q_build rfl (q_alloc trivial (q_store rfl rfl rfl rfl rfl rfl ⟨rfl, rfl, by simp, rfl, by simp [isOne]⟩ rfl trivial ?_)))))))))))))))
     refine rg_nil (VS_seq (VS_r6 _ hmix (Sub.refl _) (q_load_ra rfl rfl rfl rfl rfl (by (simp [setAt]; done)) rfl (q_load_ra rfl rfl rfl rfl rfl (by (simp; done)) rfl (q_callp (c_spec_innerOf [fk (nth ps (nlv xs.length / 2))] [1, ((2 + nlv xs.length / 2 : Nat) : Int)]) rfl (Sub.refl _) (q_callp (c_spec_innerOf ka ca) rfl (Sub.refl _) (q_litx (xs := [pgP (⟨[fk (nth ps (nlv xs.length / 2))], [1, ((2 + nlv xs.length / 2 : Nat) : Int)], []⟩ : Pg), pgP (⟨ka, ca, []⟩ : Pg)]) rfl rfl rfl rfl (Sub.app _ _) (q_mv rfl (rg_nil (VS_seq (VS_r0 rfl (q_mv rfl (q_mv rfl (q_mv rfl (q_slc_m (xs := ps) (f := pgP) 0 (nlv xs.length / 2) rfl rfl rfl ⟨rfl, rfl, by omega, by omega⟩ (fun _ => rfl) ?_)))))))))))))))
     refine q_app_dm (xs := [(⟨[fk (nth ps (nlv xs.length / 2))], [1, ((2 + nlv xs.length / 2 : Nat) : Int)], []⟩ : Pg), (⟨ka, ca, []⟩ : Pg)]) (ys := (ps.take (nlv xs.length / 2)).drop 0) (f := fun p => .pv (pgP p)) rfl (elems_G _) (cell_G _) rfl ⟨by simp; omega, by simp; omega⟩ trivial (q_mv rfl (rg_nil (VS_seq (VS_r0 rfl (q_mv rfl (q_load_ra rfl rfl rfl rfl rfl (by (simp; done)) rfl (q_callp (c_spec_innerOf kb cb) rfl trivial (q_lit (xs := [pgP (⟨kb, cb, []⟩ : Pg)]) rfl rfl rfl rfl (q_app_dm (xs := [(⟨[fk (nth ps (nlv xs.length / 2))], [1, ((2 + nlv xs.length / 2 : Nat) : Int)], []⟩ : Pg), (⟨ka, ca, []⟩ : Pg)] ++ (ps.take (nlv xs.length / 2)).drop 0) (ys := [(⟨kb, cb, []⟩ : Pg)]) (f := fun p => .pv (pgP p)) rfl rfl rfl rfl ⟨by simp; omega, by simp; omega⟩ trivial (q_mv rfl (rg_nil (VS_seq (VS_r0 rfl (q_mv rfl (q_mv rfl ?_)))))))))))))))
     refine q_mv rfl (q_slc_m (xs := ps) (f := pgP) (nlv xs.length / 2) ps.length rfl rfl rfl ⟨rfl, by simp, by omega, by omega⟩ (fun _ => rfl) (q_app_dm (xs := [(⟨[fk (nth ps (nlv xs.length / 2))], [1, ((2 + nlv xs.length / 2 : Nat) : Int)], []⟩ : Pg), (⟨ka, ca, []⟩ : Pg)] ++ (ps.take (nlv xs.length / 2)).drop 0 ++ [(⟨kb, cb, []⟩ : Pg)]) (ys := (ps.take ps.length).drop (nlv xs.length / 2)) (f := fun p => .pv (pgP p)) rfl (elems_G _) (cell_G _) rfl ⟨by simp; omega, by simp; omega⟩ trivial (q_build1 (d := ownD 11 (dG ([(⟨[fk (nth ps (nlv xs.length / 2))], [1, ((2 + nlv xs.length / 2 : Nat) : Int)], []⟩ : Pg), (⟨ka, ca, []⟩ : Pg)] ++ (ps.take (nlv xs.length / 2)).drop 0 ++ [(⟨kb, cb, []⟩ : Pg)] ++ (ps.take ps.length).drop (nlv xs.length / 2)))) rfl cellsD_own (q_store rfl rfl rfl rfl rfl rfl ⟨rfl, rfl, by simp, rfl, by simp [isOne]⟩ rfl trivial (rg_nil (VS_ret ?_))))))
     have hi6 : i = 6 := by omega
     refine Bd.renL [11, 0] (zbc _) (by simp) [(2, .ptr 1 0 0)] ⟨rfl, trivial⟩ (l2 (obD_mG (ty := 25) (sz := 3) ([(⟨[fk (nth ps (nlv xs.length / 2))], [1, ((2 + nlv xs.length / 2 : Nat) : Int)], []⟩ : Pg), (⟨ka, ca, []⟩ : Pg)] ++ (ps.take (nlv xs.length / 2)).drop 0 ++ [(⟨kb, cb, []⟩ : Pg)] ++ (ps.take ps.length).drop (nlv xs.length / 2))) (congrArg (fun z => some (⟨39, 2, [.agg [.pv (i64 0), z]]⟩ : Ob)) (mp1_own rfl))) ?_
     have hload : loadP xs = [(⟨[fk (nth ps (nlv xs.length / 2))], [1, ((2 + nlv xs.length / 2 : Nat) : Int)], []⟩ : Pg), (⟨ka, ca, []⟩ : Pg)] ++ (ps.take (nlv xs.length / 2)).drop 0 ++ [(⟨kb, cb, []⟩ : Pg)] ++ (ps.take ps.length).drop (nlv xs.length / 2) := by rw [loadP, if_neg (by omega), if_neg (by omega), m1, m2, m3, m4, hi6, hps, h3, h6, List.drop_zero, List.take_length]; simp [hll, h6]; rw [List.take_of_length_le (by simp; omega)]
     exact ⟨_, rfl, _, by show _ = D.agg [.pv (i64 0), ownD 0 (dG (loadP xs))]; rw [hload], by show _ = obD _ 3 (dG (loadP xs)) :: _; rw [hload]⟩
end Go.V

set_option maxHeartbeats 4000000
namespace Go.V
open Go.Proofs.Try (prog)
theorem zbd (os : List Nat) : ∀ i, i < 0 → os[i]? = some i := fun i hi => absurd hi (Nat.not_lt_zero i)
set_option maxRecDepth 100000
theorem sl_spec_toInt : slimF prog 73 = some (4, (.seq (.reg 0 (.o 2 (.mv (.c (.pv (.int .i64 0)))) .nil)) (.seq (.seq (.reg 0 (.o 3 (.mv (.t 0)) .nil)) (.cond (.t 3) (.seq (.reg 0 (.o 2 (.mv (.c (.pv (.int .i64 1)))) .nil)) .ret) .skip)) (.seq (.reg 0 (.o 2 (.mv (.c (.pv (.int .i64 0)))) .nil)) .ret)), [.t 2])) := by kernel_rfl
theorem c_spec_toInt (b : Bool) : PCon prog 73 [.bool b] (fun p => p = i64 (if b then 1 else 0)) := by
 refine con_of_VS sl_spec_toInt (by simp) (VS_seq (VS_r0 rfl (q_mv rfl (rg_nil (VS_seq (VS_seq (VS_r0 rfl (q_mv rfl (rg_nil ?_)))))))))
 refine VS_cond rfl (fun c0 => ?_) (fun c0 => ?_)
 ·try simp at c0
  refine VS_seq (VS_r0 rfl (q_mv rfl (rg_nil (VS_ret ?_))))
  exact Bd.now ⟨_, rfl, by simp [c0]⟩
 ·try simp at c0
  refine VS_skip (VS_seq (VS_r0 rfl (q_mv rfl (rg_nil (VS_ret ?_)))))
  exact Bd.now ⟨_, rfl, by simp [c0]⟩
theorem sl_spec_insideOf : slimF prog 72 = some (8, (.seq (.reg 0 (.o 1 (.box 25 3 (.t 0)) (.o 2 (.alloc 88 2 (.agg [.nils, .nils])) .nil))) (.seq (.reg 0 (.o 3 (.fld 0 1 false (.t 1)) (.o 4 (.load 1 false (.t 3)) (.o 5 (.fld 1 1 false (.t 1)) (.o 6 (.load 1 false (.t 5)) (.o 7 (.build [.nils, .nils] [(0, (1, .t 4)), (1, (1, .t 6))]) (.op ⟨none, none, .store 2 (.t 2) (.t 7)⟩ .nil))))))) .ret), [.c 2 2])) := by kernel_rfl
theorem c_spec_insideOf (g : Pg) : PCon prog 72 [pgP g] (fun p => p = innP g.ks g.cs) := by
 refine con_of_VS sl_spec_insideOf (by simp) (VS_seq (VS_r0 rfl (q_box rfl rfl rfl trivial (q_alloc trivial (rg_nil (VS_seq (VS_r0 rfl (q_fld_r rfl (q_load_r rfl rfl rfl rfl rfl rfl rfl (q_fld_r rfl (q_load_r rfl rfl rfl rfl rfl rfl rfl (q_build rfl (q_store rfl rfl rfl rfl rfl rfl ⟨rfl, rfl, by simp, rfl, by simp [isOne]⟩ rfl trivial (rg_nil (VS_ret ?_)))))))))))))))
 exact Bd.now ⟨_, rfl, rfl⟩
theorem sl_spec_placeOf : slimF prog 90 = some (19, (.seq (.reg 0 (.o 4 (.mv (.c (.pv (.int .i64 0)))) .nil)) (.seq (.seq (.reg 0 (.o 5 (.mv (.c (.pv (.int .i64 0)))) .nil)) (.block 0 (.loop (.seq (.seq (.reg 0 (.o 6 (.mv (.t 5)) (.o 7 (.mv (.t 0)) (.o 8 (.len (.t 7)) (.o 9 (.bin .lss (.t 6) (.t 8)) .nil))))) (.cond (.t 9) .skip (.exit 0))) (.seq (.block 1 (.seq (.reg 0 (.o 12 (.mv (.t 0)) (.o 13 (.mv (.t 5)) (.o 14 (.idx 1 (.t 12) (.t 13)) (.o 15 (.load 1 false (.t 14)) (.o 16 (.mv (.t 1)) (.o 17 (.bin .eql (.t 15) (.t 16)) .nil))))))) (.cond (.t 17) (.seq (.reg 0 (.o 18 (.mv (.t 5)) (.o 4 (.mv (.t 18)) .nil))) .ret) .skip))) (.reg 0 (.o 10 (.mv (.t 5)) (.o 11 (.bin .add (.t 10) (.c (.pv (.int .i64 1)))) (.o 5 (.mv (.t 11)) .nil))))))))) (.seq (.reg 0 (.o 4 (.mv (.c (.pv (.int .i64 (-1))))) .nil)) .ret)), [.t 4])) := by kernel_rfl
theorem c_spec_placeOf (xs : List Int) (k : Int) (hl : xs.length ≤ 1000000000) : PCon prog 90 [ints xs, i64 k] (fun p => p = i64 (if xs.contains k then (plc xs k : Int) else -1)) := by
 refine con_of_VS sl_spec_placeOf (by simp) (VS_seq (VS_r0 rfl (q_mv rfl (rg_nil (VS_seq (VS_seq (VS_r0 rfl (q_mv rfl (rg_nil (VS_block ?_))))))))))
 refine VS_bd (Bd.keepL [(0, .pv (ints xs)), (1, .pv (i64 k)), (5, .pv (i64 0))] ⟨rfl, rfl, rfl, trivial⟩ ?_)
 refine VS_loop (fun mz E S => ∃ i : Nat, mz = xs.length - i ∧ (i ≤ xs.length) ∧ (∀ j, j < i → nth xs j ≠ k) ∧ E = env [(0, .pv (ints xs)), (1, .pv (i64 k)), (5, .pv (i64 i))] ∧ S = []) ⟨_, 0, rfl, (by omega), (by omega), rfl, rfl⟩ ?_
 rintro mz _ _ ⟨i, hmeas, g1, g2, rfl, rfl⟩
 refine VS_seq (VS_seq (VS_r0 rfl (q_mv rfl (q_mv rfl (q_len_m rfl (q_lss rfl rfl (rg_nil ?_)))))))
 refine VS_cond rfl (fun c0 => ?_) (fun c0 => ?_)
 ·try simp at c0
  refine VS_skip (VS_seq (VS_block (VS_seq (VS_r0 rfl (q_mv rfl (q_mv rfl (q_idx_c _ rfl rfl (by omega) (fun _ => rfl) (q_load_c rfl rfl rfl (q_mv rfl (q_eql rfl rfl (rg_nil ?_)))))))))))
  refine VS_cond rfl (fun c1 => ?_) (fun c1 => ?_)
  ·try simp at c1
   refine VS_seq (VS_r0 rfl (q_mv rfl (q_mv rfl (rg_nil (VS_ret ?_)))))
   exact Bd.now ⟨_, rfl, by rw [if_pos (has_true i c0 c1), plc_eq c0 c1 g2]⟩
  ·try simp at c1
   refine VS_skip (VS_r0 rfl (q_mv rfl (q_add rfl rfl (inR64 (by omega)) (q_mv rfl (rg_nil ?_)))))
   refine Bd.keepL [(0, .pv (ints xs)), (1, .pv (i64 k)), (5, .pv (i64 (i + 1)))] ⟨rfl, rfl, rfl, trivial⟩ ⟨_, ?_, i + 1, rfl, ?_, ?_, rfl, rfl⟩
   ·omega
   ·omega
   ·intro j hj
    by_cases e : j = i
    ·subst e; simp_all
    ·exact g2 j (by omega)
 ·try simp at c0
  refine VS_exit (VS_seq (VS_r0 rfl (q_mv rfl (rg_nil (VS_ret ?_)))))
  exact Bd.now ⟨_, rfl, by rw [if_neg (by rw [has_false fun j hj => g2 j (by omega)]; simp)]⟩
theorem sl_spec_copyPage : slimF prog 89 = some (13, (.seq (.reg 0 (.o 1 (.box 25 3 (.t 0)) (.o 2 (.alloc 25 3 (.agg [.nils, .nils, .nils])) .nil))) (.seq (.reg 2 (.o 3 (.fld 0 1 false (.t 1)) (.o 4 (.load 1 false (.t 3)) (.o 6 (.fld 1 1 false (.t 1)) (.o 7 (.load 1 false (.t 6)) (.o 9 (.fld 2 1 false (.t 1)) (.o 10 (.load 1 false (.t 9)) (.o 5 (.call 83 [.t 4]) (.o 8 (.call 83 [.t 7]) (.o 11 (.call 83 [.t 10]) (.o 12 (.build [.nils, .nils, .nils] [(0, (1, .t 5)), (1, (1, .t 8)), (2, (1, .t 11))]) (.last ⟨none, none, .store 3 (.t 2) (.t 12)⟩)))))))))))) .ret), [.c 2 3])) := by kernel_rfl
theorem c_spec_copyPage (g : Pg) (hp : g.ks.length ≤ 1000000 ∧ g.cs.length ≤ 1000000 ∧ g.vs.length ≤ 1000000) : PCon prog 89 [pgP g] (fun p => p = pgP g) := by
 refine con_of_VS sl_spec_copyPage (by simp) (VS_seq (VS_r0 rfl (q_box rfl rfl rfl trivial (q_alloc trivial (rg_nil (VS_seq (VS_r2 [some ⟨25, 3, [.pv (pgP g)]⟩] hmix (SubL.sub (by repeat constructor)) (q_fld_r rfl (q_load_r rfl rfl rfl rfl rfl rfl rfl (q_fld_r rfl (q_load_r rfl rfl rfl rfl rfl rfl rfl (q_fld_r rfl (q_load_r rfl rfl rfl rfl rfl rfl rfl (q_callp (c_spec_copyInts_p (g.ks) (by omega)) rfl (Sub.app _ _) (q_callp (c_spec_copyInts_p (g.cs) (by omega)) rfl (Sub.app _ _) ?_)))))))))))))))
 refine q_callp (c_spec_copyInts_p (g.vs) (by omega)) rfl (Sub.app _ _) (q_build rfl (q_last (q_store rfl rfl rfl rfl rfl rfl ⟨rfl, rfl, by simp, rfl, by simp [isOne]⟩ rfl trivial (rg_nil (VS_ret ?_)))))
 exact Bd.now ⟨_, rfl, (by rfl)⟩
theorem sl_spec_rowOf : slimF prog 99 = some (28, (.seq (.reg 0 (.o 1 (.box 25 3 (.t 0)) (.o 2 (.mv (.c .nils)) .nil))) (.seq (.reg 0 (.o 5 (.lit 81 2 0 [.pv (.int .i64 0), .pv (.int .i64 0)] []) (.o 3 (.mv (.t 5)) .nil))) (.seq (.seq (.reg 0 (.o 4 (.mv (.c (.pv (.int .i64 0)))) .nil)) (.block 0 (.loop (.seq (.seq (.reg 0 (.o 6 (.mv (.t 4)) (.o 7 (.fld 0 1 false (.t 1)) (.o 8 (.load 1 false (.t 7)) (.o 9 (.len (.t 8)) (.o 10 (.bin .lss (.t 6) (.t 9)) .nil)))))) (.cond (.t 10) .skip (.exit 0))) (.seq (.block 1 (.reg 2 (.o 13 (.mv (.t 3)) (.o 14 (.fld 0 1 false (.t 1)) (.o 15 (.load 1 false (.t 14)) (.o 16 (.mv (.t 4)) (.o 17 (.idx 1 (.t 15) (.t 16)) (.o 18 (.load 1 false (.t 17)) (.o 19 (.fld 2 1 false (.t 1)) (.o 20 (.load 1 false (.t 19)) (.o 21 (.mv (.t 4)) (.o 22 (.idx 1 (.t 20) (.t 21)) (.o 23 (.load 1 false (.t 22)) (.o 24 (.build [.pv (.int .i64 0), .pv (.int .i64 0)] [(0, (1, .t 18)), (1, (1, .t 23))]) (.o 25 (.lit 81 2 1 [.pv (.int .i64 0), .pv (.int .i64 0)] [(0, .t 24)]) (.o 26 (.app 81 2 16 (.t 13) (.t 25)) (.o 3 (.mv (.t 26)) .nil))))))))))))))))) (.reg 0 (.o 11 (.mv (.t 4)) (.o 12 (.bin .add (.t 11) (.c (.pv (.int .i64 1)))) (.o 4 (.mv (.t 12)) .nil))))))))) (.seq (.reg 0 (.o 27 (.mv (.t 3)) (.o 2 (.mv (.t 27)) .nil))) .ret))), [.t 2])) := by kernel_rfl
theorem c_spec_rowOf (g : Pg) (hl : g.ks.length ≤ g.vs.length) (hk : g.ks.length ≤ 1000000) : PCon prog 99 [pgP g] (fun p => p = prs (rowG g)) := by
 refine con_of_VS sl_spec_rowOf (by simp) (VS_seq (VS_r0 rfl (q_box rfl rfl rfl trivial (q_mv rfl (rg_nil (VS_seq (VS_r0 rfl (q_lit0 (q_mv rfl (rg_nil (VS_seq (VS_seq (VS_r0 rfl (q_mv rfl (rg_nil ?_)))))))))))))))
 refine VS_block ?_
 refine VS_bd (Bd.pad ?_)
 refine VS_bd (Bd.keepL [(1, .ptr 0 0 0), (3, ownD 1 (dP ([]))), (4, .pv (i64 0))] ⟨rfl, rfl, rfl, trivial⟩ ?_)
 refine VS_loop (fun mz E S => ∃ i : Nat, ∃ ys : List (Int × Int), mz = g.ks.length - i ∧ (i ≤ g.ks.length) ∧ (ys = rowTo g i) ∧ (ys.length = i) ∧ E = env [(1, .ptr 0 0 0), (3, ownD 1 (dP ys)), (4, .pv (i64 i))] ∧ S = [some ⟨25, 3, [.pv (pgP g)]⟩, obD 81 2 (dP ys)]) ⟨_, 0, [], rfl, (by omega), rfl, rfl, rfl, rfl⟩ ?_
 rintro mz _ _ ⟨i, ys, hmeas, g0, g1, g2, rfl, rfl⟩
 refine VS_seq (VS_seq (VS_r0 rfl (q_mv rfl (q_fld_r rfl (q_load_r rfl rfl rfl rfl rfl rfl rfl (q_len_m rfl (q_lss rfl rfl (rg_nil ?_))))))))
 refine VS_cond rfl (fun c0 => ?_) (fun c0 => ?_)
 ·try simp at c0
  refine VS_skip (VS_seq (VS_block (VS_r2 [some ⟨25, 3, [.pv (pgP g)]⟩] hmix (SubL.sub (by repeat constructor)) (q_mv rfl (q_fld_r rfl (q_load_r rfl rfl rfl rfl rfl rfl rfl (q_mv rfl (q_idx_m (f := fun k => i64 k) (xs := g.ks) (n := (i : Int)) rfl rfl (by omega) (by omega) (fun _ => rfl) (q_load_c rfl rfl rfl (q_fld_r rfl (q_load_r rfl rfl rfl rfl rfl rfl rfl (q_mv rfl (q_idx_m (f := fun k => i64 k) (xs := g.vs) (n := (i : Int)) rfl rfl (by omega) (by omega) (fun _ => rfl) (q_load_c rfl rfl rfl (q_build rfl ?_)))))))))))))))
  refine q_lit (xs := [pairP (nth g.ks i, nth g.vs i)]) rfl rfl rfl rfl (q_app_dm (xs := ys) (ys := [(nth g.ks i, nth g.vs i)]) (f := fun k => .pv (pairP k)) rfl rfl rfl rfl ⟨by simp; omega, by simp; omega⟩ (Sub.app _ _) (q_mv rfl (rg_nil (VS_r0 rfl (q_mv rfl (q_add rfl rfl (inR64 (by omega)) (q_mv rfl (rg_nil ?_))))))))
  refine Bd.renL [0, 2] (zbd _) (by simp) [(1, .ptr 0 0 0), (3, ownD 1 (dP (ys ++ [(nth g.ks i, nth g.vs i)]))), (4, .pv (i64 (i + 1)))] ⟨rfl, inv_own rfl, rfl, trivial⟩ (l2 rfl (obD_mP _)) ⟨_, ?_, i + 1, ys ++ [(nth g.ks i, nth g.vs i)], rfl, ?_, ?_, ?_, rfl, rfl⟩
  ·omega
  ·omega
  ·rw [g1, rowTo_succ]
  ·simp; omega
 ·try simp at c0
  refine VS_exit (VS_seq (VS_r0 rfl (q_mv rfl (q_mv rfl (rg_nil (VS_ret ?_))))))
  have e : i = g.ks.length := by omega
  refine Bd.pureB 2 1 81 2 (xs := dP ys) rfl rfl (toPVs_dP _) ?_
  exact Bd.now ⟨_, rfl, by rw [g1, e]; rfl⟩
theorem sl_spec_copyTree : slimF prog 105 = some (28, (.seq (.reg 0 (.o 1 (.box 39 2 (.t 0)) (.o 2 (.alloc 39 2 (.agg [.pv (.int .i64 0), .nils])) .nil))) (.seq (.reg 0 (.o 5 (.fld 0 1 false (.t 1)) (.o 6 (.load 1 false (.t 5)) (.o 7 (.lit 25 3 0 [.nils, .nils, .nils] []) (.o 8 (.build [.pv (.int .i64 0), .nils] [(0, (1, .t 6)), (1, (1, .t 7))]) (.o 3 (.alloc 39 2 (.agg [.pv (.int .i64 0), .nils])) (.op ⟨none, none, .store 2 (.t 3) (.t 8)⟩ .nil))))))) (.seq (.seq (.reg 0 (.o 4 (.mv (.c (.pv (.int .i64 0)))) .nil)) (.block 0 (.loop (.seq (.seq (.reg 0 (.o 9 (.mv (.t 4)) (.o 10 (.fld 1 1 false (.t 1)) (.o 11 (.load 1 false (.t 10)) (.o 12 (.len (.t 11)) (.o 13 (.bin .lss (.t 9) (.t 12)) .nil)))))) (.cond (.t 13) .skip (.exit 0))) (.seq (.block 1 (.reg 2 (.o 16 (.fld 1 1 false (.t 3)) (.o 17 (.load 1 false (.t 16)) (.o 18 (.fld 1 1 false (.t 1)) (.o 19 (.load 1 false (.t 18)) (.o 20 (.mv (.t 4)) (.o 21 (.idx 3 (.t 19) (.t 20)) (.o 22 (.load 3 true (.t 21)) (.o 23 (.call 89 [.t 22]) (.o 24 (.lit 25 3 1 [.nils, .nils, .nils] [(0, .t 23)]) (.o 25 (.app 25 3 72 (.t 17) (.t 24)) (.o 26 (.fld 1 1 false (.t 3)) (.last ⟨none, none, .store 1 (.t 26) (.t 25)⟩)))))))))))))) (.reg 0 (.o 14 (.mv (.t 4)) (.o 15 (.bin .add (.t 14) (.c (.pv (.int .i64 1)))) (.o 4 (.mv (.t 15)) .nil))))))))) (.seq (.reg 0 (.o 27 (.load 2 true (.t 3)) (.op ⟨none, none, .store 2 (.t 2) (.t 27)⟩ .nil))) .ret))), [.c 2 2])) := by kernel_rfl
theorem c_spec_copyTree (t : Pt) (hs : smallT t) : CallS prog 105 [.pv (ptP t)] [] (fun d S => ∃ T, d = treeD 0 t ∧ S = obD 25 3 (dG t.ps) :: T) := by
 have hsl := hs.1
 refine callS_of_VS sl_spec_copyTree (by simp) (VS_seq (VS_r0 rfl (q_box rfl rfl rfl trivial (q_alloc trivial (rg_nil (VS_seq (VS_r0 rfl (q_fld_r rfl (q_load_r rfl rfl rfl rfl rfl rfl rfl (q_lit0 (q_build rfl (q_alloc trivial (q_store rfl rfl rfl rfl rfl rfl ⟨rfl, rfl, by simp, rfl, by simp [isOne]⟩ rfl trivial (rg_nil (VS_seq ?_)))))))))))))))
 refine VS_seq (VS_r0 rfl (q_mv rfl (rg_nil (VS_block ?_))))
 refine VS_bd (Bd.pad ?_)
 refine VS_bd (Bd.keepL [(1, .ptr 0 0 0), (2, .ptr 1 0 0), (3, .ptr 2 0 0), (4, .pv (i64 0))] ⟨rfl, rfl, rfl, rfl, trivial⟩ ?_)
 refine VS_loop (fun mz E S => ∃ i : Nat, ∃ ps : List Pg, mz = t.ps.length - i ∧ (i ≤ t.ps.length) ∧ (ps = t.ps.take i) ∧ (ps.length = i) ∧ E = env [(1, .ptr 0 0 0), (2, .ptr 1 0 0), (3, .ptr 2 0 0), (4, .pv (i64 i))] ∧ S = [some ⟨39, 2, [.pv (ptP t)]⟩, some ⟨39, 2, [.agg [.pv (i64 0), .nils]]⟩, some ⟨39, 2, [.agg [.pv (i64 t.r), ownD 3 (dG ps)]]⟩, obD 25 3 (dG ps)]) ⟨_, 0, [], rfl, (by omega), rfl, rfl, rfl, rfl⟩ ?_
 rintro mz _ _ ⟨i, ps, hmeas, g0, g1, g2, rfl, rfl⟩
 refine VS_seq (VS_seq (VS_r0 rfl (q_mv rfl (q_fld_r rfl (q_load_r rfl rfl rfl rfl rfl rfl rfl (q_len_m rfl (q_lss rfl rfl (rg_nil ?_))))))))
 refine VS_cond rfl (fun c0 => ?_) (fun c0 => ?_)
 ·try simp at c0
  have hsz : (nth t.ps i).ks.length ≤ 1000000 ∧ (nth t.ps i).cs.length ≤ 1000000 ∧ (nth t.ps i).vs.length ≤ 1000000 := hs.2 (i : Int) (by omega) (by omega)
  refine VS_skip (VS_seq (VS_block (VS_r2 [some ⟨39, 2, [.pv (ptP t)]⟩, none, some ⟨39, 2, [.agg [.pv (i64 t.r), ownD 3 (dG ps)]]⟩] hmix (SubL.sub (by repeat constructor)) (q_fld_r rfl (q_load_o rfl rfl rfl rfl rfl (q_fld_r rfl (q_load_r rfl rfl rfl rfl rfl rfl rfl (q_mv rfl (q_idx_m (f := pgP) (xs := t.ps) (n := (i : Int)) rfl rfl (by omega) (by omega) (fun _ => rfl) (q_load_c rfl rfl rfl (q_callp (c_spec_copyPage (nth t.ps i) hsz) rfl (SubL.sub (by repeat constructor)) (q_lit (xs := [pgP (nth t.ps i)]) rfl rfl rfl rfl (q_app_dm (xs := ps) (ys := [nth t.ps i]) (f := fun p => .pv (pgP p)) rfl rfl rfl rfl ⟨by simp; omega, by simp; omega⟩ (SubL.sub (by repeat constructor)) (q_fld_r rfl (q_last ?_)))))))))))))))
  refine q_storeF rfl rfl rfl rfl rfl (by (simp; done)) trivial (rg_nil (VS_r0 rfl (q_mv rfl (q_add rfl rfl (inR64 (by omega)) (q_mv rfl (rg_nil ?_))))))
  refine Bd.renL [0, 1, 2, 4] (zbd _) (by simp) [(1, .ptr 0 0 0), (2, .ptr 1 0 0), (3, .ptr 2 0 0), (4, .pv (i64 (i + 1)))] ⟨rfl, rfl, rfl, rfl, trivial⟩ (l4 rfl rfl (congrArg (fun z => some (⟨39, 2, [.agg [.pv (i64 t.r), z]]⟩ : Ob)) (mp1_own rfl)) (obD_mG _)) ⟨_, ?_, i + 1, ps ++ [nth t.ps i], rfl, ?_, ?_, ?_, rfl, rfl⟩
  ·omega
  ·omega
  ·rw [take_succ_nth (by omega), g1]
  ·simp; omega
 ·try simp at c0
  refine VS_exit (VS_seq (VS_r0 rfl (q_load_ra rfl rfl rfl rfl rfl (by (simp; done)) rfl (q_store rfl rfl rfl rfl rfl rfl ⟨rfl, rfl, by simp, by simp [setAt, isCell_own, isCell_sl, isCell_int, isCell_nils], by simp [isOne]⟩ rfl trivial (rg_nil (VS_ret ?_))))))
  have e : ps = t.ps := by rw [g1, show i = t.ps.length by omega, List.take_length]
  refine Bd.renL [3, 1] (zbd _) (by simp) [(2, .ptr 1 0 0)] ⟨rfl, trivial⟩ (l2 (obD_mG (ty := 25) (sz := 3) ps) (congrArg (fun z => some (⟨39, 2, [.agg [.pv (i64 t.r), z]]⟩ : Ob)) (mp1_own rfl))) ?_
  exact ⟨_, rfl, _, by rw [e], by rw [e]⟩
theorem sl_spec_pathTo : slimF prog 106 = some (45, (.seq (.reg 0 (.o 2 (.box 39 2 (.t 0)) (.o 4 (.mv (.c .nils)) .nil))) (.seq (.reg 0 (.o 7 (.fld 0 1 false (.t 2)) (.o 8 (.load 1 false (.t 7)) (.o 9 (.lit 3 1 1 [.pv (.int .i64 0)] [(0, .t 8)]) (.o 5 (.mv (.t 9)) .nil))))) (.seq (.block 0 (.loop (.seq (.seq (.reg 1 (.o 10 (.fld 1 1 false (.t 2)) (.o 11 (.load 1 false (.t 10)) (.o 12 (.mv (.t 5)) (.o 13 (.mv (.t 5)) (.o 14 (.len (.t 13)) (.o 15 (.bin .sub (.t 14) (.c (.pv (.int .i64 1)))) (.o 16 (.idx 1 (.t 12) (.t 15)) (.o 17 (.load 1 false (.t 16)) (.o 18 (.idx 3 (.t 11) (.t 17)) (.o 19 (.fld 1 1 false (.t 18)) (.o 20 (.load 1 false (.t 19)) (.o 21 (.len (.t 20)) (.o 22 (.bin .gtr (.t 21) (.c (.pv (.int .i64 0)))) .nil)))))))))))))) (.cond (.t 22) .skip (.exit 0))) (.block 1 (.seq (.reg 2 (.o 23 (.fld 1 1 false (.t 2)) (.o 24 (.load 1 false (.t 23)) (.o 25 (.mv (.t 5)) (.o 26 (.mv (.t 5)) (.o 27 (.len (.t 26)) (.o 28 (.bin .sub (.t 27) (.c (.pv (.int .i64 1)))) (.o 29 (.idx 1 (.t 25) (.t 28)) (.o 30 (.load 1 false (.t 29)) (.o 31 (.idx 3 (.t 24) (.t 30)) (.o 32 (.load 3 true (.t 31)) (.o 6 (.alloc 25 3 (.agg [.nils, .nils, .nils])) (.last ⟨none, none, .store 3 (.t 6) (.t 32)⟩))))))))))))) (.reg 2 (.o 33 (.mv (.t 5)) (.o 34 (.fld 1 1 false (.t 6)) (.o 35 (.load 1 false (.t 34)) (.o 36 (.fld 0 1 false (.t 6)) (.o 37 (.load 1 false (.t 36)) (.o 38 (.mv (.t 1)) (.o 39 (.call 113 [.t 37, .t 38]) (.o 40 (.idx 1 (.t 35) (.t 39)) (.o 41 (.load 1 false (.t 40)) (.o 42 (.lit 3 1 1 [.pv (.int .i64 0)] [(0, .t 41)]) (.o 43 (.app 3 1 8 (.t 33) (.t 42)) (.o 5 (.mv (.t 43)) .nil)))))))))))))))))) (.seq (.reg 0 (.o 44 (.mv (.t 5)) (.o 4 (.mv (.t 44)) .nil))) .ret))), [.t 4])) := by kernel_rfl
theorem c_spec_pathTo (t : Pt) (hs : smallT t) (k : Int) (h : Nat) (lo hi : Int) (h3 : h ≤ 3) (ho : okT t h t.r lo hi = true) : PCon prog 106 [ptP t, i64 k] (fun p => p = ints (pth t k h t.r)) := by
 refine con_of_VS sl_spec_pathTo (by simp) (VS_seq (VS_r0 rfl (q_box rfl rfl rfl trivial (q_mv rfl (rg_nil (VS_seq (VS_r0 rfl (q_fld_r rfl (q_load_r rfl rfl rfl rfl rfl rfl rfl (q_lito (xs := [i64 t.r]) rfl rfl rfl rfl (q_mv rfl (rg_nil (VS_seq (VS_block ?_))))))))))))))
 refine VS_bd (Bd.keepL [(1, .pv (i64 k)), (2, .ptr 0 0 0), (5, ownD 1 (dI (([]) ++ [(t.r)])))] ⟨rfl, rfl, rfl, trivial⟩ ?_)
 refine VS_loop (fun mz E S => ∃ m : Nat, ∃ i : Int, ∃ zs : List Int, mz = m ∧ (∃ lo hi, okT t m i lo hi = true) ∧ (pth t k h t.r = zs ++ pth t k m i) ∧ (zs.length + m ≤ 3) ∧ E = env [(1, .pv (i64 k)), (2, .ptr 0 0 0), (5, ownD 1 (dI (zs ++ [i])))] ∧ S = [some ⟨39, 2, [.pv (ptP t)]⟩, obD 3 1 (dI (zs ++ [i]))]) ⟨_, h, t.r, [], rfl, ⟨lo, hi, ho⟩, rfl, (by simp; omega), rfl, rfl⟩ ?_
 rintro mz _ _ ⟨m, i, zs, hmeas, gm, g1, g2, rfl, rfl⟩
 have hi2 := inT_iff.1 (okT_top (Classical.choose_spec (Classical.choose_spec gm))).2.1
 have hlast : nth (zs ++ [i]) zs.length = i := by rw [nth_eq (by simp)]; simp
 have hml := (okT_top (Classical.choose_spec (Classical.choose_spec gm))).1
 refine VS_seq (VS_seq (VS_r1 hmix rfl (q_fld_r rfl (q_load_r rfl rfl rfl rfl rfl rfl rfl (q_mv rfl (q_mv rfl (q_len_dm rfl (q_sub_to ((zs.length : Nat) : Int) rfl rfl (by simp) (inR64 (by omega)) (q_idx_dm (ty := 3) (xs := zs ++ [i]) rfl rfl (by omega) (by simp; omega) rfl ?_)))))))))
 rw [Int.toNat_natCast]
 refine q_load_d (ty := 3) (xs := zs ++ [i]) rfl rfl (by simp) rfl rfl rfl ?_
 rw [hlast]
 refine q_idx_m (f := pgP) (xs := t.ps) (n := i) rfl rfl (by omega) (by omega) (fun _ => rfl) (q_fld_c rfl rfl (q_load_c rfl rfl rfl (q_len_m rfl (q_gtr rfl rfl (rg_nil ?_)))))
 refine VS_cond rfl (fun c0 => ?_) (fun c0 => ?_)
 ·try simp at c0
  have hsz := hs.2 i hi2.1 hi2.2
  have hm2 := Classical.choose_spec (Classical.choose_spec gm)
  obtain ⟨m2, rfl⟩ : ∃ m2, m = m2 + 1 := ⟨m - 1, by have := (okT_top hm2).1; omega⟩
  have hc0 : 0 < (pg t i).cs.length := by first | exact c0 | omega | exact List.length_pos_iff.2 c0
  have hm0 : m2 ≠ 0 := fun e => by subst e; have := (okT_leaf.1 hm2).2; omega
  have hm3 := (okT_inner hm0).1 hm2
  have hfi := fill_inner hm3.1.2.1 (by omega)
  have hfj : (nth t.ps i.toNat).cs.length = (nth t.ps i.toNat).ks.length + 1 := hfi.1
  have hfk : (nth t.ps i.toNat).ks.length ≤ 4 := hfi.2.2.1
  have hfl : (pg t i).cs.length = (nth t.ps i.toNat).cs.length := rfl
  have hut := upTo_le (nth t.ps i.toNat).ks k
  refine VS_skip (VS_block (VS_seq (VS_r2 _ hmix (Sub.refl _) (q_fld_r rfl (q_load_r rfl rfl rfl rfl rfl rfl rfl (q_mv rfl (q_mv rfl (q_len_dm rfl (q_sub_to ((zs.length : Nat) : Int) rfl rfl (by simp) (inR64 (by omega)) (q_idx_dm (ty := 3) (xs := zs ++ [i]) rfl rfl (by omega) (by simp; omega) rfl ?_))))))))))
  rw [Int.toNat_natCast]
  refine q_load_d (ty := 3) (xs := zs ++ [i]) rfl rfl (by simp) rfl rfl rfl ?_
  rw [hlast]
  refine q_idx_m (f := pgP) (xs := t.ps) (n := i) rfl rfl (by omega) (by omega) (fun _ => rfl) (q_load_c rfl rfl rfl (q_alloc (Sub.app _ _) (q_last (q_store rfl rfl rfl rfl rfl rfl ⟨rfl, rfl, by simp, rfl, by simp [isOne]⟩ rfl trivial (rg_nil (VS_r2 [some ⟨39, 2, [.pv (ptP t)]⟩, none, some ⟨25, 3, [.agg [.pv (ints (nth t.ps i.toNat).ks), .pv (ints (nth t.ps i.toNat).cs), .pv (ints (nth t.ps i.toNat).vs)]]⟩] hmix (SubL.sub (by repeat constructor)) (q_mv rfl (q_fld_r rfl (q_load_r rfl rfl rfl rfl rfl rfl rfl (q_fld_r rfl (q_load_r rfl rfl rfl rfl rfl rfl rfl (q_mv rfl (q_callp (c_spec_upTo (nth t.ps i.toNat).ks k (by omega)) rfl (SubL.sub (by repeat constructor)) (q_idx_m (f := fun k => i64 k) (xs := (nth t.ps i.toNat).cs) (n := ((upTo (nth t.ps i.toNat).ks k : Nat) : Int)) rfl rfl (by omega) (by omega) (fun _ => rfl) (q_load_c rfl rfl rfl ?_)))))))))))))))
  refine q_lit (xs := [i64 (nth (nth t.ps i.toNat).cs (upTo (nth t.ps i.toNat).ks k))]) rfl rfl rfl rfl (q_app_dm (xs := zs ++ [i]) (ys := [nth (nth t.ps i.toNat).cs (upTo (nth t.ps i.toNat).ks k)]) (f := fun k => .pv (i64 k)) rfl rfl rfl rfl ⟨by simp; omega, by simp; omega⟩ (Sub.app _ _) (q_mv rfl (rg_nil ?_)))
  refine Bd.renL [0, 3] (zbd _) (by simp) [(1, .pv (i64 k)), (2, .ptr 0 0 0), (5, ownD 1 (dI ((zs ++ [i]) ++ [(nth (nth t.ps i.toNat).cs (upTo (nth t.ps i.toNat).ks k))])))] ⟨rfl, rfl, inv_own rfl, trivial⟩ (l2 rfl (obD_mI _)) ⟨_, ?_, m2, nth (nth t.ps i.toNat).cs (upTo (nth t.ps i.toNat).ks k), zs ++ [i], rfl, ?_, ?_, ?_, rfl, rfl⟩
  ·omega
  ·exact ⟨_, _, hm3.2.2 _ (by omega)⟩
  ·rw [g1, pth_inner (by omega), List.append_assoc]; rfl
  ·simp; omega
 ·try simp at c0
  refine VS_exit (VS_seq (VS_r0 rfl (q_mv rfl (q_mv rfl (rg_nil (VS_ret ?_))))))
  have hc1 : (pg t i).cs.length = 0 := by first | omega | simp_all
  obtain ⟨m2, rfl⟩ : ∃ m2, m = m2 + 1 := ⟨m - 1, by omega⟩
  refine Bd.pureB 4 1 3 1 (xs := dI (zs ++ [i])) rfl rfl (toPVs_dI _) ?_
  exact Bd.now ⟨_, rfl, by rw [g1, pth_leaf hc1]⟩
theorem sl_spec_leavesOf : slimF prog 98 = some (36, (.seq (.reg 0 (.o 1 (.box 39 2 (.t 0)) (.o 2 (.mv (.c .nils)) .nil))) (.seq (.reg 0 (.o 6 (.lit 3 1 0 [.pv (.int .i64 0)] []) (.o 3 (.mv (.t 6)) .nil))) (.seq (.reg 0 (.o 7 (.load 2 true (.t 1)) (.o 8 (.fld 0 1 false (.t 1)) (.o 9 (.load 1 false (.t 8)) (.o 10 (.call 86 [.t 7, .t 9]) (.o 4 (.mv (.t 10)) .nil)))))) (.seq (.seq (.reg 0 (.o 5 (.mv (.c (.pv (.int .i64 0)))) .nil)) (.block 0 (.loop (.seq (.seq (.reg 0 (.o 11 (.mv (.t 5)) (.o 12 (.mv (.t 4)) (.o 13 (.len (.t 12)) (.o 14 (.bin .lss (.t 11) (.t 13)) .nil))))) (.cond (.t 14) .skip (.exit 0))) (.seq (.block 1 (.seq (.reg 1 (.o 17 (.fld 1 1 false (.t 1)) (.o 18 (.load 1 false (.t 17)) (.o 19 (.mv (.t 4)) (.o 20 (.mv (.t 5)) (.o 21 (.idx 1 (.t 19) (.t 20)) (.o 22 (.load 1 false (.t 21)) (.o 23 (.idx 3 (.t 18) (.t 22)) (.o 24 (.fld 1 1 false (.t 23)) (.o 25 (.load 1 false (.t 24)) (.o 26 (.len (.t 25)) (.o 27 (.bin .eql (.t 26) (.c (.pv (.int .i64 0)))) .nil)))))))))))) (.cond (.t 27) (.reg 0 (.o 28 (.mv (.t 3)) (.o 29 (.mv (.t 4)) (.o 30 (.mv (.t 5)) (.o 31 (.idx 1 (.t 29) (.t 30)) (.o 32 (.load 1 false (.t 31)) (.o 33 (.lit 3 1 1 [.pv (.int .i64 0)] [(0, .t 32)]) (.o 34 (.app 3 1 8 (.t 28) (.t 33)) (.o 3 (.mv (.t 34)) .nil))))))))) .skip))) (.reg 0 (.o 15 (.mv (.t 5)) (.o 16 (.bin .add (.t 15) (.c (.pv (.int .i64 1)))) (.o 5 (.mv (.t 16)) .nil))))))))) (.seq (.reg 0 (.o 35 (.mv (.t 3)) (.o 2 (.mv (.t 35)) .nil))) .ret)))), [.t 2])) := by kernel_rfl
theorem c_spec_leavesOf (t : Pt) (hs : smallT t) (h : Nat) (hw : wkT t h t.r = true) (hb : (wlk t h t.r).length ≤ 1000000) : PCon prog 98 [ptP t] (fun p => p = ints (lvT t h)) := by
 refine con_of_VS sl_spec_leavesOf (by simp) (VS_seq (VS_r0 rfl (q_box rfl rfl rfl trivial (q_mv rfl (rg_nil (VS_seq (VS_r0 rfl (q_lit0 (q_mv rfl (rg_nil (VS_seq (VS_r0 rfl (q_load_ra rfl rfl rfl rfl rfl (by (simp; done)) rfl (q_fld_r rfl (q_load_r rfl rfl rfl rfl rfl rfl rfl ?_)))))))))))))))
 refine q_callp (c_spec_walk t hs h t.r hw (by omega)) rfl trivial (q_mv rfl (rg_nil (VS_seq (VS_seq (VS_r0 rfl (q_mv rfl (rg_nil (VS_block ?_))))))))
 refine VS_bd (Bd.pad ?_)
 refine VS_bd (Bd.keepL [(1, .ptr 0 0 0), (3, ownD 1 (dI ([]))), (4, .pv (ints (wlk t h t.r))), (5, .pv (i64 0))] ⟨rfl, rfl, rfl, rfl, trivial⟩ ?_)
 refine VS_loop (fun mz E S => ∃ j : Nat, ∃ ys : List Int, mz = (wlk t h t.r).length - j ∧ (j ≤ (wlk t h t.r).length) ∧ (ys = ((wlk t h t.r).take j).filter (isLf t)) ∧ (ys.length ≤ j) ∧ E = env [(1, .ptr 0 0 0), (3, ownD 1 (dI ys)), (4, .pv (ints (wlk t h t.r))), (5, .pv (i64 j))] ∧ S = [some ⟨39, 2, [.pv (ptP t)]⟩, obD 3 1 (dI ys)]) ⟨_, 0, [], rfl, (by omega), (by simp), (Nat.le_refl _), rfl, rfl⟩ ?_
 rintro mz _ _ ⟨j, ys, hmeas, g0, g1, g2, rfl, rfl⟩
 refine VS_seq (VS_seq (VS_r0 rfl (q_mv rfl (q_mv rfl (q_len_m rfl (q_lss rfl rfl (rg_nil ?_)))))))
 refine VS_cond rfl (fun c0 => ?_) (fun c0 => ?_)
 ·try simp at c0
  have hin := inT_iff.1 (wk_in hw _ (nth_mem (i := j) (by omega)))
  have hfs := filter_step (t := t) (l := (wlk t h t.r)) (j := j) (by omega)
  refine VS_skip (VS_seq (VS_block (VS_seq (VS_r1 hmix rfl (q_fld_r rfl (q_load_r rfl rfl rfl rfl rfl rfl rfl (q_mv rfl (q_mv rfl (q_idx_m (f := fun k => i64 k) (xs := (wlk t h t.r)) (n := (j : Int)) rfl rfl (by omega) (by omega) (fun _ => rfl) (q_load_c rfl rfl rfl (q_idx_m (f := pgP) (xs := t.ps) (n := nth (wlk t h t.r) j) rfl rfl (by omega) (by omega) (fun _ => rfl) (q_fld_c rfl rfl (q_load_c rfl rfl rfl (q_len_m rfl (q_eql rfl rfl ?_)))))))))))))))
  refine rg_nil ?_
  refine VS_cond rfl (fun c1 => ?_) (fun c1 => ?_)
  ·try simp at c1
   refine VS_r0 rfl (q_mv rfl (q_mv rfl (q_mv rfl (q_idx_m (f := fun k => i64 k) (xs := (wlk t h t.r)) (n := (j : Int)) rfl rfl (by omega) (by omega) (fun _ => rfl) (q_load_c rfl rfl rfl (q_lit (xs := [i64 (nth (wlk t h t.r) j)]) rfl rfl rfl rfl (q_app_dm (xs := ys) (ys := [nth (wlk t h t.r) j]) (f := fun k => .pv (i64 k)) rfl rfl rfl rfl ⟨by simp; omega, by simp; omega⟩ trivial (q_mv rfl (rg_nil (VS_r0 rfl (q_mv rfl (q_add rfl rfl (inR64 (by omega)) (q_mv rfl (rg_nil ?_))))))))))))))
   refine Bd.renL [0, 2] (zbd _) (by simp) [(1, .ptr 0 0 0), (3, ownD 1 (dI (ys ++ [nth (wlk t h t.r) j]))), (4, .pv (ints (wlk t h t.r))), (5, .pv (i64 (j + 1)))] ⟨rfl, inv_own rfl, rfl, rfl, trivial⟩ (l2 rfl (obD_mI _)) ⟨_, ?_, j + 1, ys ++ [nth (wlk t h t.r) j], rfl, ?_, ?_, ?_, rfl, rfl⟩
   ·omega
   ·omega
   ·have hl : isLf t (nth (wlk t h t.r) j) = true := by simp only [isLf, pg]; simp_all
    rw [hfs, hl, if_pos rfl, g1]
   ·simp; omega
  ·try simp at c1
   refine VS_skip (VS_r0 rfl (q_mv rfl (q_add rfl rfl (inR64 (by omega)) (q_mv rfl (rg_nil ?_)))))
   refine Bd.renL [0, 1] (zbd _) (by simp) [(1, .ptr 0 0 0), (3, ownD 1 (dI ys)), (4, .pv (ints (wlk t h t.r))), (5, .pv (i64 (j + 1)))] ⟨rfl, inv_own rfl, rfl, rfl, trivial⟩ (l2 rfl (obD_mI _)) ⟨_, ?_, j + 1, ys, rfl, ?_, ?_, ?_, rfl, rfl⟩
   ·omega
   ·omega
   ·have hl : isLf t (nth (wlk t h t.r) j) = false := by simp only [isLf, pg]; simp_all
    rw [hfs, hl, if_neg (by simp), List.append_nil, g1]
   ·omega
 ·try simp at c0
  refine VS_exit (VS_seq (VS_r0 rfl (q_mv rfl (q_mv rfl (rg_nil (VS_ret ?_))))))
  have e : j = (wlk t h t.r).length := by omega
  rw [e, List.take_length] at g1
  refine Bd.pureB 2 1 3 1 (xs := dI ys) rfl rfl (toPVs_dI _) ?_
  exact Bd.now ⟨_, rfl, by rw [g1]; rfl⟩
theorem sl_spec_pairsOf : slimF prog 80 = some (27, (.seq (.reg 0 (.o 1 (.box 39 2 (.t 0)) (.o 2 (.mv (.c .nils)) .nil))) (.seq (.reg 0 (.o 6 (.lit 81 2 0 [.pv (.int .i64 0), .pv (.int .i64 0)] []) (.o 3 (.mv (.t 6)) .nil))) (.seq (.reg 0 (.o 7 (.load 2 true (.t 1)) (.o 8 (.call 98 [.t 7]) (.o 4 (.mv (.t 8)) .nil)))) (.seq (.seq (.reg 0 (.o 5 (.mv (.c (.pv (.int .i64 0)))) .nil)) (.block 0 (.loop (.seq (.seq (.reg 0 (.o 9 (.mv (.t 5)) (.o 10 (.mv (.t 4)) (.o 11 (.len (.t 10)) (.o 12 (.bin .lss (.t 9) (.t 11)) .nil))))) (.cond (.t 12) .skip (.exit 0))) (.seq (.block 1 (.reg 2 (.o 15 (.mv (.t 3)) (.o 16 (.fld 1 1 false (.t 1)) (.o 17 (.load 1 false (.t 16)) (.o 18 (.mv (.t 4)) (.o 19 (.mv (.t 5)) (.o 20 (.idx 1 (.t 18) (.t 19)) (.o 21 (.load 1 false (.t 20)) (.o 22 (.idx 3 (.t 17) (.t 21)) (.o 23 (.load 3 true (.t 22)) (.o 24 (.call 99 [.t 23]) (.o 25 (.app 81 2 16 (.t 15) (.t 24)) (.o 3 (.mv (.t 25)) .nil)))))))))))))) (.reg 0 (.o 13 (.mv (.t 5)) (.o 14 (.bin .add (.t 13) (.c (.pv (.int .i64 1)))) (.o 5 (.mv (.t 14)) .nil))))))))) (.seq (.reg 0 (.o 26 (.mv (.t 3)) (.o 2 (.mv (.t 26)) .nil))) .ret)))), [.t 2])) := by kernel_rfl
theorem c_spec_pairsOf (t : Pt) (hs : smallT t) (h : Nat) (hw : wkT t h t.r = true) (hb : (wlk t h t.r).length ≤ 1000000) (hr : rowsOK t) (hb2 : (prT t h).length ≤ 1000000) : PCon prog 80 [ptP t] (fun p => p = prs (prT t h)) := by
 have hll : (lvT t h).length ≤ (wlk t h t.r).length := List.length_filter_le ..
 refine con_of_VS sl_spec_pairsOf (by simp) (VS_seq (VS_r0 rfl (q_box rfl rfl rfl trivial (q_mv rfl (rg_nil (VS_seq (VS_r0 rfl (q_lit0 (q_mv rfl (rg_nil (VS_seq (VS_r0 rfl (q_load_ra rfl rfl rfl rfl rfl (by (simp; done)) rfl (q_callp (c_spec_leavesOf t hs h hw (by omega)) rfl trivial (q_mv rfl ?_)))))))))))))))
 refine rg_nil (VS_seq (VS_seq (VS_r0 rfl (q_mv rfl (rg_nil (VS_block ?_))))))
 refine VS_bd (Bd.pad ?_)
 refine VS_bd (Bd.keepL [(1, .ptr 0 0 0), (3, ownD 1 (dP ([]))), (4, .pv (ints (lvT t h))), (5, .pv (i64 0))] ⟨rfl, rfl, rfl, rfl, trivial⟩ ?_)
 refine VS_loop (fun mz E S => ∃ j : Nat, ∃ ys : List (Int × Int), mz = (lvT t h).length - j ∧ (j ≤ (lvT t h).length) ∧ (ys = ((lvT t h).take j).flatMap fun i => rowG (pg t i)) ∧ E = env [(1, .ptr 0 0 0), (3, ownD 1 (dP ys)), (4, .pv (ints (lvT t h))), (5, .pv (i64 j))] ∧ S = [some ⟨39, 2, [.pv (ptP t)]⟩, obD 81 2 (dP ys)]) ⟨_, 0, [], rfl, (by omega), (by simp), rfl, rfl⟩ ?_
 rintro mz _ _ ⟨j, ys, hmeas, g0, g1, rfl, rfl⟩
 refine VS_seq (VS_seq (VS_r0 rfl (q_mv rfl (q_mv rfl (q_len_m rfl (q_lss rfl rfl (rg_nil ?_)))))))
 refine VS_cond rfl (fun c0 => ?_) (fun c0 => ?_)
 ·try simp at c0
  have hmem := nth_mem (xs := lvT t h) (i := j) (by omega)
  have hmf := List.mem_filter.1 hmem
  have hin := wk_in hw _ hmf.1
  have hin2 := inT_iff.1 hin
  have hsz : (nth t.ps (nth (lvT t h) j).toNat).ks.length ≤ 1000000 ∧ (nth t.ps (nth (lvT t h) j).toNat).cs.length ≤ 1000000 ∧ (nth t.ps (nth (lvT t h) j).toNat).vs.length ≤ 1000000 := hs.2 _ hin2.1 hin2.2
  have hrk : (nth t.ps (nth (lvT t h) j).toNat).ks.length ≤ (nth t.ps (nth (lvT t h) j).toNat).vs.length := hr _ hin (by have := hmf.2; simpa [isLf] using this)
  have hfp : _ + (rowG (nth t.ps (nth (lvT t h) j).toNat)).length ≤ (prT t h).length := flat_part (fun i => rowG (pg t i)) (xs := lvT t h) (j := j) (by omega)
  have hyl : ys.length = (((lvT t h).take j).flatMap fun i => rowG (pg t i)).length := by rw [g1]
  refine VS_skip (VS_seq (VS_block (VS_r2 [some ⟨39, 2, [.pv (ptP t)]⟩] hmix (SubL.sub (by repeat constructor)) (q_mv rfl (q_fld_r rfl (q_load_r rfl rfl rfl rfl rfl rfl rfl (q_mv rfl (q_mv rfl (q_idx_m (f := fun k => i64 k) (xs := lvT t h) (n := (j : Int)) rfl rfl (by omega) (by omega) (fun _ => rfl) (q_load_c rfl rfl rfl (q_idx_m (f := pgP) (xs := t.ps) (n := nth (lvT t h) j) rfl rfl (by omega) (by omega) (fun _ => rfl) (q_load_c rfl rfl rfl (q_callp (c_spec_rowOf (nth t.ps (nth (lvT t h) j).toNat) hrk (by omega)) rfl (Sub.app _ _) (q_app_dm (xs := ys) (ys := rowG (nth t.ps (nth (lvT t h) j).toNat)) (f := fun k => .pv (pairP k)) rfl (elems_P _) (cell_P _) rfl ⟨by omega, by omega⟩ (Sub.app _ _) (q_mv rfl ?_)))))))))))))))
  refine rg_nil (VS_r0 rfl (q_mv rfl (q_add rfl rfl (inR64 (by omega)) (q_mv rfl (rg_nil ?_)))))
  refine Bd.renL [0, 2] (zbd _) (by simp) [(1, .ptr 0 0 0), (3, ownD 1 (dP (ys ++ rowG (nth t.ps (nth (lvT t h) j).toNat)))), (4, .pv (ints (lvT t h))), (5, .pv (i64 (j + 1)))] ⟨rfl, inv_own rfl, rfl, rfl, trivial⟩ (l2 rfl (obD_mP _)) ⟨_, ?_, j + 1, ys ++ rowG (nth t.ps (nth (lvT t h) j).toNat), rfl, ?_, ?_, rfl, rfl⟩
  ·omega
  ·omega
  ·rw [g1, flat_take (by omega)]
 ·try simp at c0
  refine VS_exit (VS_seq (VS_r0 rfl (q_mv rfl (q_mv rfl (rg_nil (VS_ret ?_))))))
  have e : j = (lvT t h).length := by omega
  rw [e, List.take_length] at g1
  refine Bd.pureB 2 1 81 2 (xs := dP ys) rfl rfl (toPVs_dP _) ?_
  exact Bd.now ⟨_, rfl, by rw [g1]; rfl⟩
end Go.V
