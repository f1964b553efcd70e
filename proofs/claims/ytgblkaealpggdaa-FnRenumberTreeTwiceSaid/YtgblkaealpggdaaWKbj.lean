/- A part of the proofs about laws of the page tree (see the text that bears the law): a small language of steps, its rules, and what the functions of the program return. -/
import Derived.Test.YtgblkaealpggdaaWKbi
import Derived.Test.YtgblkaealpggdaaQJ
import Derived.Test.YtgblkaealpggdaaWE
set_option linter.all false
set_option linter.unusedVariables false
set_option linter.unusedSimpArgs false
set_option maxHeartbeats 4000000
namespace Go.V
open Go.Proofs.Try (prog)
theorem zbj (os : List Nat) : ∀ i, i < 0 → os[i]? = some i := fun i hi => absurd hi (Nat.not_lt_zero i)
set_option maxRecDepth 100000
theorem sl_spec_dropTree : slimF prog 101 [(9, 4)] = some (162, (.seq (.reg 0 (.o 2 (.box 39 2 (.t 0)) (.o 4 (.alloc 39 2 (.agg [.pv (.int .i64 0), .nils])) (.o 5 (.mv (.c (.pv (.int .i64 0)))) .nil)))) (.seq (.reg 0 (.o 18 (.load 2 true (.t 2)) (.o 19 (.call 105 [.t 18]) (.o 6 (.alloc 39 2 (.agg [.pv (.int .i64 0), .nils])) (.op ⟨none, none, .store 2 (.t 6) (.t 19)⟩ .nil))))) (.seq (.reg 0 (.o 20 (.load 2 true (.t 2)) (.o 21 (.mv (.t 1)) (.o 22 (.call 106 [.t 20, .t 21]) (.o 7 (.mv (.t 22)) .nil))))) (.seq (.reg 0 (.o 23 (.mv (.t 7)) (.o 24 (.len (.t 23)) (.o 25 (.bin .sub (.t 24) (.c (.pv (.int .i64 1)))) (.o 8 (.mv (.t 25)) .nil))))) (.seq (.reg 2 (.o 27 (.fld 1 1 false (.t 2)) (.o 28 (.load 1 false (.t 27)) (.o 29 (.mv (.t 7)) (.o 30 (.mv (.t 8)) (.o 31 (.idx 1 (.t 29) (.t 30)) (.o 32 (.load 1 false (.t 31)) (.o 33 (.idx 3 (.t 28) (.t 32)) (.o 34 (.load 3 true (.t 33)) (.o 36 (.mv (.t 1)) (.o 35 (.call 99 [.t 34]) (.o 37 (.call 110 [.t 35, .t 36]) (.o 26 (.mv (.t 37)) (.o 38 (.ext (.t 26) 0) (.o 39 (.ext (.t 26) 1) (.o 9 (.mv (.t 38)) (.o 10 (.mv (.t 39)) .nil))))))))))))))))) (.seq (.reg 2 (.o 40 (.fld 1 1 false (.t 6)) (.o 41 (.load 1 false (.t 40)) (.o 42 (.mv (.t 7)) (.o 43 (.mv (.t 8)) (.o 44 (.idx 1 (.t 42) (.t 43)) (.o 45 (.load 1 false (.t 44)) (.o 46 (.mv (.t 9)) (.o 47 (.call 94 [.t 46]) (.o 48 (.idx 3 (.t 41) (.t 45)) (.last ⟨none, none, .store 3 (.t 48) (.t 47)⟩))))))))))) (.seq (.reg 0 (.o 49 (.lit 3 1 0 [.pv (.int .i64 0)] []) (.o 11 (.mv (.t 49)) .nil))) (.seq (.block 0 (.loop (.seq (.seq (.reg 1 (.o 50 (.mv (.t 8)) (.o 51 (.bin .gtr (.t 50) (.c (.pv (.int .i64 0)))) (.o 52 (.mv (.t 51)) (.g 53 52 true (.fld 1 1 false (.t 6)) (.g 54 52 true (.load 1 false (.t 53)) (.g 55 52 true (.mv (.t 7)) (.g 56 52 true (.mv (.t 8)) (.g 57 52 true (.idx 1 (.t 55) (.t 56)) (.g 58 52 true (.load 1 false (.t 57)) (.g 59 52 true (.idx 3 (.t 54) (.t 58)) (.g 60 52 true (.fld 0 1 false (.t 59)) (.g 61 52 true (.load 1 false (.t 60)) (.g 62 52 true (.len (.t 61)) (.g 63 52 true (.bin .lss (.t 62) (.c (.pv (.int .i64 2)))) (.o 64 (.pick (.t 52) (.t 63) (.c (.pv (.bool false)))) .nil)))))))))))))))) (.cond (.t 64) .skip (.exit 0))) (.block 1 (.seq (.reg 0 (.o 65 (.mv (.t 7)) (.o 66 (.mv (.t 8)) (.o 67 (.bin .sub (.t 66) (.c (.pv (.int .i64 1)))) (.o 68 (.idx 1 (.t 65) (.t 67)) (.o 69 (.load 1 false (.t 68)) (.o 12 (.mv (.t 69)) .nil))))))) (.seq (.reg 2 (.o 71 (.load 2 true (.t 6)) (.o 72 (.mv (.t 12)) (.o 73 (.fld 1 1 false (.t 6)) (.o 74 (.load 1 false (.t 73)) (.o 75 (.mv (.t 12)) (.o 76 (.idx 3 (.t 74) (.t 75)) (.o 77 (.fld 1 1 false (.t 76)) (.o 78 (.load 1 false (.t 77)) (.o 79 (.mv (.t 7)) (.o 80 (.mv (.t 8)) (.o 81 (.idx 1 (.t 79) (.t 80)) (.o 82 (.load 1 false (.t 81)) (.or (.o 83 (.call 90 [.t 78, .t 82]) (.or (.o 84 (.call 111 [.t 71, .t 72, .t 83]) (.o 70 (.mv (.t 84)) (.o 85 (.ext (.t 70) 0) (.o 86 (.ext (.t 70) 1) (.o 13 (.alloc 39 2 (.agg [.pv (.int .i64 0), .nils])) (.op ⟨none, none, .store 2 (.t 13) (.t 85)⟩ (.o 14 (.mv (.t 86)) .nil))))))) (.o 13 (.alloc 39 2 (.agg [.pv (.int .i64 0), .nils])) (.o 84 (.call 111 [.t 71, .t 72, .t 83]) (.o 70 (.mv (.t 84)) (.o 85 (.ext (.t 70) 0) (.o 86 (.ext (.t 70) 1) (.op ⟨none, none, .store 2 (.t 13) (.t 85)⟩ (.o 14 (.mv (.t 86)) .nil))))))))) (.o 13 (.alloc 39 2 (.agg [.pv (.int .i64 0), .nils])) (.o 83 (.call 90 [.t 78, .t 82]) (.o 84 (.call 111 [.t 71, .t 72, .t 83]) (.o 70 (.mv (.t 84)) (.o 85 (.ext (.t 70) 0) (.o 86 (.ext (.t 70) 1) (.op ⟨none, none, .store 2 (.t 13) (.t 85)⟩ (.o 14 (.mv (.t 86)) .nil)))))))))))))))))))))) (.seq (.reg 0 (.o 87 (.load 2 true (.t 13)) (.op ⟨none, none, .store 2 (.t 6) (.t 87)⟩ .nil))) (.seq (.seq (.reg 0 (.o 88 (.mv (.t 14)) (.o 89 (.bin .geq (.t 88) (.c (.pv (.int .i64 0)))) .nil))) (.cond (.t 89) (.reg 0 (.o 90 (.mv (.t 11)) (.o 91 (.mv (.t 14)) (.o 92 (.lit 3 1 1 [.pv (.int .i64 0)] [(0, .t 91)]) (.o 93 (.app 3 1 8 (.t 90) (.t 92)) (.o 11 (.mv (.t 93)) .nil)))))) .skip)) (.reg 0 (.o 94 (.mv (.t 8)) (.o 95 (.bin .sub (.t 94) (.c (.pv (.int .i64 1)))) (.o 8 (.mv (.t 95)) .nil)))))))))))) (.seq (.reg 0 (.o 96 (.mv (.t 11)) (.o 97 (.len (.t 96)) (.o 15 (.mv (.t 97)) .nil)))) (.seq (.seq (.reg 0 (.o 98 (.fld 1 1 false (.t 6)) (.o 99 (.load 1 false (.t 98)) (.o 100 (.fld 0 1 false (.t 6)) (.o 101 (.load 1 false (.t 100)) (.o 102 (.idx 3 (.t 99) (.t 101)) (.o 103 (.fld 1 1 false (.t 102)) (.o 104 (.load 1 false (.t 103)) (.o 105 (.len (.t 104)) (.o 106 (.bin .eql (.t 105) (.c (.pv (.int .i64 1)))) .nil)))))))))) (.cond (.t 106) (.seq (.reg 0 (.o 107 (.mv (.t 11)) (.o 108 (.fld 0 1 false (.t 6)) (.o 109 (.load 1 false (.t 108)) (.o 110 (.lit 3 1 1 [.pv (.int .i64 0)] [(0, .t 109)]) (.o 111 (.app 3 1 8 (.t 107) (.t 110)) (.o 11 (.mv (.t 111)) .nil))))))) (.reg 0 (.o 112 (.fld 1 1 false (.t 6)) (.o 113 (.load 1 false (.t 112)) (.o 114 (.fld 0 1 false (.t 6)) (.o 115 (.load 1 false (.t 114)) (.o 116 (.idx 3 (.t 113) (.t 115)) (.o 117 (.fld 1 1 false (.t 116)) (.o 118 (.load 1 false (.t 117)) (.o 119 (.idx 1 (.t 118) (.c (.pv (.int .i64 0)))) (.o 120 (.load 1 false (.t 119)) (.o 121 (.fld 0 1 false (.t 6)) (.op ⟨none, none, .store 1 (.t 121) (.t 120)⟩ .nil))))))))))))) .skip)) (.seq (.seq (.reg 0 (.o 16 (.mv (.c (.pv (.int .i64 0)))) .nil)) (.block 2 (.loop (.seq (.seq (.reg 0 (.o 122 (.mv (.t 16)) (.o 123 (.mv (.t 11)) (.o 124 (.len (.t 123)) (.o 125 (.bin .lss (.t 122) (.t 124)) .nil))))) (.cond (.t 125) .skip (.exit 2))) (.seq (.block 3 (.seq (.reg 2 (.o 128 (.load 2 true (.t 6)) (.o 129 (.mv (.t 11)) (.o 130 (.mv (.t 16)) (.o 131 (.idx 1 (.t 129) (.t 130)) (.o 132 (.load 1 false (.t 131)) (.o 133 (.call 112 [.t 128, .t 132]) (.last ⟨none, none, .store 2 (.t 6) (.t 133)⟩)))))))) (.seq (.reg 0 (.o 134 (.mv (.t 16)) (.o 135 (.bin .add (.t 134) (.c (.pv (.int .i64 1)))) (.o 17 (.mv (.t 135)) .nil)))) (.block 4 (.loop (.seq (.seq (.reg 0 (.o 136 (.mv (.t 17)) (.o 137 (.mv (.t 11)) (.o 138 (.len (.t 137)) (.o 139 (.bin .lss (.t 136) (.t 138)) .nil))))) (.cond (.t 139) .skip (.exit 4))) (.seq (.block 5 (.reg 2 (.o 142 (.mv (.t 11)) (.o 143 (.mv (.t 17)) (.o 144 (.mv (.t 11)) (.o 145 (.mv (.t 17)) (.o 146 (.idx 1 (.t 144) (.t 145)) (.o 147 (.load 1 false (.t 146)) (.o 148 (.mv (.t 11)) (.o 149 (.mv (.t 17)) (.o 150 (.idx 1 (.t 148) (.t 149)) (.o 151 (.load 1 false (.t 150)) (.o 152 (.mv (.t 11)) (.o 153 (.mv (.t 16)) (.o 154 (.idx 1 (.t 152) (.t 153)) (.o 155 (.load 1 false (.t 154)) (.o 156 (.bin .gtr (.t 151) (.t 155)) (.o 157 (.call 73 [.t 156]) (.o 158 (.bin .sub (.t 147) (.t 157)) (.o 159 (.idx 1 (.t 142) (.t 143)) (.last ⟨none, none, .store 1 (.t 159) (.t 158)⟩))))))))))))))))))))) (.reg 0 (.o 140 (.mv (.t 17)) (.o 141 (.bin .add (.t 140) (.c (.pv (.int .i64 1)))) (.o 17 (.mv (.t 141)) .nil))))))))))) (.reg 0 (.o 126 (.mv (.t 16)) (.o 127 (.bin .add (.t 126) (.c (.pv (.int .i64 1)))) (.o 16 (.mv (.t 127)) .nil))))))))) (.seq (.reg 0 (.o 160 (.load 2 true (.t 6)) (.o 161 (.mv (.t 15)) (.op ⟨none, none, .store 2 (.t 4) (.t 160)⟩ (.o 5 (.mv (.t 161)) .nil))))) .ret))))))))))), [.c 4 2, .t 5])) := by kernel_rfl
theorem c_spec_dropTree (t : Pt) (k : Int) (hv : validT t = true) : CallS prog 101 [.pv (ptP t), .pv (i64 k)] [] (fun d S => ∃ (T : Pt) (j : Int) (R : Store), SafeT T ∧ d = .tup [treeD 0 T, .pv (i64 j)] ∧ S = obD 25 3 (dG T.ps) :: R) := by
 have hs := valid_smallT hv
 have hok := valid_ok hv
 have hlf := leaf_at hv k
 have hl2 := inT_iff.1 hlf.2.1
 have h1p : 1 ≤ (pthT t k).length := by rw [hlf.1, hgtT]; omega
 have h3p : (pthT t k).length ≤ 3 := by rw [hlf.1]; exact hok.2.1
 have hpn : ((((pthT t k).length : Nat) : Int) - 1).toNat = (pthT t k).length - 1 := by omega
 have hxs : (if okDrop (rowG (pg t (leafAt t k))) k then dropR (rowG (pg t (leafAt t k))) k else []).Sublist (rowG (pg t (leafAt t k))) := dropX_sub
 have hxl := hxs.length_le
 rw [rowG_len] at hxl
 have hin := drop_init hv k hxs
 refine callS_of_VS sl_spec_dropTree (by simp) (VS_seq (VS_r0 rfl (q_box rfl rfl rfl trivial (q_alloc trivial (q_mv rfl (rg_nil (VS_seq (VS_r0 rfl (q_load_ra rfl rfl rfl rfl rfl (by (simp; done)) rfl ?_)))))))))
 refine q_newTs rfl (show NewT prog 105 25 [ptP t] t from c_spec_copyTree t hs) (by repeat (first | exact trivial | refine ⟨.inl rfl, ?_⟩ | refine ⟨.inr ⟨_, rfl, rfl⟩, ?_⟩)) trivial ?_
 refine q_alloc trivial (q_store rfl rfl rfl rfl rfl rfl ⟨rfl, rfl, by simp, by simp [setAt, isCell_own, isCell_sl, isCell_int, isCell_nils], by simp [isOne]⟩ rfl trivial (rg_nil (VS_seq (VS_r0 rfl (q_load_ra rfl rfl rfl rfl rfl (by (simp; done)) rfl (q_mv rfl ?_))))))
 refine q_callp (show PCon prog 106 [ptP t, i64 k] (fun p => p = ints (pthT t k)) from c_spec_pathTo t hs k (hgtT t) 0 100 hok.2.1 hok.2.2.1) rfl trivial ?_
 refine q_mv rfl (rg_nil (VS_seq (VS_r0 rfl (q_mv rfl (q_len_m rfl (q_sub_to ((((pthT t k).length : Nat) : Int) - 1) rfl rfl rfl (inR64 (by omega)) (q_mv rfl (rg_nil (VS_seq (VS_r2 _ hmix (Sub.refl _) (q_fld_r rfl (q_load_r rfl rfl rfl rfl rfl rfl rfl (q_mv rfl (q_mv rfl (q_idx_m (f := fun k => i64 k) (xs := (pthT t k)) (n := ((((pthT t k).length : Nat) : Int) - 1)) rfl rfl (by omega) (by omega) (fun _ => rfl) ?_)))))))))))))))
 rw [hpn]
 refine q_load_c rfl rfl rfl (q_idx_m (f := pgP) (xs := t.ps) (n := leafAt t k) rfl rfl (by omega) (by omega) (fun _ => rfl) (q_load_c rfl rfl rfl (q_mv rfl (q_callp (c_spec_rowOf (pg t (leafAt t k)) (by omega) (by omega)) rfl (Sub.refl _) (q_callp (c_spec_DropPair (rowG (pg t (leafAt t k))) k (by rw [rowG_len]; omega)) rfl (Sub.refl _) (q_mv rfl (q_ext rfl rfl (q_ext rfl rfl (q_mv rfl (q_mv rfl (rg_nil (VS_seq (VS_r2 _ hmix (Sub.refl _) (q_fld_r rfl (q_load_o rfl rfl rfl rfl rfl ?_)))))))))))))))
 refine q_mv rfl (q_mv rfl (q_idx_m (f := fun k => i64 k) (xs := (pthT t k)) (n := ((((pthT t k).length : Nat) : Int) - 1)) rfl rfl (by omega) (by omega) (fun _ => rfl) ?_))
 rw [hpn]
 refine q_load_c rfl rfl rfl (q_mv rfl (q_callp (c_spec_leafOf (if okDrop (rowG (pg t (leafAt t k))) k then dropR (rowG (pg t (leafAt t k))) k else []) (by omega)) rfl (Sub.refl _) (q_idx_dm (f := fun p => .pv (pgP p)) (ty := 25) (xs := t.ps) (n := leafAt t k) rfl rfl (by omega) (by omega) rfl (q_last (q_store_g (ty := 25) (qs := t.ps) (g := (leafG (if okDrop (rowG (pg t (leafAt t k))) k then dropR (rowG (pg t (leafAt t k))) k else []))) rfl rfl rfl rfl (by omega) trivial (rg_nil ?_))))))
 refine VS_bd (Bd.packG 2 (leafAt t k).toNat (qs := t.ps) (g := (leafG (if okDrop (rowG (pg t (leafAt t k))) k then dropR (rowG (pg t (leafAt t k))) k else []))) (by omega) rfl (Bd.now ?_))
 refine VS_bd (Bd.renL (S' := [some ⟨39, 2, [.agg [.pv (i64 0), .nils]]⟩, obD 25 3 (dG (dropQ t k (if okDrop (rowG (pg t (leafAt t k))) k then dropR (rowG (pg t (leafAt t k))) k else [])).ps), some ⟨39, 2, [.agg [.pv (i64 t.r), ownD 1 (dG t.ps)]]⟩]) [1, 2, 3] (zbj _) (by simp) [(4, .ptr 0 0 0), (6, .ptr 2 0 0), (7, .pv (ints (pthT t k))), (8, .pv (i64 ((((pthT t k).length : Nat) : Int) - 1)))] ⟨rfl, rfl, rfl, rfl, trivial⟩ (l3 rfl (obD_mG _) (congrArg (fun z => some (⟨39, 2, [.agg [.pv (i64 t.r), z]]⟩ : Ob)) (mp1_own rfl))) ?_)
 refine VS_st [some ⟨39, 2, [.agg [.pv (i64 0), .nils]]⟩, obD 25 3 (dG (dropQ t k (if okDrop (rowG (pg t (leafAt t k))) k then dropR (rowG (pg t (leafAt t k))) k else [])).ps), some ⟨39, 2, [.agg [.pv (i64 (dropQ t k (if okDrop (rowG (pg t (leafAt t k))) k then dropR (rowG (pg t (leafAt t k))) k else [])).r), ownD 1 (dG (dropQ t k (if okDrop (rowG (pg t (leafAt t k))) k then dropR (rowG (pg t (leafAt t k))) k else [])).ps)]]⟩] (l3 rfl rfl (congrArg (fun z => some (⟨39, 2, [.agg [.pv (i64 t.r), z]]⟩ : Ob)) (ownD_len (by simp)))) (VS_seq (VS_r0 rfl (q_lit0 (q_mv rfl (rg_nil (VS_seq (VS_block ?_)))))))
 refine VS_bd (Bd.pad ?_)
 refine VS_bd (Bd.keepL [(4, .ptr 0 0 0), (6, .ptr 2 0 0), (7, .pv (ints (pthT t k))), (8, .pv (i64 (((((pthT t k).length) : Nat) : Int) - 1))), (11, ownD 3 (dI ([])))] ⟨rfl, rfl, rfl, rfl, rfl, trivial⟩ ?_)
 refine VS_loop (fun mz E S => ∃ n : Nat, ∃ T : Pt, ∃ G : List Int, mz = n ∧ (∃ ht, Alv T G ht 20 ∧ PthI (pthT t k) n T G) ∧ E = env [(4, .ptr 0 0 0), (6, .ptr 2 0 0), (7, .pv (ints (pthT t k))), (8, .pv (i64 (((n : Nat) : Int) - 1))), (11, ownD 3 (dI G))] ∧ S = [some ⟨39, 2, [.agg [.pv (i64 0), .nils]]⟩, obD 25 3 (dG T.ps), some ⟨39, 2, [.agg [.pv (i64 T.r), ownD 1 (dG T.ps)]]⟩, obD 3 1 (dI G)]) ⟨_, (pthT t k).length, (dropQ t k (if okDrop (rowG (pg t (leafAt t k))) k then dropR (rowG (pg t (leafAt t k))) k else [])), [], rfl, hin, rfl, rfl⟩ ?_
 rintro mz _ _ ⟨n, T, G, hmeas, gi, rfl, rfl⟩
 have hal := (Classical.choose_spec gi).1
 have hpi := (Classical.choose_spec gi).2
 have hgl0 := hal.glen
 refine VS_seq (VS_seq (VS_r1 hmix rfl (q_mv rfl (q_gtr rfl rfl (q_mv rfl ?_)))))
 refine q_b rfl (fun g52 => ?_) (fun g52 => ?_)
 ·try simp at g52
  have h1n : 1 < n := by omega
  have hn1 : ((n : Int) - 1).toNat = n - 1 := by omega
  have hn2 : ((n : Int) - 1 - 1).toNat = n - 1 - 1 := by omega
  have hlen := hpi.len
  have hri := hpi.al (n - 1) (by omega)
  have hri2 := hri.1
  have hri3 : (nth (pthT t k) (n - 1)).toNat < T.ps.length := hri.2.1
  refine q_t rfl (q_fld_r rfl (q_t rfl (q_load_o rfl rfl rfl rfl rfl (q_t rfl (q_mv rfl (q_t rfl (q_mv rfl (q_t rfl (q_idx_m (f := fun k => i64 k) (xs := (pthT t k)) (n := (n : Int) - 1) rfl rfl (by omega) (by omega) (fun _ => rfl) ?_)))))))))
  rw [hn1]
  refine q_t rfl (q_load_c rfl rfl rfl (q_t rfl (q_idx_dm (f := fun p => .pv (pgP p)) (ty := 25) (xs := T.ps) (n := (nth (pthT t k) (n - 1))) rfl rfl (by omega) (by omega) rfl (q_t rfl (q_fld_r rfl (q_t rfl (q_load_gf (ty := 25) (qs := T.ps) rfl rfl (by omega) rfl rfl (q_t rfl (q_len_m rfl (q_t rfl (q_lss rfl rfl (q_pick_t rfl rfl (rg_nil ?_)))))))))))))
  refine VS_cond rfl (fun c0 => ?_) (fun c0 => ?_)
  ·try simp at c0
   have hds := drop_step hal hpi h1n
   have hui : (((dUp (pthT t k) n) : Nat) : Int) = (nth (pthT t k) (n - 1 - 1)) := by have := (hpi.al (n - 1 - 1) (by omega)).1; show (((nth (pthT t k) (n - 1 - 1)).toNat : Nat) : Int) = _; omega
   have hul : (nth (pthT t k) (n - 1 - 1)).toNat < T.ps.length := (hpi.al (n - 1 - 1) (by omega)).2.1
   have hmd := hpi.md (n - 1 - 1) (by omega)
   rw [show n - 1 - 1 + 1 = n - 1 by omega] at hmd
   have hct : (nth T.ps (nth (pthT t k) (n - 1 - 1)).toNat).cs.contains (nth (pthT t k) (n - 1)) = true := List.contains_iff_mem.2 hmd.1
   have hpl : plc (nth T.ps (nth (pthT t k) (n - 1 - 1)).toNat).cs (nth (pthT t k) (n - 1)) < (nth T.ps (nth (pthT t k) (n - 1 - 1)).toNat).cs.length := plc_lt hmd.1
   have hc5 : (nth T.ps (nth (pthT t k) (n - 1 - 1)).toNat).cs.length ≤ 5 := (hal.bd _ hul).ln.2.1
   have hmx : max 0 (((plc (nth T.ps (nth (pthT t k) (n - 1 - 1)).toNat).cs (nth (pthT t k) (n - 1)) : Nat) : Int) - 1) = (((dF (pthT t k) n T) : Nat) : Int) := by show max 0 (((plc (nth T.ps (nth (pthT t k) (n - 1 - 1)).toNat).cs (nth (pthT t k) (n - 1)) : Nat) : Int) - 1) = ((plc (nth T.ps (nth (pthT t k) (n - 1 - 1)).toNat).cs (nth (pthT t k) (n - 1)) - 1 : Nat) : Int); omega
   have hgl := hal.glen
   have hmj := mend_join hds.1
   refine VS_skip (VS_block (VS_seq ?_))
   refine VS_bd (Bd.keepL [(4, .ptr 0 0 0), (6, .ptr 2 0 0), (7, .pv (ints (pthT t k))), (8, .pv (i64 (((n : Nat) : Int) - 1))), (11, ownD 3 (dI G))] ⟨rfl, rfl, rfl, rfl, rfl, trivial⟩ ?_)
   refine VS_r0 rfl (q_mv rfl (q_mv rfl (q_sub rfl rfl (inR64 (by omega)) (q_idx_m (f := fun k => i64 k) (xs := (pthT t k)) (n := (n : Int) - 1 - 1) rfl rfl (by omega) (by omega) (fun _ => rfl) ?_))))
   rw [hn2]
   refine q_load_c rfl rfl rfl (q_mv rfl (rg_nil (VS_seq ?_)))
   refine VS_bd (Bd.frzF 1 2 0 1 25 3 (xs := dG T.ps) (by decide) rfl (toPVs_dG _) rfl rfl rfl ?_)
   refine VS_st [some ⟨39, 2, [.agg [.pv (i64 0), .nils]]⟩, none, some ⟨39, 2, [.agg [.pv (i64 T.r), .pv (pgsP T.ps)]]⟩, obD 3 1 (dI G)] rfl (VS_r2 [none, none, some ⟨39, 2, [.agg [.pv (i64 T.r), .pv (pgsP T.ps)]]⟩] hmix (SubL.sub (by repeat constructor)) (q_load_ra rfl rfl rfl rfl rfl (by (simp; done)) rfl (q_mv rfl (q_fld_r rfl (q_load_r rfl rfl rfl rfl rfl rfl rfl (q_mv rfl (q_idx_m (f := pgP) (xs := T.ps) (n := (nth (pthT t k) (n - 1 - 1))) rfl rfl (by omega) (by omega) (fun _ => rfl) (q_fld_c rfl rfl (q_load_c rfl rfl rfl (q_mv rfl (q_mv rfl (q_idx_m (f := fun k => i64 k) (xs := (pthT t k)) (n := (n : Int) - 1) rfl rfl (by omega) (by omega) (fun _ => rfl) ?_))))))))))))
   rw [hn1]
   refine q_load_c rfl rfl rfl ?_
   refine q_or ?_ ?_
   ·skip
    refine q_callp ((c_spec_placeOf (nth T.ps (nth (pthT t k) (n - 1 - 1)).toNat).cs (nth (pthT t k) (n - 1)) (by omega)).to (y := i64 ((plc (nth T.ps (nth (pthT t k) (n - 1 - 1)).toNat).cs (nth (pthT t k) (n - 1)) : Nat) : Int)) (by rw [if_pos hct])) rfl (SubL.sub (by repeat constructor)) ?_
    refine q_or ?_ ?_
    ·skip
     refine q_newTp rfl (show NewTp prog 111 25 [ptP T, i64 (nth (pthT t k) (n - 1 - 1)), i64 ((plc (nth T.ps (nth (pthT t k) (n - 1 - 1)).toNat).cs (nth (pthT t k) (n - 1)) : Nat) : Int)] (mendT T (dUp (pthT t k) n) (dF (pthT t k) n T)) (mendG T (dUp (pthT t k) n) (dF (pthT t k) n T)) from by have hq := c_spec_mend T (dUp (pthT t k) n) (dF (pthT t k) n T) ((plc (nth T.ps (nth (pthT t k) (n - 1 - 1)).toNat).cs (nth (pthT t k) (n - 1)) : Nat) : Int) hmx (by omega) (hds.1.mend hal); rw [hui] at hq; exact hq) (by repeat (first | exact trivial | refine ⟨.inl rfl, ?_⟩ | refine ⟨.inr ⟨_, rfl, rfl⟩, ?_⟩)) (SubL.sub (by repeat constructor)) ?_
     refine q_mv rfl (q_ext rfl rfl (q_ext rfl rfl (q_alloc (SubL.sub (by repeat constructor)) (q_store rfl rfl rfl rfl rfl rfl ⟨rfl, rfl, by simp, by simp [setAt, isCell_own, isCell_sl, isCell_int, isCell_nils], by simp [isOne]⟩ rfl (SubL.sub (by repeat constructor)) (q_mv rfl (rg_nil ?_))))))
     refine VS_bd (Bd.renL (S' := [some ⟨39, 2, [.agg [.pv (i64 0), .nils]]⟩, obD 25 3 (dG (mendT T (dUp (pthT t k) n) (dF (pthT t k) n T)).ps), some ⟨39, 2, [.agg [.pv (i64 T.r), .pv (pgsP T.ps)]]⟩, obD 3 1 (dI G), some ⟨39, 2, [.agg [.pv (i64 (mendT T (dUp (pthT t k) n) (dF (pthT t k) n T)).r), ownD 1 (dG (mendT T (dUp (pthT t k) n) (dF (pthT t k) n T)).ps)]]⟩]) [0, 4, 2, 3, 5] (zbj _) (by simp) [(4, .ptr 0 0 0), (6, .ptr 2 0 0), (7, .pv (ints (pthT t k))), (8, .pv (i64 (((n : Nat) : Int) - 1))), (11, ownD 3 (dI G)), (13, .ptr 4 0 0), (14, .pv (i64 (mendG T (dUp (pthT t k) n) (dF (pthT t k) n T))))] ⟨rfl, rfl, rfl, rfl, inv_own rfl, rfl, rfl, trivial⟩ (l5 rfl (obD_mG _) rfl (obD_mI _) (congrArg (fun z => some (⟨39, 2, [.agg [.pv (i64 T.r), z]]⟩ : Ob)) (mp1_own rfl))) ?_)
     refine VS_seq (VS_r0 rfl (q_load_ra rfl rfl rfl rfl rfl (by (simp; done)) rfl (q_store rfl rfl rfl rfl rfl rfl ⟨rfl, rfl, by simp, by simp [setAt, isCell_own, isCell_sl, isCell_int, isCell_nils], by simp [isOne]⟩ rfl trivial (rg_nil (VS_seq (VS_seq (VS_r0 rfl (q_mv rfl (q_geq rfl rfl (rg_nil ?_))))))))))
     refine VS_cond rfl (fun c1 => ?_) (fun c1 => ?_)
     ·try simp at c1
      refine VS_r0 rfl (q_mv rfl (q_mv rfl (q_lit (xs := [i64 (mendG T (dUp (pthT t k) n) (dF (pthT t k) n T))]) rfl rfl rfl rfl (q_app_dm (xs := G) (ys := [mendG T (dUp (pthT t k) n) (dF (pthT t k) n T)]) (f := fun k => .pv (i64 k)) rfl rfl rfl rfl ⟨by simp; omega, by simp; omega⟩ trivial (q_mv rfl (rg_nil (VS_r0 rfl (q_mv rfl (q_sub_to (((n - 1 : Nat) : Int) - 1) rfl rfl (by omega) (inR64 (by omega)) (q_mv rfl (rg_nil ?_)))))))))))
      refine Bd.renL [0, 1, 2, 5] (zbj _) (by simp) [(4, .ptr 0 0 0), (6, .ptr 2 0 0), (7, .pv (ints (pthT t k))), (8, .pv (i64 ((((n - 1) : Nat) : Int) - 1))), (11, ownD 3 (dI ((G ++ [mendG T (dUp (pthT t k) n) (dF (pthT t k) n T)]))))] ⟨rfl, rfl, rfl, rfl, inv_own rfl, trivial⟩ (l4 rfl (obD_mG _) (congrArg (fun z => some (⟨39, 2, [.agg [.pv (i64 (mendT T (dUp (pthT t k) n) (dF (pthT t k) n T)).r), z]]⟩ : Ob)) (mp1_own rfl)) (obD_mI _)) ⟨_, ?_, n - 1, (mendT T (dUp (pthT t k) n) (dF (pthT t k) n T)), (G ++ [mendG T (dUp (pthT t k) n) (dF (pthT t k) n T)]), rfl, ?_, rfl, rfl⟩
      ·omega
      ·have hj : mJoin T (dUp (pthT t k) n) (dF (pthT t k) n T) = true := hmj.1.2 (by omega)
       have hq := hds.2
       rw [goneM, if_pos hj, ← hmj.2.1 hj] at hq
       exact ⟨_, hq⟩
     ·try simp at c1
      refine VS_skip (VS_r0 rfl (q_mv rfl (q_sub_to (((n - 1 : Nat) : Int) - 1) rfl rfl (by omega) (inR64 (by omega)) (q_mv rfl (rg_nil ?_)))))
      refine Bd.renL [0, 1, 2, 3] (zbj _) (by simp) [(4, .ptr 0 0 0), (6, .ptr 2 0 0), (7, .pv (ints (pthT t k))), (8, .pv (i64 ((((n - 1) : Nat) : Int) - 1))), (11, ownD 3 (dI G))] ⟨rfl, rfl, rfl, rfl, inv_own rfl, trivial⟩ (l4 rfl (obD_mG _) (congrArg (fun z => some (⟨39, 2, [.agg [.pv (i64 (mendT T (dUp (pthT t k) n) (dF (pthT t k) n T)).r), z]]⟩ : Ob)) (mp1_own rfl)) (obD_mI _)) ⟨_, ?_, n - 1, (mendT T (dUp (pthT t k) n) (dF (pthT t k) n T)), G, rfl, ?_, rfl, rfl⟩
      ·omega
      ·have hj : ¬ mJoin T (dUp (pthT t k) n) (dF (pthT t k) n T) = true := fun e => by have := hmj.1.1 e; omega
       have hq := hds.2
       rw [goneM, if_neg hj] at hq
       exact ⟨_, hq⟩
    ·skip
     refine q_alloc (SubL.sub (by repeat constructor)) ?_
     refine q_newTp rfl (show NewTp prog 111 25 [ptP T, i64 (nth (pthT t k) (n - 1 - 1)), i64 ((plc (nth T.ps (nth (pthT t k) (n - 1 - 1)).toNat).cs (nth (pthT t k) (n - 1)) : Nat) : Int)] (mendT T (dUp (pthT t k) n) (dF (pthT t k) n T)) (mendG T (dUp (pthT t k) n) (dF (pthT t k) n T)) from by have hq := c_spec_mend T (dUp (pthT t k) n) (dF (pthT t k) n T) ((plc (nth T.ps (nth (pthT t k) (n - 1 - 1)).toNat).cs (nth (pthT t k) (n - 1)) : Nat) : Int) hmx (by omega) (hds.1.mend hal); rw [hui] at hq; exact hq) (by repeat (first | exact trivial | refine ⟨.inl rfl, ?_⟩ | refine ⟨.inr ⟨_, rfl, rfl⟩, ?_⟩)) (SubL.sub (by repeat constructor)) ?_
     refine q_mv rfl (q_ext rfl rfl (q_ext rfl rfl (q_store rfl rfl rfl rfl rfl rfl ⟨rfl, rfl, by simp, by simp [setAt, isCell_own, isCell_sl, isCell_int, isCell_nils], by simp [isOne]⟩ rfl (SubL.sub (by repeat constructor)) (q_mv rfl (rg_nil ?_)))))
     refine VS_bd (Bd.renL (S' := [some ⟨39, 2, [.agg [.pv (i64 0), .nils]]⟩, obD 25 3 (dG (mendT T (dUp (pthT t k) n) (dF (pthT t k) n T)).ps), some ⟨39, 2, [.agg [.pv (i64 T.r), .pv (pgsP T.ps)]]⟩, obD 3 1 (dI G), some ⟨39, 2, [.agg [.pv (i64 (mendT T (dUp (pthT t k) n) (dF (pthT t k) n T)).r), ownD 1 (dG (mendT T (dUp (pthT t k) n) (dF (pthT t k) n T)).ps)]]⟩]) [0, 5, 2, 3, 4] (zbj _) (by simp) [(4, .ptr 0 0 0), (6, .ptr 2 0 0), (7, .pv (ints (pthT t k))), (8, .pv (i64 (((n : Nat) : Int) - 1))), (11, ownD 3 (dI G)), (13, .ptr 4 0 0), (14, .pv (i64 (mendG T (dUp (pthT t k) n) (dF (pthT t k) n T))))] ⟨rfl, rfl, rfl, rfl, inv_own rfl, rfl, rfl, trivial⟩ (l5 rfl (obD_mG _) rfl (obD_mI _) (congrArg (fun z => some (⟨39, 2, [.agg [.pv (i64 T.r), z]]⟩ : Ob)) (mp1_own rfl))) ?_)
     refine VS_seq (VS_r0 rfl (q_load_ra rfl rfl rfl rfl rfl (by (simp; done)) rfl (q_store rfl rfl rfl rfl rfl rfl ⟨rfl, rfl, by simp, by simp [setAt, isCell_own, isCell_sl, isCell_int, isCell_nils], by simp [isOne]⟩ rfl trivial (rg_nil (VS_seq (VS_seq (VS_r0 rfl (q_mv rfl (q_geq rfl rfl (rg_nil ?_))))))))))
     refine VS_cond rfl (fun c1 => ?_) (fun c1 => ?_)
     ·try simp at c1
      refine VS_r0 rfl (q_mv rfl (q_mv rfl (q_lit (xs := [i64 (mendG T (dUp (pthT t k) n) (dF (pthT t k) n T))]) rfl rfl rfl rfl (q_app_dm (xs := G) (ys := [mendG T (dUp (pthT t k) n) (dF (pthT t k) n T)]) (f := fun k => .pv (i64 k)) rfl rfl rfl rfl ⟨by simp; omega, by simp; omega⟩ trivial (q_mv rfl (rg_nil (VS_r0 rfl (q_mv rfl (q_sub_to (((n - 1 : Nat) : Int) - 1) rfl rfl (by omega) (inR64 (by omega)) (q_mv rfl (rg_nil ?_)))))))))))
      refine Bd.renL [0, 1, 2, 5] (zbj _) (by simp) [(4, .ptr 0 0 0), (6, .ptr 2 0 0), (7, .pv (ints (pthT t k))), (8, .pv (i64 ((((n - 1) : Nat) : Int) - 1))), (11, ownD 3 (dI ((G ++ [mendG T (dUp (pthT t k) n) (dF (pthT t k) n T)]))))] ⟨rfl, rfl, rfl, rfl, inv_own rfl, trivial⟩ (l4 rfl (obD_mG _) (congrArg (fun z => some (⟨39, 2, [.agg [.pv (i64 (mendT T (dUp (pthT t k) n) (dF (pthT t k) n T)).r), z]]⟩ : Ob)) (mp1_own rfl)) (obD_mI _)) ⟨_, ?_, n - 1, (mendT T (dUp (pthT t k) n) (dF (pthT t k) n T)), (G ++ [mendG T (dUp (pthT t k) n) (dF (pthT t k) n T)]), rfl, ?_, rfl, rfl⟩
      ·omega
      ·have hj : mJoin T (dUp (pthT t k) n) (dF (pthT t k) n T) = true := hmj.1.2 (by omega)
       have hq := hds.2
       rw [goneM, if_pos hj, ← hmj.2.1 hj] at hq
       exact ⟨_, hq⟩
     ·try simp at c1
      refine VS_skip (VS_r0 rfl (q_mv rfl (q_sub_to (((n - 1 : Nat) : Int) - 1) rfl rfl (by omega) (inR64 (by omega)) (q_mv rfl (rg_nil ?_)))))
      refine Bd.renL [0, 1, 2, 3] (zbj _) (by simp) [(4, .ptr 0 0 0), (6, .ptr 2 0 0), (7, .pv (ints (pthT t k))), (8, .pv (i64 ((((n - 1) : Nat) : Int) - 1))), (11, ownD 3 (dI G))] ⟨rfl, rfl, rfl, rfl, inv_own rfl, trivial⟩ (l4 rfl (obD_mG _) (congrArg (fun z => some (⟨39, 2, [.agg [.pv (i64 (mendT T (dUp (pthT t k) n) (dF (pthT t k) n T)).r), z]]⟩ : Ob)) (mp1_own rfl)) (obD_mI _)) ⟨_, ?_, n - 1, (mendT T (dUp (pthT t k) n) (dF (pthT t k) n T)), G, rfl, ?_, rfl, rfl⟩
      ·omega
      ·have hj : ¬ mJoin T (dUp (pthT t k) n) (dF (pthT t k) n T) = true := fun e => by have := hmj.1.1 e; omega
       have hq := hds.2
       rw [goneM, if_neg hj] at hq
       exact ⟨_, hq⟩
   ·skip
    refine q_alloc (SubL.sub (by repeat constructor)) (q_callp ((c_spec_placeOf (nth T.ps (nth (pthT t k) (n - 1 - 1)).toNat).cs (nth (pthT t k) (n - 1)) (by omega)).to (y := i64 ((plc (nth T.ps (nth (pthT t k) (n - 1 - 1)).toNat).cs (nth (pthT t k) (n - 1)) : Nat) : Int)) (by rw [if_pos hct])) rfl (SubL.sub (by repeat constructor)) ?_)
    refine q_newTp rfl (show NewTp prog 111 25 [ptP T, i64 (nth (pthT t k) (n - 1 - 1)), i64 ((plc (nth T.ps (nth (pthT t k) (n - 1 - 1)).toNat).cs (nth (pthT t k) (n - 1)) : Nat) : Int)] (mendT T (dUp (pthT t k) n) (dF (pthT t k) n T)) (mendG T (dUp (pthT t k) n) (dF (pthT t k) n T)) from by have hq := c_spec_mend T (dUp (pthT t k) n) (dF (pthT t k) n T) ((plc (nth T.ps (nth (pthT t k) (n - 1 - 1)).toNat).cs (nth (pthT t k) (n - 1)) : Nat) : Int) hmx (by omega) (hds.1.mend hal); rw [hui] at hq; exact hq) (by repeat (first | exact trivial | refine ⟨.inl rfl, ?_⟩ | refine ⟨.inr ⟨_, rfl, rfl⟩, ?_⟩)) (SubL.sub (by repeat constructor)) ?_
    refine q_mv rfl (q_ext rfl rfl (q_ext rfl rfl (q_store rfl rfl rfl rfl rfl rfl ⟨rfl, rfl, by simp, by simp [setAt, isCell_own, isCell_sl, isCell_int, isCell_nils], by simp [isOne]⟩ rfl (SubL.sub (by repeat constructor)) (q_mv rfl (rg_nil ?_)))))
    refine VS_bd (Bd.renL (S' := [some ⟨39, 2, [.agg [.pv (i64 0), .nils]]⟩, obD 25 3 (dG (mendT T (dUp (pthT t k) n) (dF (pthT t k) n T)).ps), some ⟨39, 2, [.agg [.pv (i64 T.r), .pv (pgsP T.ps)]]⟩, obD 3 1 (dI G), some ⟨39, 2, [.agg [.pv (i64 (mendT T (dUp (pthT t k) n) (dF (pthT t k) n T)).r), ownD 1 (dG (mendT T (dUp (pthT t k) n) (dF (pthT t k) n T)).ps)]]⟩]) [0, 5, 2, 3, 4] (zbj _) (by simp) [(4, .ptr 0 0 0), (6, .ptr 2 0 0), (7, .pv (ints (pthT t k))), (8, .pv (i64 (((n : Nat) : Int) - 1))), (11, ownD 3 (dI G)), (13, .ptr 4 0 0), (14, .pv (i64 (mendG T (dUp (pthT t k) n) (dF (pthT t k) n T))))] ⟨rfl, rfl, rfl, rfl, inv_own rfl, rfl, rfl, trivial⟩ (l5 rfl (obD_mG _) rfl (obD_mI _) (congrArg (fun z => some (⟨39, 2, [.agg [.pv (i64 T.r), z]]⟩ : Ob)) (mp1_own rfl))) ?_)
    refine VS_seq (VS_r0 rfl (q_load_ra rfl rfl rfl rfl rfl (by (simp; done)) rfl (q_store rfl rfl rfl rfl rfl rfl ⟨rfl, rfl, by simp, by simp [setAt, isCell_own, isCell_sl, isCell_int, isCell_nils], by simp [isOne]⟩ rfl trivial (rg_nil (VS_seq (VS_seq (VS_r0 rfl (q_mv rfl (q_geq rfl rfl (rg_nil ?_))))))))))
    refine VS_cond rfl (fun c1 => ?_) (fun c1 => ?_)
    ·try simp at c1
     refine VS_r0 rfl (q_mv rfl (q_mv rfl (q_lit (xs := [i64 (mendG T (dUp (pthT t k) n) (dF (pthT t k) n T))]) rfl rfl rfl rfl (q_app_dm (xs := G) (ys := [mendG T (dUp (pthT t k) n) (dF (pthT t k) n T)]) (f := fun k => .pv (i64 k)) rfl rfl rfl rfl ⟨by simp; omega, by simp; omega⟩ trivial (q_mv rfl (rg_nil (VS_r0 rfl (q_mv rfl (q_sub_to (((n - 1 : Nat) : Int) - 1) rfl rfl (by omega) (inR64 (by omega)) (q_mv rfl (rg_nil ?_)))))))))))
     refine Bd.renL [0, 1, 2, 5] (zbj _) (by simp) [(4, .ptr 0 0 0), (6, .ptr 2 0 0), (7, .pv (ints (pthT t k))), (8, .pv (i64 ((((n - 1) : Nat) : Int) - 1))), (11, ownD 3 (dI ((G ++ [mendG T (dUp (pthT t k) n) (dF (pthT t k) n T)]))))] ⟨rfl, rfl, rfl, rfl, inv_own rfl, trivial⟩ (l4 rfl (obD_mG _) (congrArg (fun z => some (⟨39, 2, [.agg [.pv (i64 (mendT T (dUp (pthT t k) n) (dF (pthT t k) n T)).r), z]]⟩ : Ob)) (mp1_own rfl)) (obD_mI _)) ⟨_, ?_, n - 1, (mendT T (dUp (pthT t k) n) (dF (pthT t k) n T)), (G ++ [mendG T (dUp (pthT t k) n) (dF (pthT t k) n T)]), rfl, ?_, rfl, rfl⟩
     ·omega
     ·have hj : mJoin T (dUp (pthT t k) n) (dF (pthT t k) n T) = true := hmj.1.2 (by omega)
      have hq := hds.2
      rw [goneM, if_pos hj, ← hmj.2.1 hj] at hq
      exact ⟨_, hq⟩
    ·try simp at c1
     refine VS_skip (VS_r0 rfl (q_mv rfl (q_sub_to (((n - 1 : Nat) : Int) - 1) rfl rfl (by omega) (inR64 (by omega)) (q_mv rfl (rg_nil ?_)))))
     refine Bd.renL [0, 1, 2, 3] (zbj _) (by simp) [(4, .ptr 0 0 0), (6, .ptr 2 0 0), (7, .pv (ints (pthT t k))), (8, .pv (i64 ((((n - 1) : Nat) : Int) - 1))), (11, ownD 3 (dI G))] ⟨rfl, rfl, rfl, rfl, inv_own rfl, trivial⟩ (l4 rfl (obD_mG _) (congrArg (fun z => some (⟨39, 2, [.agg [.pv (i64 (mendT T (dUp (pthT t k) n) (dF (pthT t k) n T)).r), z]]⟩ : Ob)) (mp1_own rfl)) (obD_mI _)) ⟨_, ?_, n - 1, (mendT T (dUp (pthT t k) n) (dF (pthT t k) n T)), G, rfl, ?_, rfl, rfl⟩
     ·omega
     ·have hj : ¬ mJoin T (dUp (pthT t k) n) (dF (pthT t k) n T) = true := fun e => by have := hmj.1.1 e; omega
      have hq := hds.2
      rw [goneM, if_neg hj] at hq
      exact ⟨_, hq⟩
  ·try simp at c0
   refine VS_exit (VS_seq (VS_r0 rfl (q_mv rfl (q_len_dm rfl (q_mv rfl (rg_nil ?_))))))
   refine VS_join (fun E S => ∃ (T : Pt) (W : List Int) (j : Int), (∃ ht, Alv T W ht 20) ∧ E = env [(4, .ptr 0 0 0), (6, .ptr 2 0 0), (11, ownD 3 (dI W)), (15, .pv (i64 j))] ∧ S = [some ⟨39, 2, [.agg [.pv (i64 0), .nils]]⟩, obD 25 3 (dG T.ps), some ⟨39, 2, [.agg [.pv (i64 T.r), ownD 1 (dG T.ps)]]⟩, obD 3 1 (dI W)]) ?_ ?_
   ·skip
    refine VS_seq ?_
    have hroot := hal.root
    have hro1 := hroot.1
    have hro2 : T.r.toNat < T.ps.length := hroot.2.1
    refine VS_r0 rfl (q_fld_r rfl (q_load_o rfl rfl rfl rfl rfl (q_fld_r rfl (q_load_r rfl rfl rfl rfl rfl rfl rfl (q_idx_dm (f := fun p => .pv (pgP p)) (ty := 25) (xs := T.ps) (n := T.r) rfl rfl (by omega) (by omega) rfl (q_fld_r rfl (q_load_gf (ty := 25) (qs := T.ps) rfl rfl (by omega) rfl rfl (q_len_m rfl (q_eql rfl rfl (rg_nil ?_))))))))))
    refine VS_cond rfl (fun c2 => ?_) (fun c2 => ?_)
    ·try simp at c2
     have hrr := hal.root
     refine VS_seq (VS_r0 rfl (q_mv rfl (q_fld_r rfl (q_load_r rfl rfl rfl rfl rfl rfl rfl (q_lit (xs := [i64 T.r]) rfl rfl rfl rfl (q_app_dm (xs := G) (ys := [T.r]) (f := fun k => .pv (i64 k)) rfl rfl rfl rfl ⟨by simp; omega, by simp; omega⟩ trivial (q_mv rfl (rg_nil (VS_r0 rfl (q_fld_r rfl (q_load_o rfl rfl rfl rfl rfl (q_fld_r rfl (q_load_r rfl rfl rfl rfl rfl rfl rfl (q_idx_dm (f := fun p => .pv (pgP p)) (ty := 25) (xs := T.ps) (n := T.r) rfl rfl (by omega) (by omega) rfl (q_fld_r rfl ?_)))))))))))))))
     refine q_load_gf (ty := 25) (qs := T.ps) rfl rfl (by omega) rfl rfl (q_idx_m (f := fun k => i64 k) (xs := (nth T.ps T.r.toNat).cs) (n := 0) rfl rfl (by omega) (by omega) (fun _ => rfl) (q_load_c rfl rfl rfl (q_fld_r rfl (q_store rfl rfl rfl rfl rfl rfl ⟨rfl, rfl, by simp, rfl, by simp [isOne]⟩ rfl trivial (rg_nil ?_)))))
     have hone : (nth T.ps T.r.toNat).cs = [nth (nth T.ps T.r.toNat).cs 0] := one_kid (by omega)
     exact Bd.renL (S' := [some ⟨39, 2, [.agg [.pv (i64 0), .nils]]⟩, obD 25 3 (dG T.ps), some ⟨39, 2, [.agg [.pv (i64 (nth (nth T.ps T.r.toNat).cs 0)), ownD 1 (dG T.ps)]]⟩, obD 3 1 (dI (G ++ [T.r]))]) [0, 1, 2, 4] (zbj _) (by simp) [(4, .ptr 0 0 0), (6, .ptr 2 0 0), (11, ownD 3 (dI (G ++ [T.r]))), (15, .pv (i64 (G.length : Int)))] ⟨rfl, rfl, inv_own rfl, rfl, trivial⟩ (l4 rfl (obD_mG _) (congrArg (fun z => some (⟨39, 2, [.agg [.pv (i64 (nth (nth T.ps T.r.toNat).cs 0)), z]]⟩ : Ob)) (mp1_own rfl)) (obD_mI _)) ⟨⟨nth (nth T.ps T.r.toNat).cs 0, T.ps⟩, G ++ [T.r], _, ⟨_, hal.root1 hone⟩, rfl, rfl⟩
    ·try simp at c2
     refine VS_skip ?_
     exact Bd.keepL [(4, .ptr 0 0 0), (6, .ptr 2 0 0), (11, ownD 3 (dI G)), (15, .pv (i64 (G.length : Int)))] ⟨rfl, rfl, rfl, rfl, trivial⟩ ⟨T, G, _, ⟨_, hal⟩, rfl, rfl⟩
   ·rintro _ _ ⟨T, W, j, ga0, rfl, rfl⟩
    refine VS_seq (VS_seq (VS_r0 rfl (q_mv rfl (rg_nil (VS_block ?_)))))
    refine VS_bd (Bd.keepL [(4, .ptr 0 0 0), (6, .ptr 2 0 0), (11, ownD 3 (dI W)), (15, .pv (i64 j)), (16, .pv (i64 0))] ⟨rfl, rfl, rfl, rfl, rfl, trivial⟩ ?_)
    refine VS_loop (fun mz E S => ∃ i : Nat, ∃ T : Pt, ∃ W : List Int, mz = W.length - i ∧ (i ≤ W.length) ∧ (W.length ≤ 16) ∧ (∃ ht b, Alv T (W.drop i) ht b ∧ b ≤ 20 + i) ∧ E = env [(4, .ptr 0 0 0), (6, .ptr 2 0 0), (11, ownD 3 (dI W)), (15, .pv (i64 j)), (16, .pv (i64 i))] ∧ S = [some ⟨39, 2, [.agg [.pv (i64 0), .nils]]⟩, obD 25 3 (dG T.ps), some ⟨39, 2, [.agg [.pv (i64 T.r), ownD 1 (dG T.ps)]]⟩, obD 3 1 (dI W)]) ⟨_, 0, T, W, rfl, (by omega), (by obtain ⟨_, h⟩ := ga0; exact h.glen), (by obtain ⟨_, h⟩ := ga0; exact ⟨_, _, by simpa using h, by omega⟩), rfl, rfl⟩ ?_
    rintro mz _ _ ⟨i, T, W, hmeas, g0, gw, ga, rfl, rfl⟩
    refine VS_seq (VS_seq (VS_r0 rfl (q_mv rfl (q_mv rfl (q_len_dm rfl (q_lss rfl rfl (rg_nil ?_)))))))
    refine VS_cond rfl (fun c3 => ?_) (fun c3 => ?_)
    ·try simp at c3
     refine VS_skip (VS_seq (VS_block (VS_seq ?_)))
     have hA0 := Classical.choose_spec (Classical.choose_spec ga)
     have hgr : ∀ p, i ≤ p → p < W.length → 0 ≤ nth W p ∧ nth W p ≤ 16 := fun p h1 h2 => by have h3 := hA0.1.gr (nth W p) (by rw [nth_eq h2, List.mem_drop_iff_getElem]; exact ⟨p - i, by omega, by congr 1; omega⟩); have h4 := hA0.1.many; omega
     have hgi := hgr i (Nat.le_refl _) (by omega)
     have hco := hA0.1.cutOK (by have := hA0.2; omega)
     refine VS_bd (Bd.frzF 1 2 0 1 25 3 (xs := dG T.ps) (by decide) rfl (toPVs_dG _) rfl rfl rfl ?_)
     refine VS_st [some ⟨39, 2, [.agg [.pv (i64 0), .nils]]⟩, none, some ⟨39, 2, [.agg [.pv (i64 T.r), .pv (pgsP T.ps)]]⟩, obD 3 1 (dI W)] rfl (VS_r2 [none, none, some ⟨39, 2, [.agg [.pv (i64 T.r), .pv (pgsP T.ps)]]⟩, obD 3 1 (dI W)] hmix (SubL.sub (by repeat constructor)) (q_load_ra rfl rfl rfl rfl rfl (by (simp; done)) rfl (q_mv rfl (q_mv rfl (q_idx_dm (f := fun k => .pv (i64 k)) (ty := 3) (xs := W) (n := ((i : Nat) : Int)) rfl rfl (by omega) (by omega) rfl ?_)))))
     rw [Int.toNat_natCast]
     refine q_load_d (ty := 3) (xs := W) rfl rfl (by omega) rfl rfl rfl ?_
     refine q_newTs rfl (show NewT prog 112 25 [ptP T, i64 (nth W i)] (cutT T (nth W i)) from c_spec_cutPage T (nth W i) (by omega) hco) (by repeat (first | exact trivial | refine ⟨.inl rfl, ?_⟩ | refine ⟨.inr ⟨_, rfl, rfl⟩, ?_⟩)) (SubL.sub (by repeat constructor)) ?_
     refine q_last (q_store rfl rfl rfl rfl rfl rfl ⟨rfl, rfl, by simp, by simp [setAt, isCell_own, isCell_sl, isCell_int, isCell_nils], by simp [isOne]⟩ rfl trivial (rg_nil ?_))
     refine VS_bd (Bd.renL (S' := [some ⟨39, 2, [.agg [.pv (i64 0), .nils]]⟩, obD 25 3 (dG (cutT T (nth W i)).ps), some ⟨39, 2, [.agg [.pv (i64 (cutT T (nth W i)).r), ownD 1 (dG (cutT T (nth W i)).ps)]]⟩, obD 3 1 (dI W)]) [0, 4, 2, 3] (zbj _) (by simp) [(4, .ptr 0 0 0), (6, .ptr 2 0 0), (11, ownD 3 (dI W)), (15, .pv (i64 j)), (16, .pv (i64 i))] ⟨rfl, rfl, inv_own rfl, rfl, rfl, trivial⟩ (l4 rfl (obD_mG _) (congrArg (fun z => some (⟨39, 2, [.agg [.pv (i64 (cutC (nth W i) T.r)), z]]⟩ : Ob)) (mp1_own rfl)) (obD_mI _)) ?_)
     refine VS_seq (VS_r0 rfl (q_mv rfl (q_add rfl rfl (inR64 (by omega)) (q_mv rfl (rg_nil (VS_block ?_))))))
     refine VS_bd (Bd.keepL [(4, .ptr 0 0 0), (6, .ptr 2 0 0), (11, ownD 3 (dI W)), (15, .pv (i64 j)), (16, .pv (i64 i)), (17, .pv (i64 (i + 1)))] ⟨rfl, rfl, rfl, rfl, rfl, rfl, trivial⟩ ?_)
     refine VS_loop (fun mz E S => ∃ q : Nat, ∃ V : List Int, mz = W.length - q ∧ (i < q ∧ q ≤ W.length) ∧ (V.length = W.length) ∧ (∀ p, p < W.length → nth V p = if i < p ∧ p < q then cutC (nth W i) (nth W p) else nth W p) ∧ E = env [(4, .ptr 0 0 0), (6, .ptr 2 0 0), (11, ownD 3 (dI W)), (15, .pv (i64 j)), (16, .pv (i64 i)), (17, .pv (i64 q))] ∧ S = [some ⟨39, 2, [.agg [.pv (i64 0), .nils]]⟩, obD 25 3 (dG (cutT T (nth W i)).ps), some ⟨39, 2, [.agg [.pv (i64 (cutT T (nth W i)).r), ownD 1 (dG (cutT T (nth W i)).ps)]]⟩, obD 3 1 (dI V)]) ⟨_, i + 1, W, rfl, (by omega), rfl, (fun p hp => by rw [if_neg (by omega)]), rfl, rfl⟩ ?_
     rintro mz _ _ ⟨q, V, hmeas, v0, v1, v2, rfl, rfl⟩
     refine VS_seq (VS_seq (VS_r0 rfl (q_mv rfl (q_mv rfl (q_len_dm rfl (q_lss rfl rfl (rg_nil ?_)))))))
     refine VS_cond rfl (fun c4 => ?_) (fun c4 => ?_)
     ·try simp at c4
      refine VS_skip (VS_seq (VS_block ?_))
      have hgq := hgr q (by omega) (by omega)
      have hgi2 := hgr i (Nat.le_refl _) (by omega)
      have hvq : nth V q = nth W q := by rw [v2 q (by omega), if_neg (by omega)]
      have hvi : nth V i = nth W i := by rw [v2 i (by omega), if_neg (by omega)]
      refine VS_r2 _ hmix (Sub.refl _) (q_mv rfl (q_mv rfl (q_mv rfl (q_mv rfl (q_idx_dm (f := fun k => .pv (i64 k)) (ty := 3) (o := 3) (xs := V) (n := ((q : Nat) : Int)) (ownD_len (xs := dI W) (ys := dI V) (by simp; omega)) rfl (by omega) (by omega) rfl ?_)))))
      rw [Int.toNat_natCast]
      refine q_load_d (ty := 3) (xs := V) rfl rfl (by omega) rfl rfl rfl (q_mv rfl (q_mv rfl (q_idx_dm (f := fun k => .pv (i64 k)) (ty := 3) (o := 3) (xs := V) (n := ((q : Nat) : Int)) (ownD_len (xs := dI W) (ys := dI V) (by simp; omega)) rfl (by omega) (by omega) rfl ?_)))
      rw [Int.toNat_natCast]
      refine q_load_d (ty := 3) (xs := V) rfl rfl (by omega) rfl rfl rfl (q_mv rfl (q_mv rfl (q_idx_dm (f := fun k => .pv (i64 k)) (ty := 3) (o := 3) (xs := V) (n := ((i : Nat) : Int)) (ownD_len (xs := dI W) (ys := dI V) (by simp; omega)) rfl (by omega) (by omega) rfl ?_)))
      rw [Int.toNat_natCast]
      refine q_load_d (ty := 3) (xs := V) rfl rfl (by omega) rfl rfl rfl ?_
      rw [hvq, hvi]
      refine q_gtr rfl rfl (q_callp (c_spec_toInt _) rfl (Sub.refl _) (q_sub_to (cutC (nth W i) (nth W q)) rfl rfl rfl (inR64 (by have := cutC_le (g := nth W i) (a := 0) (b := 16) (c := nth W q) (by omega); omega)) (q_idx_dm (f := fun k => .pv (i64 k)) (ty := 3) (o := 3) (xs := V) (n := ((q : Nat) : Int)) (ownD_len (xs := dI W) (ys := dI V) (by simp; omega)) rfl (by omega) (by omega) rfl ?_)))
      rw [Int.toNat_natCast]
      refine q_last (q_store_d (ty := 3) (xs := V) (v := cutC (nth W i) (nth W q)) rfl rfl rfl (by omega) trivial (rg_nil (VS_r0 rfl (q_mv rfl (q_add rfl rfl (inR64 (by omega)) (q_mv rfl (rg_nil ?_)))))))
      refine Bd.keepL [(4, .ptr 0 0 0), (6, .ptr 2 0 0), (11, ownD 3 (dI W)), (15, .pv (i64 j)), (16, .pv (i64 i)), (17, .pv (i64 (q + 1)))] ⟨rfl, rfl, rfl, rfl, rfl, rfl, trivial⟩ ⟨_, ?_, q + 1, (V.set q (cutC (nth W i) (nth W q))), rfl, ?_, ?_, ?_, rfl, (l4 rfl rfl rfl rfl)⟩
      ·omega
      ·omega
      ·simp; omega
      ·intro p hp
       by_cases e : p = q
       ·subst e; rw [nth_set (by omega), if_pos rfl, if_pos (by omega)]
       ·rw [nth_set (by omega), if_neg (Ne.symm e), v2 p hp]; congr 1; simp only [eq_iff_iff]; omega
     ·try simp at c4
      refine VS_exit ?_
      refine VS_bd (Bd.keepL [(4, .ptr 0 0 0), (6, .ptr 2 0 0), (11, ownD 3 (dI W)), (15, .pv (i64 j)), (16, .pv (i64 i))] ⟨rfl, rfl, rfl, rfl, rfl, trivial⟩ ?_)
      refine VS_en [(4, .ptr 0 0 0), (6, .ptr 2 0 0), (11, ownD 3 (dI V)), (15, .pv (i64 j)), (16, .pv (i64 i))] (by rw [ownD_len (o := 3) (xs := dI W) (ys := dI V) (by simp; omega)]) (VS_r0 rfl (q_mv rfl (q_add rfl rfl (inR64 (by omega)) (q_mv rfl (rg_nil ?_)))))
      refine Bd.keepL [(4, .ptr 0 0 0), (6, .ptr 2 0 0), (11, ownD 3 (dI V)), (15, .pv (i64 j)), (16, .pv (i64 (i + 1)))] ⟨rfl, rfl, rfl, rfl, rfl, trivial⟩ ⟨_, ?_, i + 1, (cutT T (nth W i)), V, rfl, ?_, ?_, ?_, rfl, rfl⟩
      ·omega
      ·omega
      ·omega
      ·obtain ⟨ht, b, hA, hbb⟩ := ga
       rw [drop_cons (by omega)] at hA
       have hc := hA.cut
       rw [← cut_rest v1 (fun q hq => by rw [v2 q hq]; congr 1; simp only [eq_iff_iff]; omega)] at hc
       exact ⟨_, _, hc, by omega⟩
    ·try simp at c3
     refine VS_exit (VS_seq (VS_r0 rfl (q_load_ra rfl rfl rfl rfl rfl (by (simp; done)) rfl (q_mv rfl (q_store rfl rfl rfl rfl rfl rfl ⟨rfl, rfl, by simp, by simp [setAt, isCell_own, isCell_sl, isCell_int, isCell_nils], by simp [isOne]⟩ rfl trivial (q_mv rfl (rg_nil (VS_ret ?_))))))))
     obtain ⟨ht, b, hA, hbb⟩ := ga
     have e0 : W.drop i = [] := List.drop_of_length_le (by omega)
     rw [e0] at hA
     refine Bd.renL (S' := [obD 25 3 (dG T.ps), some ⟨39, 2, [.agg [.pv (i64 T.r), ownD 0 (dG T.ps)]]⟩]) [1, 0] (zbj _) (by simp) [(4, .ptr 1 0 0), (5, .pv (i64 j))] ⟨rfl, rfl, trivial⟩ (l2 (obD_mG _) (congrArg (fun z => some (⟨39, 2, [.agg [.pv (i64 T.r), z]]⟩ : Ob)) (mp1_own rfl))) ?_
     exact ⟨_, rfl, T, j, _, hA.safe (by omega), rfl, rfl⟩
 ·try simp at g52
  refine q_f rfl (q_f rfl (q_f rfl (q_f rfl (q_f rfl (q_f rfl (q_f rfl (q_f rfl (q_f rfl (q_f rfl (q_f rfl (q_pick_f rfl rfl (rg_nil ?_))))))))))))
  refine VS_cond rfl (fun e => by cases e) (fun _ => ?_)
  refine VS_exit (VS_seq (VS_r0 rfl (q_mv rfl (q_len_dm rfl (q_mv rfl (rg_nil ?_))))))
  refine VS_join (fun E S => ∃ (T : Pt) (W : List Int) (j : Int), (∃ ht, Alv T W ht 20) ∧ E = env [(4, .ptr 0 0 0), (6, .ptr 2 0 0), (11, ownD 3 (dI W)), (15, .pv (i64 j))] ∧ S = [some ⟨39, 2, [.agg [.pv (i64 0), .nils]]⟩, obD 25 3 (dG T.ps), some ⟨39, 2, [.agg [.pv (i64 T.r), ownD 1 (dG T.ps)]]⟩, obD 3 1 (dI W)]) ?_ ?_
  ·skip
   refine VS_seq ?_
   have hroot := hal.root
   have hro1 := hroot.1
   have hro2 : T.r.toNat < T.ps.length := hroot.2.1
   refine VS_r0 rfl (q_fld_r rfl (q_load_o rfl rfl rfl rfl rfl (q_fld_r rfl (q_load_r rfl rfl rfl rfl rfl rfl rfl (q_idx_dm (f := fun p => .pv (pgP p)) (ty := 25) (xs := T.ps) (n := T.r) rfl rfl (by omega) (by omega) rfl (q_fld_r rfl (q_load_gf (ty := 25) (qs := T.ps) rfl rfl (by omega) rfl rfl (q_len_m rfl (q_eql rfl rfl (rg_nil ?_))))))))))
   refine VS_cond rfl (fun c2 => ?_) (fun c2 => ?_)
   ·try simp at c2
    have hrr := hal.root
    refine VS_seq (VS_r0 rfl (q_mv rfl (q_fld_r rfl (q_load_r rfl rfl rfl rfl rfl rfl rfl (q_lit (xs := [i64 T.r]) rfl rfl rfl rfl (q_app_dm (xs := G) (ys := [T.r]) (f := fun k => .pv (i64 k)) rfl rfl rfl rfl ⟨by simp; omega, by simp; omega⟩ trivial (q_mv rfl (rg_nil (VS_r0 rfl (q_fld_r rfl (q_load_o rfl rfl rfl rfl rfl (q_fld_r rfl (q_load_r rfl rfl rfl rfl rfl rfl rfl (q_idx_dm (f := fun p => .pv (pgP p)) (ty := 25) (xs := T.ps) (n := T.r) rfl rfl (by omega) (by omega) rfl (q_fld_r rfl ?_)))))))))))))))
    refine q_load_gf (ty := 25) (qs := T.ps) rfl rfl (by omega) rfl rfl (q_idx_m (f := fun k => i64 k) (xs := (nth T.ps T.r.toNat).cs) (n := 0) rfl rfl (by omega) (by omega) (fun _ => rfl) (q_load_c rfl rfl rfl (q_fld_r rfl (q_store rfl rfl rfl rfl rfl rfl ⟨rfl, rfl, by simp, rfl, by simp [isOne]⟩ rfl trivial (rg_nil ?_)))))
    have hone : (nth T.ps T.r.toNat).cs = [nth (nth T.ps T.r.toNat).cs 0] := one_kid (by omega)
    exact Bd.renL (S' := [some ⟨39, 2, [.agg [.pv (i64 0), .nils]]⟩, obD 25 3 (dG T.ps), some ⟨39, 2, [.agg [.pv (i64 (nth (nth T.ps T.r.toNat).cs 0)), ownD 1 (dG T.ps)]]⟩, obD 3 1 (dI (G ++ [T.r]))]) [0, 1, 2, 4] (zbj _) (by simp) [(4, .ptr 0 0 0), (6, .ptr 2 0 0), (11, ownD 3 (dI (G ++ [T.r]))), (15, .pv (i64 (G.length : Int)))] ⟨rfl, rfl, inv_own rfl, rfl, trivial⟩ (l4 rfl (obD_mG _) (congrArg (fun z => some (⟨39, 2, [.agg [.pv (i64 (nth (nth T.ps T.r.toNat).cs 0)), z]]⟩ : Ob)) (mp1_own rfl)) (obD_mI _)) ⟨⟨nth (nth T.ps T.r.toNat).cs 0, T.ps⟩, G ++ [T.r], _, ⟨_, hal.root1 hone⟩, rfl, rfl⟩
   ·try simp at c2
    refine VS_skip ?_
    exact Bd.keepL [(4, .ptr 0 0 0), (6, .ptr 2 0 0), (11, ownD 3 (dI G)), (15, .pv (i64 (G.length : Int)))] ⟨rfl, rfl, rfl, rfl, trivial⟩ ⟨T, G, _, ⟨_, hal⟩, rfl, rfl⟩
  ·rintro _ _ ⟨T, W, j, ga0, rfl, rfl⟩
   refine VS_seq (VS_seq (VS_r0 rfl (q_mv rfl (rg_nil (VS_block ?_)))))
   refine VS_bd (Bd.keepL [(4, .ptr 0 0 0), (6, .ptr 2 0 0), (11, ownD 3 (dI W)), (15, .pv (i64 j)), (16, .pv (i64 0))] ⟨rfl, rfl, rfl, rfl, rfl, trivial⟩ ?_)
   refine VS_loop (fun mz E S => ∃ i : Nat, ∃ T : Pt, ∃ W : List Int, mz = W.length - i ∧ (i ≤ W.length) ∧ (W.length ≤ 16) ∧ (∃ ht b, Alv T (W.drop i) ht b ∧ b ≤ 20 + i) ∧ E = env [(4, .ptr 0 0 0), (6, .ptr 2 0 0), (11, ownD 3 (dI W)), (15, .pv (i64 j)), (16, .pv (i64 i))] ∧ S = [some ⟨39, 2, [.agg [.pv (i64 0), .nils]]⟩, obD 25 3 (dG T.ps), some ⟨39, 2, [.agg [.pv (i64 T.r), ownD 1 (dG T.ps)]]⟩, obD 3 1 (dI W)]) ⟨_, 0, T, W, rfl, (by omega), (by obtain ⟨_, h⟩ := ga0; exact h.glen), (by obtain ⟨_, h⟩ := ga0; exact ⟨_, _, by simpa using h, by omega⟩), rfl, rfl⟩ ?_
   rintro mz _ _ ⟨i, T, W, hmeas, g0, gw, ga, rfl, rfl⟩
   refine VS_seq (VS_seq (VS_r0 rfl (q_mv rfl (q_mv rfl (q_len_dm rfl (q_lss rfl rfl (rg_nil ?_)))))))
   refine VS_cond rfl (fun c3 => ?_) (fun c3 => ?_)
   ·try simp at c3
    refine VS_skip (VS_seq (VS_block (VS_seq ?_)))
    have hA0 := Classical.choose_spec (Classical.choose_spec ga)
    have hgr : ∀ p, i ≤ p → p < W.length → 0 ≤ nth W p ∧ nth W p ≤ 16 := fun p h1 h2 => by have h3 := hA0.1.gr (nth W p) (by rw [nth_eq h2, List.mem_drop_iff_getElem]; exact ⟨p - i, by omega, by congr 1; omega⟩); have h4 := hA0.1.many; omega
    have hgi := hgr i (Nat.le_refl _) (by omega)
    have hco := hA0.1.cutOK (by have := hA0.2; omega)
    refine VS_bd (Bd.frzF 1 2 0 1 25 3 (xs := dG T.ps) (by decide) rfl (toPVs_dG _) rfl rfl rfl ?_)
    refine VS_st [some ⟨39, 2, [.agg [.pv (i64 0), .nils]]⟩, none, some ⟨39, 2, [.agg [.pv (i64 T.r), .pv (pgsP T.ps)]]⟩, obD 3 1 (dI W)] rfl (VS_r2 [none, none, some ⟨39, 2, [.agg [.pv (i64 T.r), .pv (pgsP T.ps)]]⟩, obD 3 1 (dI W)] hmix (SubL.sub (by repeat constructor)) (q_load_ra rfl rfl rfl rfl rfl (by (simp; done)) rfl (q_mv rfl (q_mv rfl (q_idx_dm (f := fun k => .pv (i64 k)) (ty := 3) (xs := W) (n := ((i : Nat) : Int)) rfl rfl (by omega) (by omega) rfl ?_)))))
    rw [Int.toNat_natCast]
    refine q_load_d (ty := 3) (xs := W) rfl rfl (by omega) rfl rfl rfl ?_
    refine q_newTs rfl (show NewT prog 112 25 [ptP T, i64 (nth W i)] (cutT T (nth W i)) from c_spec_cutPage T (nth W i) (by omega) hco) (by repeat (first | exact trivial | refine ⟨.inl rfl, ?_⟩ | refine ⟨.inr ⟨_, rfl, rfl⟩, ?_⟩)) (SubL.sub (by repeat constructor)) ?_
    refine q_last (q_store rfl rfl rfl rfl rfl rfl ⟨rfl, rfl, by simp, by simp [setAt, isCell_own, isCell_sl, isCell_int, isCell_nils], by simp [isOne]⟩ rfl trivial (rg_nil ?_))
    refine VS_bd (Bd.renL (S' := [some ⟨39, 2, [.agg [.pv (i64 0), .nils]]⟩, obD 25 3 (dG (cutT T (nth W i)).ps), some ⟨39, 2, [.agg [.pv (i64 (cutT T (nth W i)).r), ownD 1 (dG (cutT T (nth W i)).ps)]]⟩, obD 3 1 (dI W)]) [0, 4, 2, 3] (zbj _) (by simp) [(4, .ptr 0 0 0), (6, .ptr 2 0 0), (11, ownD 3 (dI W)), (15, .pv (i64 j)), (16, .pv (i64 i))] ⟨rfl, rfl, inv_own rfl, rfl, rfl, trivial⟩ (l4 rfl (obD_mG _) (congrArg (fun z => some (⟨39, 2, [.agg [.pv (i64 (cutC (nth W i) T.r)), z]]⟩ : Ob)) (mp1_own rfl)) (obD_mI _)) ?_)
    refine VS_seq (VS_r0 rfl (q_mv rfl (q_add rfl rfl (inR64 (by omega)) (q_mv rfl (rg_nil (VS_block ?_))))))
    refine VS_bd (Bd.keepL [(4, .ptr 0 0 0), (6, .ptr 2 0 0), (11, ownD 3 (dI W)), (15, .pv (i64 j)), (16, .pv (i64 i)), (17, .pv (i64 (i + 1)))] ⟨rfl, rfl, rfl, rfl, rfl, rfl, trivial⟩ ?_)
    refine VS_loop (fun mz E S => ∃ q : Nat, ∃ V : List Int, mz = W.length - q ∧ (i < q ∧ q ≤ W.length) ∧ (V.length = W.length) ∧ (∀ p, p < W.length → nth V p = if i < p ∧ p < q then cutC (nth W i) (nth W p) else nth W p) ∧ E = env [(4, .ptr 0 0 0), (6, .ptr 2 0 0), (11, ownD 3 (dI W)), (15, .pv (i64 j)), (16, .pv (i64 i)), (17, .pv (i64 q))] ∧ S = [some ⟨39, 2, [.agg [.pv (i64 0), .nils]]⟩, obD 25 3 (dG (cutT T (nth W i)).ps), some ⟨39, 2, [.agg [.pv (i64 (cutT T (nth W i)).r), ownD 1 (dG (cutT T (nth W i)).ps)]]⟩, obD 3 1 (dI V)]) ⟨_, i + 1, W, rfl, (by omega), rfl, (fun p hp => by rw [if_neg (by omega)]), rfl, rfl⟩ ?_
    rintro mz _ _ ⟨q, V, hmeas, v0, v1, v2, rfl, rfl⟩
    refine VS_seq (VS_seq (VS_r0 rfl (q_mv rfl (q_mv rfl (q_len_dm rfl (q_lss rfl rfl (rg_nil ?_)))))))
    refine VS_cond rfl (fun c4 => ?_) (fun c4 => ?_)
    ·try simp at c4
     refine VS_skip (VS_seq (VS_block ?_))
     have hgq := hgr q (by omega) (by omega)
     have hgi2 := hgr i (Nat.le_refl _) (by omega)
     have hvq : nth V q = nth W q := by rw [v2 q (by omega), if_neg (by omega)]
     have hvi : nth V i = nth W i := by rw [v2 i (by omega), if_neg (by omega)]
     refine VS_r2 _ hmix (Sub.refl _) (q_mv rfl (q_mv rfl (q_mv rfl (q_mv rfl (q_idx_dm (f := fun k => .pv (i64 k)) (ty := 3) (o := 3) (xs := V) (n := ((q : Nat) : Int)) (ownD_len (xs := dI W) (ys := dI V) (by simp; omega)) rfl (by omega) (by omega) rfl ?_)))))
     rw [Int.toNat_natCast]
     refine q_load_d (ty := 3) (xs := V) rfl rfl (by omega) rfl rfl rfl (q_mv rfl (q_mv rfl (q_idx_dm (f := fun k => .pv (i64 k)) (ty := 3) (o := 3) (xs := V) (n := ((q : Nat) : Int)) (ownD_len (xs := dI W) (ys := dI V) (by simp; omega)) rfl (by omega) (by omega) rfl ?_)))
     rw [Int.toNat_natCast]
     refine q_load_d (ty := 3) (xs := V) rfl rfl (by omega) rfl rfl rfl (q_mv rfl (q_mv rfl (q_idx_dm (f := fun k => .pv (i64 k)) (ty := 3) (o := 3) (xs := V) (n := ((i : Nat) : Int)) (ownD_len (xs := dI W) (ys := dI V) (by simp; omega)) rfl (by omega) (by omega) rfl ?_)))
     rw [Int.toNat_natCast]
     refine q_load_d (ty := 3) (xs := V) rfl rfl (by omega) rfl rfl rfl ?_
     rw [hvq, hvi]
     refine q_gtr rfl rfl (q_callp (c_spec_toInt _) rfl (Sub.refl _) (q_sub_to (cutC (nth W i) (nth W q)) rfl rfl rfl (inR64 (by have := cutC_le (g := nth W i) (a := 0) (b := 16) (c := nth W q) (by omega); omega)) (q_idx_dm (f := fun k => .pv (i64 k)) (ty := 3) (o := 3) (xs := V) (n := ((q : Nat) : Int)) (ownD_len (xs := dI W) (ys := dI V) (by simp; omega)) rfl (by omega) (by omega) rfl ?_)))
     rw [Int.toNat_natCast]
     refine q_last (q_store_d (ty := 3) (xs := V) (v := cutC (nth W i) (nth W q)) rfl rfl rfl (by omega) trivial (rg_nil (VS_r0 rfl (q_mv rfl (q_add rfl rfl (inR64 (by omega)) (q_mv rfl (rg_nil ?_)))))))
     refine Bd.keepL [(4, .ptr 0 0 0), (6, .ptr 2 0 0), (11, ownD 3 (dI W)), (15, .pv (i64 j)), (16, .pv (i64 i)), (17, .pv (i64 (q + 1)))] ⟨rfl, rfl, rfl, rfl, rfl, rfl, trivial⟩ ⟨_, ?_, q + 1, (V.set q (cutC (nth W i) (nth W q))), rfl, ?_, ?_, ?_, rfl, (l4 rfl rfl rfl rfl)⟩
     ·omega
     ·omega
     ·simp; omega
     ·intro p hp
      by_cases e : p = q
      ·subst e; rw [nth_set (by omega), if_pos rfl, if_pos (by omega)]
      ·rw [nth_set (by omega), if_neg (Ne.symm e), v2 p hp]; congr 1; simp only [eq_iff_iff]; omega
    ·try simp at c4
     refine VS_exit ?_
     refine VS_bd (Bd.keepL [(4, .ptr 0 0 0), (6, .ptr 2 0 0), (11, ownD 3 (dI W)), (15, .pv (i64 j)), (16, .pv (i64 i))] ⟨rfl, rfl, rfl, rfl, rfl, trivial⟩ ?_)
     refine VS_en [(4, .ptr 0 0 0), (6, .ptr 2 0 0), (11, ownD 3 (dI V)), (15, .pv (i64 j)), (16, .pv (i64 i))] (by rw [ownD_len (o := 3) (xs := dI W) (ys := dI V) (by simp; omega)]) (VS_r0 rfl (q_mv rfl (q_add rfl rfl (inR64 (by omega)) (q_mv rfl (rg_nil ?_)))))
     refine Bd.keepL [(4, .ptr 0 0 0), (6, .ptr 2 0 0), (11, ownD 3 (dI V)), (15, .pv (i64 j)), (16, .pv (i64 (i + 1)))] ⟨rfl, rfl, rfl, rfl, rfl, trivial⟩ ⟨_, ?_, i + 1, (cutT T (nth W i)), V, rfl, ?_, ?_, ?_, rfl, rfl⟩
     ·omega
     ·omega
     ·omega
     ·obtain ⟨ht, b, hA, hbb⟩ := ga
      rw [drop_cons (by omega)] at hA
      have hc := hA.cut
      rw [← cut_rest v1 (fun q hq => by rw [v2 q hq]; congr 1; simp only [eq_iff_iff]; omega)] at hc
      exact ⟨_, _, hc, by omega⟩
   ·try simp at c3
    refine VS_exit (VS_seq (VS_r0 rfl (q_load_ra rfl rfl rfl rfl rfl (by (simp; done)) rfl (q_mv rfl (q_store rfl rfl rfl rfl rfl rfl ⟨rfl, rfl, by simp, by simp [setAt, isCell_own, isCell_sl, isCell_int, isCell_nils], by simp [isOne]⟩ rfl trivial (q_mv rfl (rg_nil (VS_ret ?_))))))))
    obtain ⟨ht, b, hA, hbb⟩ := ga
    have e0 : W.drop i = [] := List.drop_of_length_le (by omega)
    rw [e0] at hA
    refine Bd.renL (S' := [obD 25 3 (dG T.ps), some ⟨39, 2, [.agg [.pv (i64 T.r), ownD 0 (dG T.ps)]]⟩]) [1, 0] (zbj _) (by simp) [(4, .ptr 1 0 0), (5, .pv (i64 j))] ⟨rfl, rfl, trivial⟩ (l2 (obD_mG _) (congrArg (fun z => some (⟨39, 2, [.agg [.pv (i64 T.r), z]]⟩ : Ob)) (mp1_own rfl))) ?_
    exact ⟨_, rfl, T, j, _, hA.safe (by omega), rfl, rfl⟩
end Go.V
