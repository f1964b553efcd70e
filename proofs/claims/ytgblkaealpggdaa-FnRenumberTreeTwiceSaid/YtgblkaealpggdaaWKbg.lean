/- A part of the proofs about laws of the page tree (see the text that bears the law): a small language of steps, its rules, and what the functions of the program return. -/
import Derived.Test.YtgblkaealpggdaaWKbf
import Derived.Test.YtgblkaealpggdaaQE
set_option linter.all false
set_option linter.unusedVariables false
set_option linter.unusedSimpArgs false
set_option maxHeartbeats 4000000
namespace Go.V
open Go.Proofs.Try (prog)
theorem zbg (os : List Nat) : ∀ i, i < 0 → os[i]? = some i := fun i hi => absurd hi (Nat.not_lt_zero i)
set_option maxRecDepth 100000
theorem c_spec_copyPage_k (g : Pg) (hp : g.ks.length ≤ 1000000 ∧ g.cs.length ≤ 1000000 ∧ g.vs.length ≤ 1000000) : CallS prog 89 [.pv (pgP g)] [] (fun d S => ∃ T, d = pgK 0 g ∧ S = obD 3 1 (dI g.ks) :: T) := by
 refine callS_of_VS sl_spec_copyPage (by simp) (VS_seq (VS_r0 rfl (q_box rfl rfl rfl trivial (q_alloc trivial (rg_nil (VS_seq (VS_r2 [some ⟨25, 3, [.pv (pgP g)]⟩] hmix (SubL.sub (by repeat constructor)) (q_fld_r rfl (q_load_r rfl rfl rfl rfl rfl rfl rfl (q_fld_r rfl (q_load_r rfl rfl rfl rfl rfl rfl rfl (q_fld_r rfl (q_load_r rfl rfl rfl rfl rfl rfl rfl (q_new rfl (c_spec_copyInts g.ks (by omega)) (flat_I _) (by rfl) (Sub.app _ _) (q_callp (c_spec_copyInts_p (g.cs) (by omega)) rfl (Sub.app _ _) ?_)))))))))))))))
 refine q_callp (c_spec_copyInts_p (g.vs) (by omega)) rfl (Sub.app _ _) (q_build3 (dx := ownD 2 (dI g.ks)) (dy := .pv (ints g.cs)) (dw := .pv (ints g.vs)) rfl rfl rfl cellsD_own rfl rfl (q_last (q_store rfl rfl rfl rfl rfl rfl ⟨rfl, rfl, by simp, by simp [setAt, isCell_own, isCell_sl, isCell_int, isCell_nils], by simp [isOne]⟩ rfl trivial (rg_nil (VS_ret ?_)))))
 refine Bd.renL (S' := [obD 3 1 (dI g.ks), some ⟨25, 3, [pgK 0 g]⟩]) [2, 1] (zbg _) (by simp) [(2, .ptr 1 0 0)] ⟨rfl, trivial⟩ (l2 (obD_mI _) (congrArg (fun z => some (⟨25, 3, [z]⟩ : Ob)) (pgK_mp rfl))) ?_
 exact ⟨_, rfl, _, rfl, rfl⟩
theorem c_spec_copyPage_c (g : Pg) (hp : g.ks.length ≤ 1000000 ∧ g.cs.length ≤ 1000000 ∧ g.vs.length ≤ 1000000) : CallS prog 89 [.pv (pgP g)] [] (fun d S => ∃ T, d = pgQ 0 g ∧ S = obD 3 1 (dI g.cs) :: T) := by
 refine callS_of_VS sl_spec_copyPage (by simp) (VS_seq (VS_r0 rfl (q_box rfl rfl rfl trivial (q_alloc trivial (rg_nil (VS_seq (VS_r2 [some ⟨25, 3, [.pv (pgP g)]⟩] hmix (SubL.sub (by repeat constructor)) (q_fld_r rfl (q_load_r rfl rfl rfl rfl rfl rfl rfl (q_fld_r rfl (q_load_r rfl rfl rfl rfl rfl rfl rfl (q_fld_r rfl (q_load_r rfl rfl rfl rfl rfl rfl rfl (q_callp (c_spec_copyInts_p (g.ks) (by omega)) rfl (Sub.app _ _) (q_new rfl (c_spec_copyInts g.cs (by omega)) (flat_I _) (by rfl) (Sub.app _ _) ?_)))))))))))))))
 refine q_callp (c_spec_copyInts_p (g.vs) (by omega)) rfl (Sub.app _ _) (q_build3 (dx := .pv (ints g.ks)) (dy := ownD 2 (dI g.cs)) (dw := .pv (ints g.vs)) rfl rfl rfl rfl cellsD_own rfl (q_last (q_store rfl rfl rfl rfl rfl rfl ⟨rfl, rfl, by simp, by simp [setAt, isCell_own, isCell_sl, isCell_int, isCell_nils], by simp [isOne]⟩ rfl trivial (rg_nil (VS_ret ?_)))))
 refine Bd.renL (S' := [obD 3 1 (dI g.cs), some ⟨25, 3, [pgQ 0 g]⟩]) [2, 1] (zbg _) (by simp) [(2, .ptr 1 0 0)] ⟨rfl, trivial⟩ (l2 (obD_mI _) (congrArg (fun z => some (⟨25, 3, [z]⟩ : Ob)) (pgQ_mp rfl))) ?_
 exact ⟨_, rfl, _, rfl, rfl⟩
theorem sl_spec_copyTree_u : slimF prog 105 [(5, 6)] = some (28, (.seq (.reg 0 (.o 1 (.box 39 2 (.t 0)) (.o 2 (.alloc 39 2 (.agg [.pv (.int .i64 0), .nils])) .nil))) (.seq (.reg 0 (.o 5 (.fld 0 1 false (.t 1)) (.o 6 (.load 1 false (.t 5)) (.o 7 (.lit 25 3 0 [.nils, .nils, .nils] []) (.o 8 (.build [.pv (.int .i64 0), .nils] [(0, (1, .t 6)), (1, (1, .t 7))]) (.o 3 (.alloc 39 2 (.agg [.pv (.int .i64 0), .nils])) (.op ⟨none, none, .store 2 (.t 3) (.t 8)⟩ .nil))))))) (.seq (.seq (.reg 0 (.o 4 (.mv (.c (.pv (.int .i64 0)))) .nil)) (.block 0 (.loop (.seq (.seq (.reg 0 (.o 9 (.mv (.t 4)) (.o 10 (.fld 1 1 false (.t 1)) (.o 11 (.load 1 false (.t 10)) (.o 12 (.len (.t 11)) (.o 13 (.bin .lss (.t 9) (.t 12)) .nil)))))) (.cond (.t 13) .skip (.exit 0))) (.seq (.block 1 (.reg 6 (.o 16 (.fld 1 1 false (.t 3)) (.o 17 (.load 1 false (.t 16)) (.o 18 (.fld 1 1 false (.t 1)) (.o 19 (.load 1 false (.t 18)) (.o 20 (.mv (.t 4)) (.o 21 (.idx 3 (.t 19) (.t 20)) (.o 22 (.load 3 true (.t 21)) (.o 23 (.call 89 [.t 22]) (.o 24 (.lit 25 3 1 [.nils, .nils, .nils] [(0, .t 23)]) (.o 25 (.app 25 3 72 (.t 17) (.t 24)) (.o 26 (.fld 1 1 false (.t 3)) (.last ⟨none, none, .store 1 (.t 26) (.t 25)⟩)))))))))))))) (.reg 0 (.o 14 (.mv (.t 4)) (.o 15 (.bin .add (.t 14) (.c (.pv (.int .i64 1)))) (.o 4 (.mv (.t 15)) .nil))))))))) (.seq (.reg 0 (.o 27 (.load 2 true (.t 3)) (.op ⟨none, none, .store 2 (.t 2) (.t 27)⟩ .nil))) .ret))), [.c 2 2])) := by kernel_rfl
theorem c_spec_copyTree_u (t : Pt) (hs : smallT t) (up : Nat) (hup : up < t.ps.length) : CallS prog 105 [.pv (ptP t)] [] (fun d S => ∃ T, d = treeD 0 t ∧ S = obD 25 3 (dU 1 t.ps up) :: obD 3 1 (dI (nth t.ps up).ks) :: T) := by
 have hsl := hs.1
 refine callS_of_VS sl_spec_copyTree_u (by simp) (VS_seq (VS_r0 rfl (q_box rfl rfl rfl trivial (q_alloc trivial (rg_nil (VS_seq (VS_r0 rfl (q_fld_r rfl (q_load_r rfl rfl rfl rfl rfl rfl rfl (q_lit0 (q_build rfl (q_alloc trivial (q_store rfl rfl rfl rfl rfl rfl ⟨rfl, rfl, by simp, rfl, by simp [isOne]⟩ rfl trivial (rg_nil (VS_seq ?_)))))))))))))))
 refine VS_seq (VS_r0 rfl (q_mv rfl (rg_nil (VS_block ?_))))
 refine VS_bd (Bd.pad ?_)
 refine VS_bd (Bd.pad ?_)
 refine VS_bd (Bd.keepL [(1, .ptr 0 0 0), (2, .ptr 1 0 0), (3, .ptr 2 0 0), (4, .pv (i64 0))] ⟨rfl, rfl, rfl, rfl, trivial⟩ ?_)
 refine VS_loop (fun mz E S => ∃ i : Nat, ∃ ps : List Pg, ∃ K : List Int, mz = t.ps.length - i ∧ (i ≤ t.ps.length) ∧ (ps = t.ps.take i) ∧ (ps.length = i) ∧ (K = if up < i then (nth t.ps up).ks else []) ∧ E = env [(1, .ptr 0 0 0), (2, .ptr 1 0 0), (3, .ptr 2 0 0), (4, .pv (i64 i))] ∧ S = [some ⟨39, 2, [.pv (ptP t)]⟩, some ⟨39, 2, [.agg [.pv (i64 0), .nils]]⟩, some ⟨39, 2, [.agg [.pv (i64 t.r), ownD 3 (dU 4 ps up)]]⟩, obD 25 3 (dU 4 ps up), obD 3 1 (dI K)]) ⟨_, 0, [], [], rfl, (by omega), rfl, rfl, (by simp), rfl, rfl⟩ ?_
 rintro mz _ _ ⟨i, ps, K, hmeas, g0, g1, g2, g3, rfl, rfl⟩
 refine VS_seq (VS_seq (VS_r0 rfl (q_mv rfl (q_fld_r rfl (q_load_r rfl rfl rfl rfl rfl rfl rfl (q_len_m rfl (q_lss rfl rfl (rg_nil ?_))))))))
 refine VS_cond rfl (fun c0 => ?_) (fun c0 => ?_)
 ·try simp at c0
  have hsz : (nth t.ps i).ks.length ≤ 1000000 ∧ (nth t.ps i).cs.length ≤ 1000000 ∧ (nth t.ps i).vs.length ≤ 1000000 := hs.2 (i : Int) (by omega) (by omega)
  refine VS_skip (VS_seq (VS_block ?_))
  by_cases hiu : i = up
  ·skip
   refine VS_r6 [some ⟨39, 2, [.pv (ptP t)]⟩, none, some ⟨39, 2, [.agg [.pv (i64 t.r), ownD 3 (dU 4 ps up)]]⟩] hmix (SubL.sub (by repeat constructor)) (q_fld_r rfl (q_load_o rfl rfl rfl rfl rfl (q_fld_r rfl (q_load_r rfl rfl rfl rfl rfl rfl rfl (q_mv rfl (q_idx_m (f := pgP) (xs := t.ps) (n := (i : Int)) rfl rfl (by omega) (by omega) (fun _ => rfl) (q_load_c rfl rfl rfl ?_)))))))
   refine q_newX (mk := fun o => pgK o (nth t.ps i)) rfl (show NewX prog 89 3 [pgP (nth t.ps i)] (fun o => pgK o (nth t.ps i)) (nth t.ps i).ks from c_spec_copyPage_k (nth t.ps i) hsz) (pgK_mp rfl) pgK_fw (by repeat (first | exact trivial | refine ⟨.inl rfl, ?_⟩ | refine ⟨.inr ⟨_, rfl, rfl⟩, ?_⟩)) (SubL.sub (by repeat constructor)) ?_
   refine q_litxA (sz := 3) (xs := [[ownD 5 (dI (nth t.ps i).ks), .pv (ints (nth t.ps i).cs), .pv (ints (nth t.ps i).vs)]]) rfl rfl rfl rfl (SubL.sub (by repeat constructor)) (q_app_U2 (k := 5) (k0 := 4) (ps := ps) (up := up) (g := nth t.ps i) rfl rfl rfl (by omega) ⟨by omega, by simp [maxLen]; omega⟩ (SubL.sub (by repeat constructor)) (q_fld_r rfl (q_last (q_storeF rfl rfl rfl rfl rfl (by (simp; done)) trivial (rg_nil ?_)))))
   have hK : (nth t.ps i).ks = (if up < i + 1 then (nth t.ps up).ks else []) := by rw [if_pos (by omega), hiu]
   refine VS_bd (Bd.renL (S' := [some ⟨39, 2, [.pv (ptP t)]⟩, some ⟨39, 2, [.agg [.pv (i64 0), .nils]]⟩, some ⟨39, 2, [.agg [.pv (i64 t.r), ownD 3 (dU 4 (ps ++ [nth t.ps i]) up)]]⟩, obD 25 3 (dU 4 (ps ++ [nth t.ps i]) up), obD 3 1 (dI (nth t.ps i).ks)]) [0, 1, 2, 7, 5] (zbg _) (by simp) [(1, .ptr 0 0 0), (2, .ptr 1 0 0), (3, .ptr 2 0 0), (4, .pv (i64 i))] ⟨rfl, rfl, rfl, rfl, trivial⟩ (l5 rfl rfl (congrArg (fun z => some (⟨39, 2, [.agg [.pv (i64 t.r), z]]⟩ : Ob)) ((mp1_own rfl).trans (ownD_len (by simp)))) (obD_mU rfl) (obD_mI _)) ?_)
   refine VS_st [some ⟨39, 2, [.pv (ptP t)]⟩, some ⟨39, 2, [.agg [.pv (i64 0), .nils]]⟩, some ⟨39, 2, [.agg [.pv (i64 t.r), ownD 3 (dU 4 (ps ++ [nth t.ps i]) up)]]⟩, obD 25 3 (dU 4 (ps ++ [nth t.ps i]) up), obD 3 1 (dI (if up < i + 1 then (nth t.ps up).ks else []))] (l5 rfl rfl rfl rfl (congrArg (fun z => obD 3 1 (dI z)) hK)) (VS_r0 rfl (q_mv rfl (q_add rfl rfl (inR64 (by omega)) (q_mv rfl (rg_nil ?_)))))
   refine Bd.keepL [(1, .ptr 0 0 0), (2, .ptr 1 0 0), (3, .ptr 2 0 0), (4, .pv (i64 (i + 1)))] ⟨rfl, rfl, rfl, rfl, trivial⟩ ⟨_, ?_, i + 1, (ps ++ [nth t.ps i]), (if up < i + 1 then (nth t.ps up).ks else []), rfl, ?_, ?_, ?_, ?_, rfl, rfl⟩
   ·omega
   ·omega
   ·rw [take_succ_nth (by omega), g1]
   ·simp; omega
   ·rfl
  ·skip
   refine VS_r6 [some ⟨39, 2, [.pv (ptP t)]⟩, none, some ⟨39, 2, [.agg [.pv (i64 t.r), ownD 3 (dU 4 ps up)]]⟩] hmix (SubL.sub (by repeat constructor)) (q_fld_r rfl (q_load_o rfl rfl rfl rfl rfl (q_fld_r rfl (q_load_r rfl rfl rfl rfl rfl rfl rfl (q_mv rfl (q_idx_m (f := pgP) (xs := t.ps) (n := (i : Int)) rfl rfl (by omega) (by omega) (fun _ => rfl) (q_load_c rfl rfl rfl (q_callp (c_spec_copyPage (nth t.ps i) hsz) rfl (SubL.sub (by repeat constructor)) (q_litp (xs := [pgP (nth t.ps i)]) rfl rfl rfl rfl (SubL.sub (by repeat constructor)) (q_app_U1 (k := 4) (ps := ps) (up := up) (g := nth t.ps i) rfl rfl rfl (by omega) ⟨by omega, by simp [maxLen]; omega⟩ (SubL.sub (by repeat constructor)) (q_fld_r rfl (q_last (q_storeF rfl rfl rfl rfl rfl (by (simp; done)) trivial (rg_nil ?_))))))))))))))
   have hK : K = (if up < i + 1 then (nth t.ps up).ks else []) := by rw [g3]; split <;> split <;> first | rfl | (exfalso; omega)
   refine VS_bd (Bd.renL (S' := [some ⟨39, 2, [.pv (ptP t)]⟩, some ⟨39, 2, [.agg [.pv (i64 0), .nils]]⟩, some ⟨39, 2, [.agg [.pv (i64 t.r), ownD 3 (dU 4 (ps ++ [nth t.ps i]) up)]]⟩, obD 25 3 (dU 4 (ps ++ [nth t.ps i]) up), obD 3 1 (dI K)]) [0, 1, 2, 5, 4] (zbg _) (by simp) [(1, .ptr 0 0 0), (2, .ptr 1 0 0), (3, .ptr 2 0 0), (4, .pv (i64 i))] ⟨rfl, rfl, rfl, rfl, trivial⟩ (l5 rfl rfl (congrArg (fun z => some (⟨39, 2, [.agg [.pv (i64 t.r), z]]⟩ : Ob)) ((mp1_own rfl).trans (ownD_len (by simp)))) (obD_mU rfl) (obD_mI _)) ?_)
   refine VS_st [some ⟨39, 2, [.pv (ptP t)]⟩, some ⟨39, 2, [.agg [.pv (i64 0), .nils]]⟩, some ⟨39, 2, [.agg [.pv (i64 t.r), ownD 3 (dU 4 (ps ++ [nth t.ps i]) up)]]⟩, obD 25 3 (dU 4 (ps ++ [nth t.ps i]) up), obD 3 1 (dI (if up < i + 1 then (nth t.ps up).ks else []))] (l5 rfl rfl rfl rfl (congrArg (fun z => obD 3 1 (dI z)) hK)) (VS_r0 rfl (q_mv rfl (q_add rfl rfl (inR64 (by omega)) (q_mv rfl (rg_nil ?_)))))
   refine Bd.keepL [(1, .ptr 0 0 0), (2, .ptr 1 0 0), (3, .ptr 2 0 0), (4, .pv (i64 (i + 1)))] ⟨rfl, rfl, rfl, rfl, trivial⟩ ⟨_, ?_, i + 1, (ps ++ [nth t.ps i]), (if up < i + 1 then (nth t.ps up).ks else []), rfl, ?_, ?_, ?_, ?_, rfl, rfl⟩
   ·omega
   ·omega
   ·rw [take_succ_nth (by omega), g1]
   ·simp; omega
   ·rfl
 ·try simp at c0
  refine VS_exit (VS_seq (VS_r0 rfl (q_load_ra rfl rfl rfl rfl rfl (by (simp; done)) rfl (q_store rfl rfl rfl rfl rfl rfl ⟨rfl, rfl, by simp, by simp [setAt, isCell_own, isCell_sl, isCell_int, isCell_nils], by simp [isOne]⟩ rfl trivial (rg_nil (VS_ret ?_))))))
  have e : ps = t.ps := by rw [g1, show i = t.ps.length by omega, List.take_length]
  have e2 : K = (nth t.ps up).ks := by rw [g3, if_pos (by omega)]
  refine Bd.renL [3, 4, 1] (S' := [obD 25 3 (dU 1 ps up), obD 3 1 (dI K), some ⟨39, 2, [.agg [.pv (i64 t.r), ownD 0 (dU 1 ps up)]]⟩]) (zbg _) (by simp) [(2, .ptr 2 0 0)] ⟨rfl, trivial⟩ (l3 (obD_mU rfl) (obD_mI _) (congrArg (fun z => some (⟨39, 2, [.agg [.pv (i64 t.r), z]]⟩ : Ob)) ((mp1_own rfl).trans (ownD_len (by simp))))) ?_
  exact ⟨_, rfl, _, by rw [e]; exact congrArg (fun z => D.agg [.pv (i64 t.r), z]) (ownD_len (by simp)), by rw [e, e2]⟩
end Go.V
