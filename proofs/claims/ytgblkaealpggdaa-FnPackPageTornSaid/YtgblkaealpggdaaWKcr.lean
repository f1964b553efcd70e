/- A part of the proofs about laws of the page tree (see the text that bears the law): a small language of steps, its rules, and what the functions of the program return. -/
import Derived.Test.YtgblkaealpggdaaWKcq
set_option linter.all false
set_option linter.unusedVariables false
set_option linter.unusedSimpArgs false
set_option maxHeartbeats 4000000
namespace Go.V
open Go.Proofs.Try (prog)
theorem zcr (os : List Nat) : ∀ i, i < 0 → os[i]? = some i := fun i hi => absurd hi (Nat.not_lt_zero i)
set_option maxRecDepth 100000
theorem c_impl_UnpackPage_bad (X : List Int) (g : Pg) (hg : anyG g) (hf : fitsG g = true) (hX : UnF X g) : PCon prog 15 [ints X] (fun p => p = .tup [pgP ⟨[], [], []⟩, i64 0, .bool false]) := by
 have hgk := hg.1
 have hgc := hg.2.1
 have hgv := hg.2.2
 have h4 := fits_four hf
 refine con_of_VS sl_impl_UnpackPage (by simp) (VS_seq (VS_r0 rfl (q_alloc trivial (q_mv rfl (q_mv rfl (rg_nil (VS_seq (VS_seq ?_))))))))
 by_cases hcs : 0 < g.cs.length
 ·skip
  have hu := un_odd hf hcs
  have ho := hu.1
  have hge := hu.2.2
  have hrc : (X.take (X.length - 1)).drop (1 + g.ks.length) = g.cs := by rw [hX.rest, hu.2.1]; exact List.append_nil _
  have hl := hX.len
  have h0 := hX.fst
  rw [ho] at hl h0
  have hgA : anyG ⟨g.ks, g.cs, []⟩ := by rw [← hge]; exact hg
  have hfA : fitsG ⟨g.ks, g.cs, []⟩ = true := by rw [← hge]; exact hf
  have hpA : pkV ⟨g.ks, g.cs, []⟩ = pkL g := by rw [← hge, pkV, if_pos hf]
  have hpl : (pkL g).length ≤ 1000 := by have h := pk_len hf; omega
  refine VS_r0 rfl (q_mv rfl (q_len_m rfl (q_eql_v false rfl rfl (decide_eq_false (by omega)) (q_mv rfl (q_t rfl (q_mv rfl (q_t rfl (q_idx_at (f := fun k => i64 k) (xs := X) (m := 0) rfl rfl (by omega) (fun _ => rfl) (q_t rfl (q_load_c rfl rfl rfl (q_t rfl (q_lss_v false rfl rfl (decide_eq_false (by omega)) (q_pick_f rfl rfl (q_mv rfl (q_t rfl ?_)))))))))))))))
  refine q_mv rfl (q_t rfl (q_idx_at (f := fun k => i64 k) (xs := X) (m := 0) rfl rfl (by omega) (fun _ => rfl) (q_t rfl (q_load_c rfl rfl rfl (q_t rfl (q_gtr_v false rfl rfl (decide_eq_false (by omega)) (q_pick_f rfl rfl (rg_nil ?_))))))))
  refine VS_cond rfl (fun e => by cases e) (fun _ => ?_)
  refine VS_skip (VS_seq (VS_r0 rfl (q_mv rfl (q_idx_at (f := fun k => i64 k) (xs := X) (m := 0) rfl rfl (by omega) (fun _ => rfl) (q_load_c rfl rfl rfl (q_quo_to (g.ks.length : Int) rfl rfl ⟨by omega, by omega⟩ (by omega) (inR64 (by omega)) (q_mv rfl (rg_nil (VS_seq (VS_r0 rfl (q_mv rfl (q_mul_to (2 * (g.ks.length : Int)) rfl rfl rfl (inR64 (by omega)) (q_add rfl rfl (inR64 (by omega)) (q_mv rfl (q_idx_at (f := fun k => i64 k) (xs := X) (m := 0) rfl rfl (by omega) (fun _ => rfl) ?_)))))))))))))))
  refine q_load_c rfl rfl rfl (q_rem_to 1 rfl rfl ⟨by omega, by omega⟩ (by omega) (q_add_to ((X.length : Nat) : Int) rfl rfl (by omega) (inR64 (by omega)) (q_mv rfl (rg_nil (VS_seq (VS_seq (VS_r0 rfl (q_mv rfl (q_len_m rfl (q_mv rfl (q_lss_v false rfl rfl (decide_eq_false (by omega)) (rg_nil ?_))))))))))))
  refine VS_cond rfl (fun e => by cases e) (fun _ => ?_)
  refine VS_skip (VS_seq (VS_r0 rfl (q_mv rfl (q_mv rfl (q_add_to ((1 + g.ks.length : Nat) : Int) rfl rfl (by omega) (inR64 (by omega)) (q_mv rfl (q_sub_to ((X.length - 1 : Nat) : Int) rfl rfl (by omega) (inR64 (by omega)) (q_slc_mt (xs := X) (f := fun k => i64 k) (1 + g.ks.length) (X.length - 1) _ rfl rfl rfl ⟨rfl, rfl, by omega, by omega⟩ (fun _ => rfl) hrc (q_mv rfl (rg_nil (VS_seq (VS_r0 rfl (q_mv rfl (q_mv rfl (q_add_to ((1 + g.ks.length : Nat) : Int) rfl rfl (by omega) (inR64 (by omega)) ?_)))))))))))))))
  refine q_slc_mt (xs := X) (f := fun k => i64 k) 1 (1 + g.ks.length) _ rfl rfl rfl ⟨rfl, rfl, by omega, by omega⟩ (fun _ => rfl) hX.ks (q_callp (c_slices_Clone_int_p g.ks (by omega)) rfl trivial (q_build rfl (q_alloc trivial (q_store rfl rfl rfl rfl rfl rfl ⟨rfl, rfl, by simp, rfl, by simp [isOne]⟩ rfl trivial (rg_nil (VS_seq (VS_seq (VS_r0 rfl (q_mv rfl (q_idx_at (f := fun k => i64 k) (xs := X) (m := 0) rfl rfl (by omega) (fun _ => rfl) (q_load_c rfl rfl rfl (q_rem_to 1 rfl rfl ⟨by omega, by omega⟩ (by omega) (q_eql_v true rfl rfl (decide_eq_true (by omega)) (rg_nil ?_))))))))))))))
  refine VS_cond rfl (fun _ => ?_) (fun e => by cases e)
  refine VS_r0 rfl (q_mv rfl (q_callp (c_slices_Clone_int_p g.cs (by omega)) rfl trivial (q_fld_r rfl (q_store rfl rfl rfl rfl rfl rfl ⟨rfl, rfl, by simp, rfl, by simp [isOne]⟩ rfl trivial (rg_nil (VS_seq (VS_seq (VS_r2 [none, some ⟨25, 3, [.agg [.pv (ints g.ks), .pv (ints g.cs), .nils]]⟩] hmix (SubL.sub (by repeat constructor)) (q_load_ra rfl rfl rfl rfl rfl (by (simp; done)) rfl (q_callp (x := .bool true) ((c_impl_FitsPage ⟨g.ks, g.cs, []⟩ hgA).to (y := .bool true) (by rw [hfA])) rfl (SubL.sub (by repeat constructor)) (q_not rfl (q_mv rfl (q_t rfl (q_load_ra rfl rfl rfl rfl rfl (by (simp; done)) rfl (q_t rfl ?_)))))))))))))))
  refine q_mv rfl (q_t rfl (q_mv rfl (q_t rfl (q_slc_mt (xs := X) (f := fun k => i64 k) 0 X.length X rfl rfl rfl ⟨rfl, rfl, by omega, by omega⟩ (fun _ => rfl) (by rw [List.drop_zero, List.take_length]) (q_t rfl (q_callp ((c_impl_PackPage ⟨g.ks, g.cs, []⟩ hgA).to (y := ints (pkL g)) (by rw [hpA])) rfl (SubL.sub (by repeat constructor)) (q_t rfl (q_callp (x := .bool false) ((c_slices_Equal_int (pkL g) X (by omega) (by omega)).to (y := .bool false) (congrArg PV.bool (decide_eq_false hX.ne))) rfl (SubL.sub (by repeat constructor)) (q_t rfl (q_not rfl (q_pick_f rfl rfl (rg_nil ?_))))))))))))
  refine VS_cond rfl (fun _ => ?_) (fun e => by cases e)
  refine VS_seq (VS_r0 rfl (q_build rfl (q_store rfl rfl rfl rfl rfl rfl ⟨rfl, rfl, by simp, rfl, by simp [isOne]⟩ rfl trivial (q_mv rfl (q_mv rfl (rg_nil (VS_ret ?_)))))))
  exact Bd.now ⟨_, rfl, rfl⟩
 ·skip
  have hu := un_even hf hcs
  have ho := hu.1
  have hge := hu.2.2.1
  have hvl := hu.2.2.2
  have hrc : (X.take (X.length - 1)).drop (1 + g.ks.length) = g.vs.map (fun v => v + 1000) := by rw [hX.rest, hu.2.1]; rfl
  have hl := hX.len
  have h0 := hX.fst
  rw [ho] at hl h0
  have hgA : anyG ⟨g.ks, [], g.vs⟩ := by rw [← hge]; exact hg
  have hfA : fitsG ⟨g.ks, [], g.vs⟩ = true := by rw [← hge]; exact hf
  have hpA : pkV ⟨g.ks, [], g.vs⟩ = pkL g := by rw [← hge, pkV, if_pos hf]
  have hpl : (pkL g).length ≤ 1000 := by have h := pk_len hf; omega
  refine VS_r0 rfl (q_mv rfl (q_len_m rfl (q_eql_v false rfl rfl (decide_eq_false (by omega)) (q_mv rfl (q_t rfl (q_mv rfl (q_t rfl (q_idx_at (f := fun k => i64 k) (xs := X) (m := 0) rfl rfl (by omega) (fun _ => rfl) (q_t rfl (q_load_c rfl rfl rfl (q_t rfl (q_lss_v false rfl rfl (decide_eq_false (by omega)) (q_pick_f rfl rfl (q_mv rfl (q_t rfl ?_)))))))))))))))
  refine q_mv rfl (q_t rfl (q_idx_at (f := fun k => i64 k) (xs := X) (m := 0) rfl rfl (by omega) (fun _ => rfl) (q_t rfl (q_load_c rfl rfl rfl (q_t rfl (q_gtr_v false rfl rfl (decide_eq_false (by omega)) (q_pick_f rfl rfl (rg_nil ?_))))))))
  refine VS_cond rfl (fun e => by cases e) (fun _ => ?_)
  refine VS_skip (VS_seq (VS_r0 rfl (q_mv rfl (q_idx_at (f := fun k => i64 k) (xs := X) (m := 0) rfl rfl (by omega) (fun _ => rfl) (q_load_c rfl rfl rfl (q_quo_to (g.ks.length : Int) rfl rfl ⟨by omega, by omega⟩ (by omega) (inR64 (by omega)) (q_mv rfl (rg_nil (VS_seq (VS_r0 rfl (q_mv rfl (q_mul_to (2 * (g.ks.length : Int)) rfl rfl rfl (inR64 (by omega)) (q_add rfl rfl (inR64 (by omega)) (q_mv rfl (q_idx_at (f := fun k => i64 k) (xs := X) (m := 0) rfl rfl (by omega) (fun _ => rfl) ?_)))))))))))))))
  refine q_load_c rfl rfl rfl (q_rem_to 0 rfl rfl ⟨by omega, by omega⟩ (by omega) (q_add_to ((X.length : Nat) : Int) rfl rfl (by omega) (inR64 (by omega)) (q_mv rfl (rg_nil (VS_seq (VS_seq (VS_r0 rfl (q_mv rfl (q_len_m rfl (q_mv rfl (q_lss_v false rfl rfl (decide_eq_false (by omega)) (rg_nil ?_))))))))))))
  refine VS_cond rfl (fun e => by cases e) (fun _ => ?_)
  refine VS_skip (VS_seq (VS_r0 rfl (q_mv rfl (q_mv rfl (q_add_to ((1 + g.ks.length : Nat) : Int) rfl rfl (by omega) (inR64 (by omega)) (q_mv rfl (q_sub_to ((X.length - 1 : Nat) : Int) rfl rfl (by omega) (inR64 (by omega)) (q_slc_mt (xs := X) (f := fun k => i64 k) (1 + g.ks.length) (X.length - 1) _ rfl rfl rfl ⟨rfl, rfl, by omega, by omega⟩ (fun _ => rfl) hrc (q_mv rfl (rg_nil (VS_seq (VS_r0 rfl (q_mv rfl (q_mv rfl (q_add_to ((1 + g.ks.length : Nat) : Int) rfl rfl (by omega) (inR64 (by omega)) ?_)))))))))))))))
  refine q_slc_mt (xs := X) (f := fun k => i64 k) 1 (1 + g.ks.length) _ rfl rfl rfl ⟨rfl, rfl, by omega, by omega⟩ (fun _ => rfl) hX.ks (q_callp (c_slices_Clone_int_p g.ks (by omega)) rfl trivial (q_build rfl (q_alloc trivial (q_store rfl rfl rfl rfl rfl rfl ⟨rfl, rfl, by simp, rfl, by simp [isOne]⟩ rfl trivial (rg_nil (VS_seq (VS_seq (VS_r0 rfl (q_mv rfl (q_idx_at (f := fun k => i64 k) (xs := X) (m := 0) rfl rfl (by omega) (fun _ => rfl) (q_load_c rfl rfl rfl (q_rem_to 0 rfl rfl ⟨by omega, by omega⟩ (by omega) (q_eql_v false rfl rfl (decide_eq_false (by omega)) (rg_nil ?_))))))))))))))
  refine VS_cond rfl (fun e => by cases e) (fun _ => ?_)
  refine VS_seq (VS_r0 rfl (q_mv rfl (q_len_m rfl (q_mv rfl (rg_nil (VS_block ?_))))))
  refine VS_bd (Bd.pad ?_)
  refine VS_bd (Bd.keepL [(0, .pv (ints X)), (2, .ptr 0 0 0), (6, .pv (i64 X.length)), (8, .ptr 1 0 0), (64, .pv (ints (g.vs.map fun v => v + 1000))), (65, .pv (i64 (g.vs.map fun v => v + 1000).length)), (66, .pv (i64 0))] ⟨rfl, rfl, rfl, rfl, rfl, rfl, rfl, trivial⟩ ?_)
  refine VS_loop (fun mz E S => ∃ i : Nat, ∃ ys : List Int, mz = g.vs.length - i ∧ (i ≤ g.vs.length) ∧ (ys = g.vs.take i) ∧ (ys.length = i) ∧ E = env [(0, .pv (ints X)), (2, .ptr 0 0 0), (6, .pv (i64 X.length)), (8, .ptr 1 0 0), (64, .pv (ints (g.vs.map fun v => v + 1000))), (65, .pv (i64 (g.vs.map fun v => v + 1000).length)), (66, .pv (i64 i))] ∧ S = [some ⟨25, 3, [.agg [.nils, .nils, .nils]]⟩, some ⟨25, 3, [.agg [.pv (ints g.ks), .nils, ownD 2 (dI ys)]]⟩, obD 3 1 (dI ys)]) ⟨_, 0, [], rfl, (by omega), rfl, rfl, rfl, rfl⟩ ?_
  rintro mz _ _ ⟨i, ys, hmeas, g0, g1, g2, rfl, rfl⟩
  refine VS_seq (VS_r0 rfl (q_lss rfl rfl (rg_nil (VS_seq ?_))))
  refine VS_cond rfl (fun c3 => ?_) (fun c3 => ?_)
  ·try simp at c3
   have hvi := (fits_vals hf).2 (nth g.vs i) (nth_mem (by omega))
   refine VS_skip (VS_seq (VS_block (VS_seq (VS_r0 rfl ?_))))
   refine q_idx_at (f := fun k => i64 k) (xs := g.vs.map (fun v => v + 1000)) (m := i) rfl rfl (by simp; omega) (fun _ => rfl) ?_
   rw [nth_add (show i < g.vs.length by omega)]
   refine q_load_c rfl rfl rfl (q_mv rfl (rg_nil (VS_r0 rfl (q_fld_r rfl (q_load_o rfl rfl rfl rfl rfl (q_mv rfl (q_sub_to (nth g.vs i) rfl rfl (by omega) (inR64 (by omega)) (q_lit (xs := [i64 (nth g.vs i)]) rfl rfl rfl rfl (q_app_dm (xs := ys) (ys := [nth g.vs i]) (f := fun k => .pv (i64 k)) rfl rfl rfl rfl ⟨by simp; omega, by simp; omega⟩ trivial (q_fld_r rfl (q_storeF rfl rfl rfl rfl rfl (by (simp; done)) trivial (rg_nil (VS_r0 rfl (q_add rfl rfl (inR64 (by omega)) (q_mv rfl ?_)))))))))))))))
   refine rg_nil ?_
   refine Bd.renL [0, 1, 3] (zcr _) (by simp) [(0, .pv (ints X)), (2, .ptr 0 0 0), (6, .pv (i64 X.length)), (8, .ptr 1 0 0), (64, .pv (ints (g.vs.map fun v => v + 1000))), (65, .pv (i64 (g.vs.map fun v => v + 1000).length)), (66, .pv (i64 (i + 1)))] ⟨rfl, rfl, rfl, rfl, rfl, rfl, rfl, trivial⟩ (l3 rfl (congrArg (fun z => some (⟨25, 3, [.agg [.pv (ints g.ks), .nils, z]]⟩ : Ob)) (mp1_own rfl)) (obD_mI _)) ⟨_, ?_, i + 1, ys ++ [nth g.vs i], rfl, ?_, ?_, ?_, rfl, rfl⟩
   ·omega
   ·omega
   ·rw [g1, take_succ_nth (by omega)]
   ·simp; omega
  ·try simp at c3
   refine VS_exit (VS_seq (VS_seq ?_))
   have hyv : ys = g.vs := by rw [g1, List.take_of_length_le (by omega)]
   rw [hyv]
   refine VS_bd (Bd.frzF 2 1 0 2 3 1 (xs := dI g.vs) (by decide) rfl (toPVs_dI _) rfl rfl rfl ?_)
   refine VS_r2 [none, some ⟨25, 3, [.agg [.pv (ints g.ks), .nils, .pv (ints g.vs)]]⟩] hmix (SubL.sub (by repeat constructor)) (q_load_ra rfl rfl rfl rfl rfl (by (simp; done)) rfl (q_callp (x := .bool true) ((c_impl_FitsPage ⟨g.ks, [], g.vs⟩ hgA).to (y := .bool true) (by rw [hfA])) rfl (SubL.sub (by repeat constructor)) (q_not rfl (q_mv rfl (q_t rfl (q_load_ra rfl rfl rfl rfl rfl (by (simp; done)) rfl (q_t rfl (q_mv rfl (q_t rfl (q_mv rfl (q_t rfl (q_slc_mt (xs := X) (f := fun k => i64 k) 0 X.length X rfl rfl rfl ⟨rfl, rfl, by omega, by omega⟩ (fun _ => rfl) (by rw [List.drop_zero, List.take_length]) (q_t rfl (q_callp ((c_impl_PackPage ⟨g.ks, [], g.vs⟩ hgA).to (y := ints (pkL g)) (by rw [hpA])) rfl (SubL.sub (by repeat constructor)) (q_t rfl ?_)))))))))))))))
   refine q_callp (x := .bool false) ((c_slices_Equal_int (pkL g) X (by omega) (by omega)).to (y := .bool false) (congrArg PV.bool (decide_eq_false hX.ne))) rfl (SubL.sub (by repeat constructor)) (q_t rfl (q_not rfl (q_pick_f rfl rfl (rg_nil ?_))))
   refine VS_cond rfl (fun _ => ?_) (fun e => by cases e)
   refine VS_seq (VS_r0 rfl (q_build rfl (q_store rfl rfl rfl rfl rfl rfl ⟨rfl, rfl, by simp, rfl, by simp [isOne]⟩ rfl trivial (q_mv rfl (q_mv rfl (rg_nil (VS_ret ?_)))))))
   exact Bd.now ⟨_, rfl, rfl⟩
end Go.V
