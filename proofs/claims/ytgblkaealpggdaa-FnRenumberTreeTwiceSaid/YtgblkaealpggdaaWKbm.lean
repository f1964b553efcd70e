/- A part of the proofs about laws of the page tree (see the text that bears the law): a small language of steps, its rules, and what the functions of the program return. -/
import Derived.Test.YtgblkaealpggdaaWKbl
import Derived.Test.YtgblkaealpggdaaQK
set_option linter.all false
set_option linter.unusedVariables false
set_option linter.unusedSimpArgs false
set_option maxHeartbeats 4000000
namespace Go.V
open Go.Proofs.Try (prog)
theorem obm {os : List Nat} (h : os[0]? = some 0) : ∀ i, i < 1 → os[i]? = some i := fun i hi => by
 have e : i = 0 := by omega
 subst e; exact h
set_option maxRecDepth 100000
theorem sl_spec_anyTree : slimF prog 46 = some (80, (.seq (.reg 0 (.o 2 (.alloc 39 2 (.agg [.pv (.int .i64 0), .nils])) .nil)) (.seq (.reg 0 (.o 5 (.mv (.t 0)) (.o 6 (.call 42 [.t 5]) (.o 3 (.alloc 39 2 (.agg [.pv (.int .i64 0), .nils])) (.op ⟨none, none, .store 2 (.t 3) (.t 6)⟩ .nil))))) (.seq (.reg 0 (.o 7 (.mv (.t 0)) (.o 8 (.fld 1 1 false (.t 3)) (.o 9 (.load 1 false (.t 8)) (.o 10 (.len (.t 9)) (.o 11 (.call 48 [.t 7, .t 10]) (.o 4 (.mv (.t 11)) .nil))))))) (.seq (.seq (.reg 0 (.o 12 (.mv (.t 0)) (.o 13 (.call 48 [.t 12, .c (.pv (.int .i64 30))]) .nil))) (.block 0 (.seq (.reg 0 (.o 15 (.bin .eql (.t 13) (.c (.pv (.int .i64 0)))) (.o 14 (.mv (.t 15)) .nil))) (.cond (.t 14) (.reg 0 (.o 16 (.mv (.t 0)) (.o 17 (.fld 1 1 false (.t 3)) (.o 18 (.load 1 false (.t 17)) (.o 19 (.len (.t 18)) (.o 20 (.lit 3 1 3 [.pv (.int .i64 0)] [(0, .c (.pv (.int .i64 (-1)))), (1, .t 19), (2, .c (.pv (.int .i64 0)))]) (.o 21 (.call 47 [.t 16, .t 20]) (.o 22 (.fld 0 1 false (.t 3)) (.op ⟨none, none, .store 1 (.t 22) (.t 21)⟩ .nil))))))))) (.seq (.reg 0 (.o 24 (.bin .eql (.t 13) (.c (.pv (.int .i64 1)))) (.o 23 (.mv (.t 24)) .nil))) (.cond (.t 23) (.reg 2 (.o 25 (.fld 1 1 false (.t 3)) (.o 26 (.load 1 false (.t 25)) (.o 27 (.mv (.t 4)) (.o 28 (.mv (.t 0)) (.o 29 (.fld 1 1 false (.t 3)) (.o 30 (.load 1 false (.t 29)) (.o 31 (.mv (.t 4)) (.o 32 (.idx 3 (.t 30) (.t 31)) (.o 33 (.fld 0 1 false (.t 32)) (.o 34 (.load 1 false (.t 33)) (.o 36 (.lit 3 1 1 [.pv (.int .i64 0)] [(0, .c (.pv (.int .i64 3)))]) (.o 35 (.call 83 [.t 34]) (.o 37 (.app 3 1 8 (.t 35) (.t 36)) (.o 38 (.call 82 [.t 28, .t 37, .c (.pv (.int .i64 100))]) (.o 39 (.idx 3 (.t 26) (.t 27)) (.o 40 (.fld 0 1 false (.t 39)) (.last ⟨none, none, .store 1 (.t 40) (.t 38)⟩)))))))))))))))))) (.seq (.reg 0 (.o 42 (.bin .eql (.t 13) (.c (.pv (.int .i64 2)))) (.o 41 (.mv (.t 42)) .nil))) (.cond (.t 41) (.reg 2 (.o 43 (.fld 1 1 false (.t 3)) (.o 44 (.load 1 false (.t 43)) (.o 45 (.mv (.t 4)) (.o 46 (.mv (.t 0)) (.o 47 (.fld 1 1 false (.t 3)) (.o 48 (.load 1 false (.t 47)) (.o 49 (.mv (.t 4)) (.o 50 (.idx 3 (.t 48) (.t 49)) (.o 51 (.fld 1 1 false (.t 50)) (.o 52 (.load 1 false (.t 51)) (.o 53 (.mv (.t 4)) (.o 54 (.call 82 [.t 46, .t 52, .t 53]) (.o 55 (.idx 3 (.t 44) (.t 45)) (.o 56 (.fld 1 1 false (.t 55)) (.last ⟨none, none, .store 1 (.t 56) (.t 54)⟩)))))))))))))))) (.seq (.reg 0 (.o 58 (.bin .eql (.t 13) (.c (.pv (.int .i64 3)))) (.o 57 (.mv (.t 58)) .nil))) (.cond (.t 57) (.reg 2 (.o 59 (.fld 1 1 false (.t 3)) (.o 60 (.load 1 false (.t 59)) (.o 61 (.mv (.t 4)) (.o 62 (.mv (.t 0)) (.o 63 (.fld 1 1 false (.t 3)) (.o 64 (.load 1 false (.t 63)) (.o 65 (.mv (.t 4)) (.o 66 (.idx 3 (.t 64) (.t 65)) (.o 67 (.fld 2 1 false (.t 66)) (.o 68 (.load 1 false (.t 67)) (.o 69 (.call 82 [.t 62, .t 68, .c (.pv (.int .i64 1001))]) (.o 70 (.idx 3 (.t 60) (.t 61)) (.o 71 (.fld 2 1 false (.t 70)) (.last ⟨none, none, .store 1 (.t 71) (.t 69)⟩))))))))))))))) (.seq (.reg 0 (.o 73 (.bin .eql (.t 13) (.c (.pv (.int .i64 4)))) (.o 72 (.mv (.t 73)) .nil))) (.cond (.t 72) (.reg 0 (.o 74 (.fld 1 1 false (.t 3)) (.o 75 (.load 1 false (.t 74)) (.o 76 (.mv (.t 4)) (.o 77 (.slc 3 (.t 75) none (some (.t 76))) (.o 78 (.fld 1 1 false (.t 3)) (.op ⟨none, none, .store 1 (.t 78) (.t 77)⟩ .nil))))))) .skip)))))))))))) (.seq (.reg 0 (.o 79 (.load 2 true (.t 3)) (.op ⟨none, none, .store 2 (.t 2) (.t 79)⟩ .nil))) .ret)))), [.c 2 2])) := by kernel_rfl
theorem c_spec_anyTree (bs : List Int) (hb : isU8 bs) (hbl : bs.length ≤ 2000) (p : Int) (hp : 0 ≤ p) (hp2 : p ≤ 50000000000) : RdS prog 46 84 bs p [] (fun x q => ∃ t : Pt, x = ptP t ∧ AnyT t ∧ (p ≤ q ∧ q ≤ p + 220)) := by
 refine callS_of_VS sl_spec_anyTree (by simp) (VS_seq (VS_r0 rfl (q_alloc trivial (rg_nil (VS_seq (VS_r0 rfl (q_mv rfl ?_)))))))
 refine q_rdt rfl (show RdT prog 42 84 25 bs p [] (fun T q => SafeT T ∧ p ≤ q ∧ q ≤ p + 200) from (c_spec_goodTree bs hb hbl p hp (by omega)).mono fun d S ⟨T, q, R, h1, h2, h3⟩ => ⟨T, q, R, h1, h2, h3⟩) rfl rfl (fun _ _ => trivial) ?_
 rintro T q6 ⟨gs, hq1, hq2⟩
 refine q_alloc trivial (q_store rfl rfl rfl rfl rfl rfl ⟨rfl, rfl, by simp, by simp [setAt, isCell_own, isCell_sl, isCell_int, isCell_nils], by simp [isOne]⟩ rfl trivial (rg_nil ?_))
 have hm := gs.many
 refine VS_bd (Bd.renL (S' := [some (rdr 84 bs (q6)), some ⟨39, 2, [.agg [.pv (i64 0), .nils]]⟩, obD 25 3 (dG T.ps), some ⟨39, 2, [.agg [.pv (i64 T.r), ownD 2 (dG T.ps)]]⟩]) [0, 1, 2, 3] (obm rfl) (by simp) [(0, .ptr 0 0 0), (2, .ptr 1 0 0), (3, .ptr 3 0 0)] ⟨rfl, rfl, rfl, trivial⟩ (l4 rfl rfl (obD_mG _) (congrArg (fun z => some (⟨39, 2, [.agg [.pv (i64 T.r), z]]⟩ : Ob)) (mp1_own rfl))) ?_)
 refine VS_seq (VS_r0 rfl (q_mv rfl (q_fld_r rfl (q_load_o rfl rfl rfl rfl rfl (q_len_dm rfl ?_)))))
 refine q_rd rfl (c_spec_reader_pick bs hb hbl _ (by omega) (T.ps.length : Int) (by omega) (by omega)) rfl rfl (fun _ => trivial) ?_
 rintro _ q11 ⟨u, rfl, q_u, rfl⟩
 refine q_mv rfl (rg_nil ?_)
 refine VS_join (fun E S => ∃ (t : Pt) (q : Int), AnyT t ∧ (p ≤ q ∧ q ≤ p + 220) ∧ E = env [(0, .ptr 0 0 0), (2, .ptr 1 0 0), (3, .ptr 3 0 0)] ∧ S = [some (rdr 84 bs (q)), some ⟨39, 2, [.agg [.pv (i64 0), .nils]]⟩, none, some ⟨39, 2, [.agg [.pv (i64 (t.r)), .pv (pgsP (t.ps))]]⟩]) ?_ ?_
 ·skip
  refine VS_seq (VS_r0 rfl (q_mv rfl ?_))
  refine q_rd rfl (c_spec_reader_pick bs hb hbl _ (by omega) 30 (by omega) (by omega)) rfl rfl (fun _ => trivial) ?_
  rintro _ q13 ⟨w, rfl, q_w, rfl⟩
  refine rg_nil (VS_block (VS_seq (VS_st [some (rdr 84 bs (q6 + 1 + 1)), some ⟨39, 2, [.agg [.pv (i64 0), .nils]]⟩, obD 25 3 (dG T.ps), some ⟨39, 2, [.agg [.pv (i64 T.r), ownD 2 (dG T.ps)]]⟩] rfl ?_)))
  refine VS_bd (Bd.keepL [(0, .ptr 0 0 0), (2, .ptr 1 0 0), (3, .ptr 3 0 0), (4, .pv (i64 u)), (13, .pv (i64 w))] ⟨rfl, rfl, rfl, rfl, rfl, trivial⟩ ?_)
  have hul : u.toNat < T.ps.length := by omega
  have hbu := gs.bdI hul
  have hsu := (gs.bd _ hul).ln
  have hk3 : bdI 1000000000 ((nth T.ps u.toNat).ks ++ [3]) := (hbu.1.le (by omega)).app (bdI.one (by omega))
  refine VS_r0 rfl (q_eql rfl rfl (q_mv rfl (rg_nil ?_)))
  refine VS_cond rfl (fun c0 => ?_) (fun c0 => ?_)
  ·try simp at c0
   refine VS_r0 rfl (q_mv rfl (q_fld_r rfl (q_load_o rfl rfl rfl rfl rfl (q_len_dm rfl (q_lit (xs := [-1, (T.ps.length : Int), 0].map (.int .i64)) rfl rfl rfl rfl ?_)))))
   refine q_rd rfl (c_spec_reader_one bs hb hbl _ (by omega) [-1, (T.ps.length : Int), 0] (by simp) (by simp) (by omega)) rfl rfl (fun _ => trivial) ?_
   rintro _ q21 ⟨c, rfl, q_c, rfl⟩
   refine q_fld_r rfl (q_store rfl rfl rfl rfl rfl rfl ⟨rfl, rfl, by simp, rfl, by simp [isOne]⟩ rfl trivial (rg_nil (Bd.frzFB 2 3 0 1 25 3 (xs := dG (T.ps)) (by decide) rfl (toPVs_dG _) rfl rfl (by rfl) ?_)))
   exact Bd.renL (S' := [some (rdr 84 bs (q6 + 1 + 1 + 1)), some ⟨39, 2, [.agg [.pv (i64 0), .nils]]⟩, none, some ⟨39, 2, [.agg [.pv (i64 (c)), .pv (pgsP (T.ps))]]⟩]) [0, 1, 2, 3] (obm rfl) (by simp) [(0, .ptr 0 0 0), (2, .ptr 1 0 0), (3, .ptr 3 0 0)] ⟨rfl, rfl, rfl, trivial⟩ rfl ⟨⟨c, T.ps⟩, q6 + 1 + 1 + 1, gs.any.root, by omega, rfl, rfl⟩
  ·try simp at c0
   refine VS_seq (VS_r0 rfl (q_eql rfl rfl (q_mv rfl (rg_nil ?_))))
   refine VS_cond rfl (fun c1 => ?_) (fun c1 => ?_)
   ·try simp at c1
    refine VS_r2 [none, none, obD 25 3 (dG T.ps), some ⟨39, 2, [.agg [.pv (i64 T.r), ownD 2 (dG T.ps)]]⟩] hmix (SubL.sub (by repeat constructor)) (q_fld_r rfl (q_load_o rfl rfl rfl rfl rfl (q_mv rfl (q_mv rfl (q_fld_r rfl (q_load_o rfl rfl rfl rfl rfl (q_mv rfl (q_idx_dm (f := fun p => .pv (pgP p)) (ty := 25) (xs := T.ps) (n := u) rfl rfl (by omega) (by omega) rfl (q_fld_r rfl (q_load_gf (ty := 25) (qs := T.ps) rfl rfl (by omega) rfl rfl (q_lit (xs := [i64 3]) rfl rfl rfl rfl (q_new rfl (c_spec_copyInts (nth T.ps u.toNat).ks (by omega)) (flat_I _) (by rfl) (SubL.sub (by repeat constructor)) (q_app_dm (xs := (nth T.ps u.toNat).ks) (ys := [3]) (f := fun k => .pv (i64 k)) rfl rfl rfl rfl ⟨by simp; omega, by simp; omega⟩ (SubL.sub (by repeat constructor)) ?_)))))))))))))
    refine q_rdo2 (ity := 3) (xs := (nth T.ps u.toNat).ks ++ [3]) (n := i64 100) (o := 0) (o2 := 5) rfl (c_spec_reader_spoil bs hb hbl _ (by omega) ((nth T.ps u.toNat).ks ++ [3]) 100 (by simp; omega) hk3 (by omega) (by omega)) rfl rfl rfl (by decide) (by simp) (fun _ => (SubL.sub (by repeat constructor))) ?_
    rintro _ q38 ⟨zs, rfl, ⟨hz1, hz2⟩, ⟨hs1, hs2⟩⟩
    rw [List.length_append, List.length_singleton] at hz1
    refine q_idx_dm (f := fun p => .pv (pgP p)) (ty := 25) (xs := T.ps) (n := u) rfl rfl (by omega) (by omega) rfl (q_fld_r rfl (q_last (q_store_gfd (ty := 25) (qs := T.ps) zs rfl rfl (by decide) rfl (by omega) trivial (rg_nil (Bd.packG 2 u.toNat (qs := T.ps) (g := ⟨zs, (nth T.ps u.toNat).cs, (nth T.ps u.toNat).vs⟩) (by omega) rfl (Bd.frzFB 2 3 0 1 25 3 (xs := dG (T.ps.set u.toNat ⟨zs, (nth T.ps u.toNat).cs, (nth T.ps u.toNat).vs⟩)) (by decide) rfl (toPVs_dG _) rfl rfl (by exact congrArg some (ownD_len (by simp))) ?_))))))
    exact Bd.renL (S' := [some (rdr 84 bs (q38)), some ⟨39, 2, [.agg [.pv (i64 0), .nils]]⟩, none, some ⟨39, 2, [.agg [.pv (i64 (T.r)), .pv (pgsP ((T.ps.set u.toNat ⟨zs, (nth T.ps u.toNat).cs, (nth T.ps u.toNat).vs⟩)))]]⟩]) [0, 1, 2, 3] (obm rfl) (by simp) [(0, .ptr 0 0 0), (2, .ptr 1 0 0), (3, .ptr 3 0 0)] ⟨rfl, rfl, rfl, trivial⟩ rfl ⟨⟨T.r, (T.ps.set u.toNat ⟨zs, (nth T.ps u.toNat).cs, (nth T.ps u.toNat).vs⟩)⟩, q38, (gs.any.set (by show _ ≤ _ ∧ _ ≤ _ ∧ _ ≤ _; simp only []; omega)), by omega, rfl, rfl⟩
   ·try simp at c1
    refine VS_seq (VS_r0 rfl (q_eql rfl rfl (q_mv rfl (rg_nil ?_))))
    refine VS_cond rfl (fun c2 => ?_) (fun c2 => ?_)
    ·try simp at c2
     refine VS_r2 [none, none, obD 25 3 (dG T.ps), some ⟨39, 2, [.agg [.pv (i64 T.r), ownD 2 (dG T.ps)]]⟩] hmix (SubL.sub (by repeat constructor)) (q_fld_r rfl (q_load_o rfl rfl rfl rfl rfl (q_mv rfl (q_mv rfl (q_fld_r rfl (q_load_o rfl rfl rfl rfl rfl (q_mv rfl (q_idx_dm (f := fun p => .pv (pgP p)) (ty := 25) (xs := T.ps) (n := u) rfl rfl (by omega) (by omega) rfl (q_fld_r rfl (q_load_gf (ty := 25) (qs := T.ps) rfl rfl (by omega) rfl rfl (q_mv rfl ?_)))))))))))
     refine q_rd rfl (c_spec_reader_spoil bs hb hbl _ (by omega) (nth T.ps u.toNat).cs u (by omega) (hbu.2.1.le (by omega)) (by omega) (by omega)) rfl rfl (fun _ => (SubL.sub (by repeat constructor))) ?_
     rintro _ q54 ⟨zs, rfl, ⟨hz1, hz2⟩, ⟨hs1, hs2⟩⟩
     refine q_idx_dm (f := fun p => .pv (pgP p)) (ty := 25) (xs := T.ps) (n := u) rfl rfl (by omega) (by omega) rfl (q_fld_r rfl (q_last (q_store_gfd (ty := 25) (qs := T.ps) zs rfl rfl (by decide) rfl (by omega) trivial (rg_nil (Bd.packG 2 u.toNat (qs := T.ps) (g := ⟨(nth T.ps u.toNat).ks, zs, (nth T.ps u.toNat).vs⟩) (by omega) rfl (Bd.frzFB 2 3 0 1 25 3 (xs := dG (T.ps.set u.toNat ⟨(nth T.ps u.toNat).ks, zs, (nth T.ps u.toNat).vs⟩)) (by decide) rfl (toPVs_dG _) rfl rfl (by exact congrArg some (ownD_len (by simp))) ?_))))))
     exact Bd.renL (S' := [some (rdr 84 bs (q54)), some ⟨39, 2, [.agg [.pv (i64 0), .nils]]⟩, none, some ⟨39, 2, [.agg [.pv (i64 (T.r)), .pv (pgsP ((T.ps.set u.toNat ⟨(nth T.ps u.toNat).ks, zs, (nth T.ps u.toNat).vs⟩)))]]⟩]) [0, 1, 2, 3] (obm rfl) (by simp) [(0, .ptr 0 0 0), (2, .ptr 1 0 0), (3, .ptr 3 0 0)] ⟨rfl, rfl, rfl, trivial⟩ rfl ⟨⟨T.r, (T.ps.set u.toNat ⟨(nth T.ps u.toNat).ks, zs, (nth T.ps u.toNat).vs⟩)⟩, q54, (gs.any.set (by show _ ≤ _ ∧ _ ≤ _ ∧ _ ≤ _; simp only []; omega)), by omega, rfl, rfl⟩
    ·try simp at c2
     refine VS_seq (VS_r0 rfl (q_eql rfl rfl (q_mv rfl (rg_nil ?_))))
     refine VS_cond rfl (fun c3 => ?_) (fun c3 => ?_)
     ·try simp at c3
      refine VS_r2 [none, none, obD 25 3 (dG T.ps), some ⟨39, 2, [.agg [.pv (i64 T.r), ownD 2 (dG T.ps)]]⟩] hmix (SubL.sub (by repeat constructor)) (q_fld_r rfl (q_load_o rfl rfl rfl rfl rfl (q_mv rfl (q_mv rfl (q_fld_r rfl (q_load_o rfl rfl rfl rfl rfl (q_mv rfl (q_idx_dm (f := fun p => .pv (pgP p)) (ty := 25) (xs := T.ps) (n := u) rfl rfl (by omega) (by omega) rfl (q_fld_r rfl (q_load_gf (ty := 25) (qs := T.ps) rfl rfl (by omega) rfl rfl ?_))))))))))
      refine q_rd rfl (c_spec_reader_spoil bs hb hbl _ (by omega) (nth T.ps u.toNat).vs 1001 (by omega) (hbu.2.2.le (by omega)) (by omega) (by omega)) rfl rfl (fun _ => (SubL.sub (by repeat constructor))) ?_
      rintro _ q69 ⟨zs, rfl, ⟨hz1, hz2⟩, ⟨hs1, hs2⟩⟩
      refine q_idx_dm (f := fun p => .pv (pgP p)) (ty := 25) (xs := T.ps) (n := u) rfl rfl (by omega) (by omega) rfl (q_fld_r rfl (q_last (q_store_gfd (ty := 25) (qs := T.ps) zs rfl rfl (by decide) rfl (by omega) trivial (rg_nil (Bd.packG 2 u.toNat (qs := T.ps) (g := ⟨(nth T.ps u.toNat).ks, (nth T.ps u.toNat).cs, zs⟩) (by omega) rfl (Bd.frzFB 2 3 0 1 25 3 (xs := dG (T.ps.set u.toNat ⟨(nth T.ps u.toNat).ks, (nth T.ps u.toNat).cs, zs⟩)) (by decide) rfl (toPVs_dG _) rfl rfl (by exact congrArg some (ownD_len (by simp))) ?_))))))
      exact Bd.renL (S' := [some (rdr 84 bs (q69)), some ⟨39, 2, [.agg [.pv (i64 0), .nils]]⟩, none, some ⟨39, 2, [.agg [.pv (i64 (T.r)), .pv (pgsP ((T.ps.set u.toNat ⟨(nth T.ps u.toNat).ks, (nth T.ps u.toNat).cs, zs⟩)))]]⟩]) [0, 1, 2, 3] (obm rfl) (by simp) [(0, .ptr 0 0 0), (2, .ptr 1 0 0), (3, .ptr 3 0 0)] ⟨rfl, rfl, rfl, trivial⟩ rfl ⟨⟨T.r, (T.ps.set u.toNat ⟨(nth T.ps u.toNat).ks, (nth T.ps u.toNat).cs, zs⟩)⟩, q69, (gs.any.set (by show _ ≤ _ ∧ _ ≤ _ ∧ _ ≤ _; simp only []; omega)), by omega, rfl, rfl⟩
     ·try simp at c3
      refine VS_seq (VS_r0 rfl (q_eql rfl rfl (q_mv rfl (rg_nil ?_))))
      refine VS_cond rfl (fun c4 => ?_) (fun c4 => ?_)
      ·try simp at c4
       have hown : ownD 2 (dG T.ps) = .own 2 T.ps.length := by cases hT : T.ps with
           | nil => rw [hT] at hul; simp at hul
           | cons x r => simp [ownD]
       have hobd : obD 25 3 (dG T.ps) = some ⟨25, 3, dG T.ps⟩ := obD_ne (by intro e; have e2 := congrArg List.length e; simp at e2; rw [e2] at hul; simp at hul)
       refine VS_r0 rfl (q_fld_r rfl (q_load_o rfl rfl rfl rfl rfl (q_mv rfl (q_slc_o (o := 2) (n := T.ps.length) (m := u.toNat) hown rfl rfl ⟨by omega, by omega⟩ (q_fld_r rfl (q_store rfl rfl rfl rfl rfl rfl ⟨rfl, rfl, by simp, rfl, by simp [isOne]⟩ rfl trivial (rg_nil ?_)))))))
       refine Bd.then (Bd.cut 2 u.toNat (ob := ⟨25, 3, dG T.ps⟩) (R := fun E' S' => E' = _ ∧ S' = _) (congrArg some hobd) ⟨rfl, rfl⟩) ?_
       rintro _ _ ⟨rfl, rfl⟩
       refine Bd.frzP 2 3 (ty := 25) (n := u.toNat) (qs := T.ps.take u.toNat) (by decide) (congrArg (fun z => some (some (⟨25, 3, z⟩ : Ob))) (List.map_take ..).symm) (by simp; omega) rfl rfl ?_
       exact Bd.renL (S' := [some (rdr 84 bs (q6 + 1 + 1)), some ⟨39, 2, [.agg [.pv (i64 0), .nils]]⟩, none, some ⟨39, 2, [.agg [.pv (i64 (T.r)), .pv (pgsP ((T.ps.take u.toNat)))]]⟩]) [0, 1, 2, 3] (obm rfl) (by simp) [(0, .ptr 0 0 0), (2, .ptr 1 0 0), (3, .ptr 3 0 0)] ⟨rfl, rfl, rfl, trivial⟩ rfl ⟨⟨T.r, (T.ps.take u.toNat)⟩, q6 + 1 + 1, gs.any.take, by omega, rfl, rfl⟩
      ·try simp at c4
       refine VS_skip (Bd.frzFB 2 3 0 1 25 3 (xs := dG (T.ps)) (by decide) rfl (toPVs_dG _) rfl rfl (by rfl) ?_)
       exact Bd.renL (S' := [some (rdr 84 bs (q6 + 1 + 1)), some ⟨39, 2, [.agg [.pv (i64 0), .nils]]⟩, none, some ⟨39, 2, [.agg [.pv (i64 (T.r)), .pv (pgsP (T.ps))]]⟩]) [0, 1, 2, 3] (obm rfl) (by simp) [(0, .ptr 0 0 0), (2, .ptr 1 0 0), (3, .ptr 3 0 0)] ⟨rfl, rfl, rfl, trivial⟩ rfl ⟨⟨T.r, T.ps⟩, q6 + 1 + 1, gs.any, by omega, rfl, rfl⟩
 ·rintro _ _ ⟨t, q, ha, hq, rfl, rfl⟩
  refine VS_seq (VS_r0 rfl (q_load_ra rfl rfl rfl rfl rfl (by (simp; done)) rfl (q_store rfl rfl rfl rfl rfl rfl ⟨rfl, rfl, by simp, rfl, by simp [isOne]⟩ rfl trivial (rg_nil (VS_ret (Bd.aggP 1 0 [i64 t.r, pgsP t.ps] rfl rfl ?_))))))
  refine Bd.renL [0, 1] (obm rfl) (by simp) [(2, .ptr 1 0 0)] ⟨rfl, trivial⟩ rfl ?_
  exact ⟨_, rfl, _, _, _, rfl, ⟨t, rfl, ha, hq⟩, rfl⟩
end Go.V
