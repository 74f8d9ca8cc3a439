/- MergingChecks: Check, Merges, Decode and Rate return the results of the reference implementation; for every input the law returns true. -/
import Derived.Test.YtlddcjolelmpmaaGreatCk6
import Derived.ChangeMaps5
import Derived.OpenShut
import Derived.ProofKit
import Derived.SliceStrings
import Derived.Test.YtlddcjolelmpmaaGreatRows
import Derived.WalkKit
import Derived.WideKeyArgs
namespace Go.AW
open Go Go.Proofs
set_option maxHeartbeats 1600000
set_option maxRecDepth 100000
set_option linter.unusedVariables false
theorem w_ref31_Rate {p0 : TWordsMerges} {r : TNumDen × Int} (h : m_ref31_Rate p0 = some r) : Pure Tryz.prog 34 [jA p0] (· = HV.tup [.agg (cNumDen r.1), hI r.2]) := by
 unfold m_ref31_Rate at h
 refine Pure.of_body Tryz.func34 rfl rfl (lb rfl) fun hf => ?_
 unfold Tryz.f34
 dsimp only [enumS, Nat.reduceAdd]
 refine AW.rgs rfl fun K hK => b_op rfl (o_box rfl rfl rfl ?_)
 refine b_op rfl (o_alloc (fid := 34) (zs := zND) 34002 rfl rfl ty44 rfl (fun v1 => ?_))
 refine mv rfl rfl ?_
 refine bf hK ⟨[(1, jF p0), (2, .ptr 34002 v1 0)], [(34002, v1, .arr 4 44 zND)]⟩ ?_
 refine AW.seq ?_
 refine AW.rgs rfl fun K hK => bv rfl (v_loadF ty24 rfl (l_litA rfl (lb rfl) rfl)) ?_
 obtain ⟨x2, h3, h⟩ := bS h
 refine b_op rfl (o_call rfl rfl rfl rfl (ACallD.pure0 (w_ref31_Form h3)) ?_)
 refine bv rfl (v_bin rfl rfl b_neq) ?_
 refine bf hK ⟨[(1, jF p0), (2, .ptr 34002 v1 0), (10, .bool (decide (x2 ≠ 0)))], [(34002, v1, .arr 4 44 zND)]⟩ ?_
 refine AW.cond rfl (fun hc => ?_) (fun hc => ?_)
 ·obtain ⟨hc, h⟩ := cT hc h
  refine AW.rgs rfl fun K hK => b_op rfl (o_build (cs := zND) rfl (bl_of ty44 rfl rfl rfl rfl) ?_)
  refine b_op rfl (o_store (cs := zND) (zs := zND) rfl rfl rfl ty44 rfl rfl rfl rfl rfl ?_)
  refine mv rfl rfl ?_
  refine bf hK ⟨[(2, .ptr 34002 v1 0), (3, hI 1)], [(34002, v1, .arr 4 44 zND)]⟩ ?_
  refine AW.ret ?_
  have h := Option.some.inj h
  subst h
  exact ret_pure (hs := [.agg zND, hI 1]) (.inr rfl) (resP ty44 rfl rfl (l_litA rfl (lb rfl) rfl) (resT rfl rfl)) rfl ⟨⟨trivial, trivial, trivial, trivial, trivial⟩, trivial, trivial⟩
 obtain ⟨hc, h⟩ := cF hc h
 refine AW.skip ?_
 refine AW.rgs rfl fun K hK => mv rfl rfl (mv rfl rfl ?_)
 refine bf hK ⟨[(1, jF p0), (2, .ptr 34002 v1 0), (4, hI 0), (5, hI 2)], [(34002, v1, .arr 4 44 zND)]⟩ ?_
 refine AW.seq (AW.lpX h up_then (S := Int × Int) (V := Unit) (fun a v => ⟨[(1, jF p0), (2, .ptr 34002 v1 0), (4, hI a.1), (5, hI a.2)], [(34002, v1, .arr 4 44 zND)]⟩) ?_ (X := Int) (W := Unit) (fun a v => ⟨[(1, jF p0), (2, .ptr 34002 v1 0), (4, hI a)], [(34002, v1, .arr 4 44 zND)]⟩) (fun a8 w9 h => ?_) (fun a4 w5 st6 h => ?_))
 ·exact to_L ⟨(), rfl⟩
 ·refine AW.dls follows fun K hK F hF => ?_
  obtain ⟨x100101, h100102, h⟩ := bS h
  obtain ⟨x100401, h100402, h⟩ := bS h
  obtain ⟨x100901, h100902, h⟩ := bS h
  obtain ⟨x101301, h101302, h⟩ := bS h
  obtain ⟨x101401, h101402, h⟩ := bS h
  refine l_go (L' := []) hF rfl (s' := ⟨[(1, jF p0), (2, .ptr 34002 v1 0), (4, hI a8)], [(34002, v1, .arr 4 44 zND)]⟩) ?_ (le_q rfl rfl)
  have g10_33 : ∀ (v101801 : Nat), F [0, 1, 2, 3, 4, 5, 6, 7, 8, 9, 10, 11, 12, 13, 14, 15, 16, 17, 18, 19, 20] ⟨[(2, .ptr 34002 v1 0), (6, .ptr 34006 v101801 0)], [(34002, v1, .arr 4 44 zND), (34006, v101801, .arr 4 44 (cNumDen x101401.1))]⟩ := by
   intro v101801
   refine l_done hF rfl rfl (hK _ (AW.to (to_le (s' := ⟨[(2, .ptr 34002 v1 0), (6, .ptr 34006 v101801 0)], [(34002, v1, .arr 4 44 zND), (34006, v101801, .arr 4 44 (cNumDen x101401.1))]⟩) (le_q rfl rfl) ?_)))
   refine AW.rgs rfl fun K hK => bv rfl (v_loadP ty44 rfl rfl (l_litA rfl (lb rfl) rfl)) ?_
   refine b_op rfl (o_store (cs := (cNumDen x101401.1)) (zs := (cNumDen x101401.1)) rfl rfl rfl ty44 rfl rfl rfl rfl rfl ?_)
   refine mv rfl rfl ?_
   refine bf hK ⟨[(2, .ptr 34002 v1 0), (3, hI 0)], [(34002, v1, .arr 4 44 (cNumDen x101401.1))]⟩ ?_
   refine AW.ret ?_
   have h := Option.some.inj h
   subst h
   exact ret_pure (hs := [.agg (cNumDen x101401.1), hI 0]) (.inr rfl) (resP ty44 rfl rfl (l_litA rfl (lb rfl) rfl) (resT rfl rfl)) rfl ⟨⟨trivial, trivial, trivial, trivial, trivial⟩, trivial, trivial⟩
  have g10_32 : ∀ (v101801 : Nat), F [0, 1, 2, 3, 4, 5, 6, 7, 8, 9, 10, 11, 12, 13, 14, 15, 16, 17, 18, 19] ⟨[(2, .ptr 34002 v1 0), (6, .ptr 34006 v101801 0), (38, hI x101401.2)], [(34002, v1, .arr 4 44 zND), (34006, v101801, .arr 4 44 (cNumDen x101401.1))]⟩ := by
   intro v101801
   refine l_step hF rfl [20] rfl rfl ⟨?_, trivial⟩
   ·exact l_ov rfl rfl rfl rfl (mv_val rfl rfl).2 (lg hF (g10_33 v101801))
  have g10_31 : ∀ (v101801 : Nat), F [0, 1, 2, 3, 4, 5, 6, 7, 8, 9, 10, 11, 12, 13, 14, 15, 16, 17, 18] ⟨[(2, .ptr 34002 v1 0), (6, .ptr 34006 v101801 0), (37, .agg (cNumDen x101401.1)), (38, hI x101401.2)], [(34002, v1, .arr 4 44 zND), (34006, v101801, .arr 4 44 zND)]⟩ := by
   intro v101801
   refine l_step hF rfl [19] rfl rfl ⟨?_, trivial⟩
   ·refine l_op rfl rfl rfl (o_store (cs := (cNumDen x101401.1)) (zs := (cNumDen x101401.1)) rfl rfl rfl ty44 rfl rfl rfl rfl rfl ?_)
    exact b_nil (lg hF (g10_32 v101801))
  have g10_30 : ∀ (v101801 : Nat), F [0, 1, 2, 3, 4, 5, 6, 7, 8, 9, 10, 11, 12, 13, 14, 15, 16, 18] ⟨[(2, .ptr 34002 v1 0), (6, .ptr 34006 v101801 0), (21, .tup [.agg (cNumDen x101401.1), hI x101401.2]), (37, .agg (cNumDen x101401.1))], [(34002, v1, .arr 4 44 zND), (34006, v101801, .arr 4 44 zND)]⟩ := by
   intro v101801
   refine l_takeW (i := 17) hF rfl rfl rfl (f_ext rfl rfl rfl) ?_
   exact lg hF (g10_31 v101801)
  have g10_84 : F [0, 1, 2, 3, 4, 5, 6, 7, 8, 9, 10, 11, 12, 13, 14, 15, 16, 17] ⟨[(2, .ptr 34002 v1 0), (37, .agg (cNumDen x101401.1)), (38, hI x101401.2)], [(34002, v1, .arr 4 44 zND)]⟩ := by
   refine l_step hF rfl [18] rfl rfl ⟨?_, trivial⟩
   ·refine l_op rfl rfl rfl (o_alloc (fid := 34) (zs := zND) 34006 rfl rfl ty44 rfl (fun v101801 => ?_))
    exact b_nil (lg hF (g10_31 v101801))
  have g10_29 : ∀ (v101801 : Nat), F [0, 1, 2, 3, 4, 5, 6, 7, 8, 9, 10, 11, 12, 13, 14, 15, 18] ⟨[(2, .ptr 34002 v1 0), (6, .ptr 34006 v101801 0), (21, .tup [.agg (cNumDen x101401.1), hI x101401.2])], [(34002, v1, .arr 4 44 zND), (34006, v101801, .arr 4 44 zND)]⟩ := by
   intro v101801
   refine l_takeW (i := 16) hF rfl rfl rfl (f_ext rfl rfl rfl) ?_
   exact lg hF (g10_30 v101801)
  have g10_83 : F [0, 1, 2, 3, 4, 5, 6, 7, 8, 9, 10, 11, 12, 13, 14, 15, 16] ⟨[(2, .ptr 34002 v1 0), (21, .tup [.agg (cNumDen x101401.1), hI x101401.2]), (37, .agg (cNumDen x101401.1))], [(34002, v1, .arr 4 44 zND)]⟩ := by
   refine l_takeW (i := 17) hF rfl rfl rfl (f_ext rfl rfl rfl) ?_
   exact lg hF (g10_84)
  have g10_28 : ∀ (v101801 : Nat), F [0, 1, 2, 3, 4, 5, 6, 7, 8, 9, 10, 11, 12, 13, 14, 18] ⟨[(2, .ptr 34002 v1 0), (6, .ptr 34006 v101801 0), (36, .tup [.agg (cNumDen x101401.1), hI x101401.2])], [(34002, v1, .arr 4 44 zND), (34006, v101801, .arr 4 44 zND)]⟩ := by
   intro v101801
   refine l_take (i := 15) hF rfl rfl rfl (mv_val rfl rfl).2 ?_
   exact lg hF (g10_29 v101801)
  have g10_82 : F [0, 1, 2, 3, 4, 5, 6, 7, 8, 9, 10, 11, 12, 13, 14, 15] ⟨[(2, .ptr 34002 v1 0), (21, .tup [.agg (cNumDen x101401.1), hI x101401.2])], [(34002, v1, .arr 4 44 zND)]⟩ := by
   refine l_takeW (i := 16) hF rfl rfl rfl (f_ext rfl rfl rfl) ?_
   exact lg hF (g10_83)
  have g10_27 : ∀ (v101801 : Nat), F [0, 1, 2, 3, 4, 5, 6, 7, 8, 9, 10, 11, 12, 13, 18] ⟨[(2, .ptr 34002 v1 0), (6, .ptr 34006 v101801 0), (23, .agg [.bool x100101.1, .str x100101.2]), (35, .agg [.bool x101301.1, .str x101301.2])], [(34002, v1, .arr 4 44 zND), (34006, v101801, .arr 4 44 zND)]⟩ := by
   intro v101801
   refine l_step hF rfl [14] rfl rfl ⟨?_, trivial⟩
   ·refine l_op rfl rfl rfl (o_call rfl rfl rfl rfl (ACallD.pure0 (w_ref02_NewE h101402)) ?_)
    exact b_nil (lg hF (g10_28 v101801))
  have g10_81 : F [0, 1, 2, 3, 4, 5, 6, 7, 8, 9, 10, 11, 12, 13, 14] ⟨[(2, .ptr 34002 v1 0), (36, .tup [.agg (cNumDen x101401.1), hI x101401.2])], [(34002, v1, .arr 4 44 zND)]⟩ := by
   refine l_take (i := 15) hF rfl rfl rfl (mv_val rfl rfl).2 ?_
   exact lg hF (g10_82)
  have g10_26 : ∀ (v101801 : Nat), F [0, 1, 2, 3, 4, 5, 6, 7, 8, 9, 10, 11, 12, 18] ⟨[(2, .ptr 34002 v1 0), (6, .ptr 34006 v101801 0), (23, .agg [.bool x100101.1, .str x100101.2]), (34, hI (IntKind.wrap .i64 (((x100401).length : Int) + ((x100901).length : Int))))], [(34002, v1, .arr 4 44 zND), (34006, v101801, .arr 4 44 zND)]⟩ := by
   intro v101801
   refine l_step hF rfl [13] rfl rfl ⟨?_, trivial⟩
   ·refine l_op rfl rfl rfl (o_call rfl rfl rfl rfl (ACallD.pure0 (w_ref01_OfE h101302)) ?_)
    exact b_nil (lg hF (g10_27 v101801))
  have g10_80 : F [0, 1, 2, 3, 4, 5, 6, 7, 8, 9, 10, 11, 12, 13] ⟨[(2, .ptr 34002 v1 0), (23, .agg [.bool x100101.1, .str x100101.2]), (35, .agg [.bool x101301.1, .str x101301.2])], [(34002, v1, .arr 4 44 zND)]⟩ := by
   refine l_step hF rfl [14, 18] rfl rfl ⟨?_, ?_, trivial⟩
   ·refine l_op rfl rfl rfl (o_call rfl rfl rfl rfl (ACallD.pure0 (w_ref02_NewE h101402)) ?_)
    exact b_nil (lg hF (g10_81))
   ·refine l_op rfl rfl rfl (o_alloc (fid := 34) (zs := zND) 34006 rfl rfl ty44 rfl (fun v101801 => ?_))
    exact b_nil (lg hF (g10_27 v101801))
  have g10_25 : ∀ (v101801 : Nat), F [0, 2, 3, 4, 5, 6, 7, 8, 9, 10, 11, 12, 18] ⟨[(2, .ptr 34002 v1 0), (6, .ptr 34006 v101801 0), (22, hI a8), (34, hI (IntKind.wrap .i64 (((x100401).length : Int) + ((x100901).length : Int))))], [(34002, v1, .arr 4 44 zND), (34006, v101801, .arr 4 44 zND)]⟩ := by
   intro v101801
   refine l_step hF rfl [1] rfl rfl ⟨?_, trivial⟩
   ·refine l_op rfl rfl rfl (o_call rfl rfl rfl rfl (ACallD.pure0 (w_ref01_OfE h100102)) ?_)
    exact b_nil (lg hF (g10_26 v101801))
  have g10_34 : ∀ (v101801 : Nat), F [0, 1, 2, 3, 4, 5, 6, 7, 8, 9, 10, 11, 18] ⟨[(2, .ptr 34002 v1 0), (6, .ptr 34006 v101801 0), (23, .agg [.bool x100101.1, .str x100101.2]), (28, hI ((x100401).length : Int)), (33, hI ((x100901).length : Int))], [(34002, v1, .arr 4 44 zND), (34006, v101801, .arr 4 44 zND)]⟩ := by
   intro v101801
   refine l_takeW (i := 12) hF rfl rfl rfl (f_bin rfl rfl rfl b_add rfl) ?_
   exact lg hF (g10_26 v101801)
  have g10_79 : F [0, 1, 2, 3, 4, 5, 6, 7, 8, 9, 10, 11, 12] ⟨[(2, .ptr 34002 v1 0), (23, .agg [.bool x100101.1, .str x100101.2]), (34, hI (IntKind.wrap .i64 (((x100401).length : Int) + ((x100901).length : Int))))], [(34002, v1, .arr 4 44 zND)]⟩ := by
   refine l_step hF rfl [13, 18] rfl rfl ⟨?_, ?_, trivial⟩
   ·refine l_op rfl rfl rfl (o_call rfl rfl rfl rfl (ACallD.pure0 (w_ref01_OfE h101302)) ?_)
    exact b_nil (lg hF (g10_80))
   ·refine l_op rfl rfl rfl (o_alloc (fid := 34) (zs := zND) 34006 rfl rfl ty44 rfl (fun v101801 => ?_))
    exact b_nil (lg hF (g10_26 v101801))
  have g10_23 : ∀ (v101801 : Nat), F [0, 1, 2, 3, 4, 5, 7, 8, 9, 10, 11, 18] ⟨[(2, .ptr 34002 v1 0), (6, .ptr 34006 v101801 0), (23, .agg [.bool x100101.1, .str x100101.2]), (27, .str x100401), (33, hI ((x100901).length : Int))], [(34002, v1, .arr 4 44 zND), (34006, v101801, .arr 4 44 zND)]⟩ := by
   intro v101801
   refine l_step hF rfl [6] rfl rfl ⟨?_, trivial⟩
   ·exact l_ov rfl rfl rfl rfl (v_lenS rfl rfl ty9 rfl) (lg hF (g10_34 v101801))
  have g10_24 : ∀ (v101801 : Nat), F [0, 2, 3, 4, 5, 6, 7, 8, 9, 10, 11, 18] ⟨[(2, .ptr 34002 v1 0), (6, .ptr 34006 v101801 0), (22, hI a8), (28, hI ((x100401).length : Int)), (33, hI ((x100901).length : Int))], [(34002, v1, .arr 4 44 zND), (34006, v101801, .arr 4 44 zND)]⟩ := by
   intro v101801
   refine l_takeW (i := 12) hF rfl rfl rfl (f_bin rfl rfl rfl b_add rfl) ?_
   exact lg hF (g10_25 v101801)
  have g10_41 : ∀ (v101801 : Nat), F [0, 1, 2, 3, 4, 5, 6, 7, 8, 9, 10, 18] ⟨[(2, .ptr 34002 v1 0), (6, .ptr 34006 v101801 0), (23, .agg [.bool x100101.1, .str x100101.2]), (28, hI ((x100401).length : Int)), (32, .str x100901)], [(34002, v1, .arr 4 44 zND), (34006, v101801, .arr 4 44 zND)]⟩ := by
   intro v101801
   refine l_step hF rfl [11] rfl rfl ⟨?_, trivial⟩
   ·exact l_ov rfl rfl rfl rfl (v_lenS rfl rfl ty9 rfl) (lg hF (g10_34 v101801))
  have g10_78 : F [0, 2, 3, 4, 5, 6, 7, 8, 9, 10, 11, 12] ⟨[(2, .ptr 34002 v1 0), (22, hI a8), (34, hI (IntKind.wrap .i64 (((x100401).length : Int) + ((x100901).length : Int))))], [(34002, v1, .arr 4 44 zND)]⟩ := by
   refine l_step hF rfl [1, 18] rfl rfl ⟨?_, ?_, trivial⟩
   ·refine l_op rfl rfl rfl (o_call rfl rfl rfl rfl (ACallD.pure0 (w_ref01_OfE h100102)) ?_)
    exact b_nil (lg hF (g10_79))
   ·refine l_op rfl rfl rfl (o_alloc (fid := 34) (zs := zND) 34006 rfl rfl ty44 rfl (fun v101801 => ?_))
    exact b_nil (lg hF (g10_25 v101801))
  have g10_85 : F [0, 1, 2, 3, 4, 5, 6, 7, 8, 9, 10, 11] ⟨[(2, .ptr 34002 v1 0), (23, .agg [.bool x100101.1, .str x100101.2]), (28, hI ((x100401).length : Int)), (33, hI ((x100901).length : Int))], [(34002, v1, .arr 4 44 zND)]⟩ := by
   refine l_takeW (i := 12) hF rfl rfl rfl (f_bin rfl rfl rfl b_add rfl) ?_
   exact lg hF (g10_79)
  have g10_21 : ∀ (v101801 : Nat), F [0, 1, 2, 3, 4, 7, 8, 9, 10, 11, 18] ⟨[(2, .ptr 34002 v1 0), (6, .ptr 34006 v101801 0), (23, .agg [.bool x100101.1, .str x100101.2]), (26, .fptr (eStr.E p0.1) ((0 : Int).toNat * eStr.k)), (33, hI ((x100901).length : Int))], [(34002, v1, .arr 4 44 zND), (34006, v101801, .arr 4 44 zND)]⟩ := by
   intro v101801
   refine l_step hF rfl [5] rfl rfl ⟨?_, trivial⟩
   ·exact l_ov rfl rfl rfl rfl (v_loadF ty9 rfl (l_cell eStr h100402 (o := 0) rfl rfl)) (lg hF (g10_23 v101801))
  have g10_22 : ∀ (v101801 : Nat), F [0, 2, 3, 4, 5, 7, 8, 9, 10, 11, 18] ⟨[(2, .ptr 34002 v1 0), (6, .ptr 34006 v101801 0), (22, hI a8), (27, .str x100401), (33, hI ((x100901).length : Int))], [(34002, v1, .arr 4 44 zND), (34006, v101801, .arr 4 44 zND)]⟩ := by
   intro v101801
   refine l_step hF rfl [1, 6] rfl rfl ⟨?_, ?_, trivial⟩
   ·refine l_op rfl rfl rfl (o_call rfl rfl rfl rfl (ACallD.pure0 (w_ref01_OfE h100102)) ?_)
    exact b_nil (lg hF (g10_23 v101801))
   ·exact l_ov rfl rfl rfl rfl (v_lenS rfl rfl ty9 rfl) (lg hF (g10_24 v101801))
  have g10_39 : ∀ (v101801 : Nat), F [0, 1, 2, 3, 4, 5, 7, 8, 9, 10, 18] ⟨[(2, .ptr 34002 v1 0), (6, .ptr 34006 v101801 0), (23, .agg [.bool x100101.1, .str x100101.2]), (27, .str x100401), (32, .str x100901)], [(34002, v1, .arr 4 44 zND), (34006, v101801, .arr 4 44 zND)]⟩ := by
   intro v101801
   refine l_step hF rfl [6, 11] rfl rfl ⟨?_, ?_, trivial⟩
   ·exact l_ov rfl rfl rfl rfl (v_lenS rfl rfl ty9 rfl) (lg hF (g10_41 v101801))
   ·exact l_ov rfl rfl rfl rfl (v_lenS rfl rfl ty9 rfl) (lg hF (g10_23 v101801))
  have g10_40 : ∀ (v101801 : Nat), F [0, 2, 3, 4, 5, 6, 7, 8, 9, 10, 18] ⟨[(2, .ptr 34002 v1 0), (6, .ptr 34006 v101801 0), (22, hI a8), (28, hI ((x100401).length : Int)), (32, .str x100901)], [(34002, v1, .arr 4 44 zND), (34006, v101801, .arr 4 44 zND)]⟩ := by
   intro v101801
   refine l_step hF rfl [1, 11] rfl rfl ⟨?_, ?_, trivial⟩
   ·refine l_op rfl rfl rfl (o_call rfl rfl rfl rfl (ACallD.pure0 (w_ref01_OfE h100102)) ?_)
    exact b_nil (lg hF (g10_41 v101801))
   ·exact l_ov rfl rfl rfl rfl (v_lenS rfl rfl ty9 rfl) (lg hF (g10_24 v101801))
  have g10_48 : ∀ (v101801 : Nat), F [0, 1, 2, 3, 4, 5, 6, 7, 8, 9, 18] ⟨[(2, .ptr 34002 v1 0), (6, .ptr 34006 v101801 0), (23, .agg [.bool x100101.1, .str x100101.2]), (28, hI ((x100401).length : Int)), (31, .fptr (eStr.E p0.2) ((0 : Int).toNat * eStr.k))], [(34002, v1, .arr 4 44 zND), (34006, v101801, .arr 4 44 zND)]⟩ := by
   intro v101801
   refine l_step hF rfl [10] rfl rfl ⟨?_, trivial⟩
   ·exact l_ov rfl rfl rfl rfl (v_loadF ty9 rfl (l_cell eStr h100902 (o := 0) rfl rfl)) (lg hF (g10_41 v101801))
  have g10_76 : F [0, 1, 2, 3, 4, 5, 7, 8, 9, 10, 11] ⟨[(2, .ptr 34002 v1 0), (23, .agg [.bool x100101.1, .str x100101.2]), (27, .str x100401), (33, hI ((x100901).length : Int))], [(34002, v1, .arr 4 44 zND)]⟩ := by
   refine l_step hF rfl [6, 18] rfl rfl ⟨?_, ?_, trivial⟩
   ·exact l_ov rfl rfl rfl rfl (v_lenS rfl rfl ty9 rfl) (lg hF (g10_85))
   ·refine l_op rfl rfl rfl (o_alloc (fid := 34) (zs := zND) 34006 rfl rfl ty44 rfl (fun v101801 => ?_))
    exact b_nil (lg hF (g10_23 v101801))
  have g10_77 : F [0, 2, 3, 4, 5, 6, 7, 8, 9, 10, 11] ⟨[(2, .ptr 34002 v1 0), (22, hI a8), (28, hI ((x100401).length : Int)), (33, hI ((x100901).length : Int))], [(34002, v1, .arr 4 44 zND)]⟩ := by
   refine l_takeW (i := 12) hF rfl rfl rfl (f_bin rfl rfl rfl b_add rfl) ?_
   exact lg hF (g10_78)
  have g10_92 : F [0, 1, 2, 3, 4, 5, 6, 7, 8, 9, 10] ⟨[(2, .ptr 34002 v1 0), (23, .agg [.bool x100101.1, .str x100101.2]), (28, hI ((x100401).length : Int)), (32, .str x100901)], [(34002, v1, .arr 4 44 zND)]⟩ := by
   refine l_step hF rfl [11, 18] rfl rfl ⟨?_, ?_, trivial⟩
   ·exact l_ov rfl rfl rfl rfl (v_lenS rfl rfl ty9 rfl) (lg hF (g10_85))
   ·refine l_op rfl rfl rfl (o_alloc (fid := 34) (zs := zND) 34006 rfl rfl ty44 rfl (fun v101801 => ?_))
    exact b_nil (lg hF (g10_41 v101801))
  have g10_20 : ∀ (v101801 : Nat), F [0, 2, 3, 4, 7, 8, 9, 10, 11, 18] ⟨[(2, .ptr 34002 v1 0), (6, .ptr 34006 v101801 0), (22, hI a8), (26, .fptr (eStr.E p0.1) ((0 : Int).toNat * eStr.k)), (33, hI ((x100901).length : Int))], [(34002, v1, .arr 4 44 zND), (34006, v101801, .arr 4 44 zND)]⟩ := by
   intro v101801
   refine l_step hF rfl [1, 5] rfl rfl ⟨?_, ?_, trivial⟩
   ·refine l_op rfl rfl rfl (o_call rfl rfl rfl rfl (ACallD.pure0 (w_ref01_OfE h100102)) ?_)
    exact b_nil (lg hF (g10_21 v101801))
   ·exact l_ov rfl rfl rfl rfl (v_loadF ty9 rfl (l_cell eStr h100402 (o := 0) rfl rfl)) (lg hF (g10_22 v101801))
  have g10_35 : ∀ (v101801 : Nat), F [0, 1, 2, 3, 7, 8, 9, 10, 11, 18] ⟨[(2, .ptr 34002 v1 0), (6, .ptr 34006 v101801 0), (23, .agg [.bool x100101.1, .str x100101.2]), (25, slE eStr p0.1), (33, hI ((x100901).length : Int))], [(34002, v1, .arr 4 44 zND), (34006, v101801, .arr 4 44 zND)]⟩ := by
   intro v101801
   refine l_take (i := 4) hF rfl rfl rfl (v_idxF ty22 es22 rfl rfl (idx_lt h100402)) ?_
   exact lg hF (g10_21 v101801)
  have g10_37 : ∀ (v101801 : Nat), F [0, 1, 2, 3, 4, 7, 8, 9, 10, 18] ⟨[(2, .ptr 34002 v1 0), (6, .ptr 34006 v101801 0), (23, .agg [.bool x100101.1, .str x100101.2]), (26, .fptr (eStr.E p0.1) ((0 : Int).toNat * eStr.k)), (32, .str x100901)], [(34002, v1, .arr 4 44 zND), (34006, v101801, .arr 4 44 zND)]⟩ := by
   intro v101801
   refine l_step hF rfl [5, 11] rfl rfl ⟨?_, ?_, trivial⟩
   ·exact l_ov rfl rfl rfl rfl (v_loadF ty9 rfl (l_cell eStr h100402 (o := 0) rfl rfl)) (lg hF (g10_39 v101801))
   ·exact l_ov rfl rfl rfl rfl (v_lenS rfl rfl ty9 rfl) (lg hF (g10_21 v101801))
  have g10_38 : ∀ (v101801 : Nat), F [0, 2, 3, 4, 5, 7, 8, 9, 10, 18] ⟨[(2, .ptr 34002 v1 0), (6, .ptr 34006 v101801 0), (22, hI a8), (27, .str x100401), (32, .str x100901)], [(34002, v1, .arr 4 44 zND), (34006, v101801, .arr 4 44 zND)]⟩ := by
   intro v101801
   refine l_step hF rfl [1, 6, 11] rfl rfl ⟨?_, ?_, ?_, trivial⟩
   ·refine l_op rfl rfl rfl (o_call rfl rfl rfl rfl (ACallD.pure0 (w_ref01_OfE h100102)) ?_)
    exact b_nil (lg hF (g10_39 v101801))
   ·exact l_ov rfl rfl rfl rfl (v_lenS rfl rfl ty9 rfl) (lg hF (g10_40 v101801))
   ·exact l_ov rfl rfl rfl rfl (v_lenS rfl rfl ty9 rfl) (lg hF (g10_22 v101801))
  have g10_46 : ∀ (v101801 : Nat), F [0, 1, 2, 3, 4, 5, 7, 8, 9, 18] ⟨[(2, .ptr 34002 v1 0), (6, .ptr 34006 v101801 0), (23, .agg [.bool x100101.1, .str x100101.2]), (27, .str x100401), (31, .fptr (eStr.E p0.2) ((0 : Int).toNat * eStr.k))], [(34002, v1, .arr 4 44 zND), (34006, v101801, .arr 4 44 zND)]⟩ := by
   intro v101801
   refine l_step hF rfl [6, 10] rfl rfl ⟨?_, ?_, trivial⟩
   ·exact l_ov rfl rfl rfl rfl (v_lenS rfl rfl ty9 rfl) (lg hF (g10_48 v101801))
   ·exact l_ov rfl rfl rfl rfl (v_loadF ty9 rfl (l_cell eStr h100902 (o := 0) rfl rfl)) (lg hF (g10_39 v101801))
  have g10_47 : ∀ (v101801 : Nat), F [0, 2, 3, 4, 5, 6, 7, 8, 9, 18] ⟨[(2, .ptr 34002 v1 0), (6, .ptr 34006 v101801 0), (22, hI a8), (28, hI ((x100401).length : Int)), (31, .fptr (eStr.E p0.2) ((0 : Int).toNat * eStr.k))], [(34002, v1, .arr 4 44 zND), (34006, v101801, .arr 4 44 zND)]⟩ := by
   intro v101801
   refine l_step hF rfl [1, 10] rfl rfl ⟨?_, ?_, trivial⟩
   ·refine l_op rfl rfl rfl (o_call rfl rfl rfl rfl (ACallD.pure0 (w_ref01_OfE h100102)) ?_)
    exact b_nil (lg hF (g10_48 v101801))
   ·exact l_ov rfl rfl rfl rfl (v_loadF ty9 rfl (l_cell eStr h100902 (o := 0) rfl rfl)) (lg hF (g10_40 v101801))
  have g10_59 : ∀ (v101801 : Nat), F [0, 1, 2, 3, 4, 5, 6, 7, 8, 18] ⟨[(2, .ptr 34002 v1 0), (6, .ptr 34006 v101801 0), (23, .agg [.bool x100101.1, .str x100101.2]), (28, hI ((x100401).length : Int)), (30, slE eStr p0.2)], [(34002, v1, .arr 4 44 zND), (34006, v101801, .arr 4 44 zND)]⟩ := by
   intro v101801
   refine l_take (i := 9) hF rfl rfl rfl (v_idxF ty22 es22 rfl rfl (idx_lt h100902)) ?_
   exact lg hF (g10_48 v101801)
  have g10_74 : F [0, 1, 2, 3, 4, 7, 8, 9, 10, 11] ⟨[(2, .ptr 34002 v1 0), (23, .agg [.bool x100101.1, .str x100101.2]), (26, .fptr (eStr.E p0.1) ((0 : Int).toNat * eStr.k)), (33, hI ((x100901).length : Int))], [(34002, v1, .arr 4 44 zND)]⟩ := by
   refine l_step hF rfl [5, 18] rfl rfl ⟨?_, ?_, trivial⟩
   ·exact l_ov rfl rfl rfl rfl (v_loadF ty9 rfl (l_cell eStr h100402 (o := 0) rfl rfl)) (lg hF (g10_76))
   ·refine l_op rfl rfl rfl (o_alloc (fid := 34) (zs := zND) 34006 rfl rfl ty44 rfl (fun v101801 => ?_))
    exact b_nil (lg hF (g10_21 v101801))
  have g10_75 : F [0, 2, 3, 4, 5, 7, 8, 9, 10, 11] ⟨[(2, .ptr 34002 v1 0), (22, hI a8), (27, .str x100401), (33, hI ((x100901).length : Int))], [(34002, v1, .arr 4 44 zND)]⟩ := by
   refine l_step hF rfl [1, 6, 18] rfl rfl ⟨?_, ?_, ?_, trivial⟩
   ·refine l_op rfl rfl rfl (o_call rfl rfl rfl rfl (ACallD.pure0 (w_ref01_OfE h100102)) ?_)
    exact b_nil (lg hF (g10_76))
   ·exact l_ov rfl rfl rfl rfl (v_lenS rfl rfl ty9 rfl) (lg hF (g10_77))
   ·refine l_op rfl rfl rfl (o_alloc (fid := 34) (zs := zND) 34006 rfl rfl ty44 rfl (fun v101801 => ?_))
    exact b_nil (lg hF (g10_22 v101801))
  have g10_90 : F [0, 1, 2, 3, 4, 5, 7, 8, 9, 10] ⟨[(2, .ptr 34002 v1 0), (23, .agg [.bool x100101.1, .str x100101.2]), (27, .str x100401), (32, .str x100901)], [(34002, v1, .arr 4 44 zND)]⟩ := by
   refine l_step hF rfl [6, 11, 18] rfl rfl ⟨?_, ?_, ?_, trivial⟩
   ·exact l_ov rfl rfl rfl rfl (v_lenS rfl rfl ty9 rfl) (lg hF (g10_92))
   ·exact l_ov rfl rfl rfl rfl (v_lenS rfl rfl ty9 rfl) (lg hF (g10_76))
   ·refine l_op rfl rfl rfl (o_alloc (fid := 34) (zs := zND) 34006 rfl rfl ty44 rfl (fun v101801 => ?_))
    exact b_nil (lg hF (g10_39 v101801))
  have g10_91 : F [0, 2, 3, 4, 5, 6, 7, 8, 9, 10] ⟨[(2, .ptr 34002 v1 0), (22, hI a8), (28, hI ((x100401).length : Int)), (32, .str x100901)], [(34002, v1, .arr 4 44 zND)]⟩ := by
   refine l_step hF rfl [1, 11, 18] rfl rfl ⟨?_, ?_, ?_, trivial⟩
   ·refine l_op rfl rfl rfl (o_call rfl rfl rfl rfl (ACallD.pure0 (w_ref01_OfE h100102)) ?_)
    exact b_nil (lg hF (g10_92))
   ·exact l_ov rfl rfl rfl rfl (v_lenS rfl rfl ty9 rfl) (lg hF (g10_77))
   ·refine l_op rfl rfl rfl (o_alloc (fid := 34) (zs := zND) 34006 rfl rfl ty44 rfl (fun v101801 => ?_))
    exact b_nil (lg hF (g10_40 v101801))
  have g10_99 : F [0, 1, 2, 3, 4, 5, 6, 7, 8, 9] ⟨[(2, .ptr 34002 v1 0), (23, .agg [.bool x100101.1, .str x100101.2]), (28, hI ((x100401).length : Int)), (31, .fptr (eStr.E p0.2) ((0 : Int).toNat * eStr.k))], [(34002, v1, .arr 4 44 zND)]⟩ := by
   refine l_step hF rfl [10, 18] rfl rfl ⟨?_, ?_, trivial⟩
   ·exact l_ov rfl rfl rfl rfl (v_loadF ty9 rfl (l_cell eStr h100902 (o := 0) rfl rfl)) (lg hF (g10_92))
   ·refine l_op rfl rfl rfl (o_alloc (fid := 34) (zs := zND) 34006 rfl rfl ty44 rfl (fun v101801 => ?_))
    exact b_nil (lg hF (g10_48 v101801))
  have g10_18 : ∀ (v101801 : Nat), F [0, 1, 2, 7, 8, 9, 10, 11, 18] ⟨[(2, .ptr 34002 v1 0), (6, .ptr 34006 v101801 0), (23, .agg [.bool x100101.1, .str x100101.2]), (24, jF p0), (33, hI ((x100901).length : Int))], [(34002, v1, .arr 4 44 zND), (34006, v101801, .arr 4 44 zND)]⟩ := by
   intro v101801
   refine l_step hF rfl [3] rfl rfl ⟨?_, trivial⟩
   ·exact l_ov rfl rfl rfl rfl (v_loadF ty22 rfl (l_lit rfl rfl)) (lg hF (g10_35 v101801))
  have g10_19 : ∀ (v101801 : Nat), F [0, 2, 3, 7, 8, 9, 10, 11, 18] ⟨[(2, .ptr 34002 v1 0), (6, .ptr 34006 v101801 0), (22, hI a8), (25, slE eStr p0.1), (33, hI ((x100901).length : Int))], [(34002, v1, .arr 4 44 zND), (34006, v101801, .arr 4 44 zND)]⟩ := by
   intro v101801
   refine l_take (i := 4) hF rfl rfl rfl (v_idxF ty22 es22 rfl rfl (idx_lt h100402)) ?_
   exact lg hF (g10_20 v101801)
  have g10_36 : ∀ (v101801 : Nat), F [0, 2, 3, 4, 7, 8, 9, 10, 18] ⟨[(2, .ptr 34002 v1 0), (6, .ptr 34006 v101801 0), (22, hI a8), (26, .fptr (eStr.E p0.1) ((0 : Int).toNat * eStr.k)), (32, .str x100901)], [(34002, v1, .arr 4 44 zND), (34006, v101801, .arr 4 44 zND)]⟩ := by
   intro v101801
   refine l_step hF rfl [1, 5, 11] rfl rfl ⟨?_, ?_, ?_, trivial⟩
   ·refine l_op rfl rfl rfl (o_call rfl rfl rfl rfl (ACallD.pure0 (w_ref01_OfE h100102)) ?_)
    exact b_nil (lg hF (g10_37 v101801))
   ·exact l_ov rfl rfl rfl rfl (v_loadF ty9 rfl (l_cell eStr h100402 (o := 0) rfl rfl)) (lg hF (g10_38 v101801))
   ·exact l_ov rfl rfl rfl rfl (v_lenS rfl rfl ty9 rfl) (lg hF (g10_20 v101801))
  have g10_42 : ∀ (v101801 : Nat), F [0, 1, 2, 3, 7, 8, 9, 10, 18] ⟨[(2, .ptr 34002 v1 0), (6, .ptr 34006 v101801 0), (23, .agg [.bool x100101.1, .str x100101.2]), (25, slE eStr p0.1), (32, .str x100901)], [(34002, v1, .arr 4 44 zND), (34006, v101801, .arr 4 44 zND)]⟩ := by
   intro v101801
   refine l_take (i := 4) hF rfl rfl rfl (v_idxF ty22 es22 rfl rfl (idx_lt h100402)) ?_
   exact lg hF (g10_37 v101801)
  have g10_44 : ∀ (v101801 : Nat), F [0, 1, 2, 3, 4, 7, 8, 9, 18] ⟨[(2, .ptr 34002 v1 0), (6, .ptr 34006 v101801 0), (23, .agg [.bool x100101.1, .str x100101.2]), (26, .fptr (eStr.E p0.1) ((0 : Int).toNat * eStr.k)), (31, .fptr (eStr.E p0.2) ((0 : Int).toNat * eStr.k))], [(34002, v1, .arr 4 44 zND), (34006, v101801, .arr 4 44 zND)]⟩ := by
   intro v101801
   refine l_step hF rfl [5, 10] rfl rfl ⟨?_, ?_, trivial⟩
   ·exact l_ov rfl rfl rfl rfl (v_loadF ty9 rfl (l_cell eStr h100402 (o := 0) rfl rfl)) (lg hF (g10_46 v101801))
   ·exact l_ov rfl rfl rfl rfl (v_loadF ty9 rfl (l_cell eStr h100902 (o := 0) rfl rfl)) (lg hF (g10_37 v101801))
  have g10_45 : ∀ (v101801 : Nat), F [0, 2, 3, 4, 5, 7, 8, 9, 18] ⟨[(2, .ptr 34002 v1 0), (6, .ptr 34006 v101801 0), (22, hI a8), (27, .str x100401), (31, .fptr (eStr.E p0.2) ((0 : Int).toNat * eStr.k))], [(34002, v1, .arr 4 44 zND), (34006, v101801, .arr 4 44 zND)]⟩ := by
   intro v101801
   refine l_step hF rfl [1, 6, 10] rfl rfl ⟨?_, ?_, ?_, trivial⟩
   ·refine l_op rfl rfl rfl (o_call rfl rfl rfl rfl (ACallD.pure0 (w_ref01_OfE h100102)) ?_)
    exact b_nil (lg hF (g10_46 v101801))
   ·exact l_ov rfl rfl rfl rfl (v_lenS rfl rfl ty9 rfl) (lg hF (g10_47 v101801))
   ·exact l_ov rfl rfl rfl rfl (v_loadF ty9 rfl (l_cell eStr h100902 (o := 0) rfl rfl)) (lg hF (g10_38 v101801))
  have g10_57 : ∀ (v101801 : Nat), F [0, 1, 2, 3, 4, 5, 6, 7, 18] ⟨[(2, .ptr 34002 v1 0), (6, .ptr 34006 v101801 0), (23, .agg [.bool x100101.1, .str x100101.2]), (28, hI ((x100401).length : Int)), (29, .fptr [slE eStr p0.1, slE eStr p0.2] 1)], [(34002, v1, .arr 4 44 zND), (34006, v101801, .arr 4 44 zND)]⟩ := by
   intro v101801
   refine l_step hF rfl [8] rfl rfl ⟨?_, trivial⟩
   ·exact l_ov rfl rfl rfl rfl (v_loadF ty22 rfl (l_lit rfl rfl)) (lg hF (g10_59 v101801))
  have g10_58 : ∀ (v101801 : Nat), F [0, 2, 3, 4, 5, 6, 7, 8, 18] ⟨[(2, .ptr 34002 v1 0), (6, .ptr 34006 v101801 0), (22, hI a8), (28, hI ((x100401).length : Int)), (30, slE eStr p0.2)], [(34002, v1, .arr 4 44 zND), (34006, v101801, .arr 4 44 zND)]⟩ := by
   intro v101801
   refine l_take (i := 9) hF rfl rfl rfl (v_idxF ty22 es22 rfl rfl (idx_lt h100902)) ?_
   exact lg hF (g10_47 v101801)
  have g10_60 : ∀ (v101801 : Nat), F [0, 1, 2, 3, 4, 5, 7, 8, 18] ⟨[(2, .ptr 34002 v1 0), (6, .ptr 34006 v101801 0), (23, .agg [.bool x100101.1, .str x100101.2]), (27, .str x100401), (30, slE eStr p0.2)], [(34002, v1, .arr 4 44 zND), (34006, v101801, .arr 4 44 zND)]⟩ := by
   intro v101801
   refine l_take (i := 9) hF rfl rfl rfl (v_idxF ty22 es22 rfl rfl (idx_lt h100902)) ?_
   exact lg hF (g10_46 v101801)
  have g10_73 : F [0, 2, 3, 4, 7, 8, 9, 10, 11] ⟨[(2, .ptr 34002 v1 0), (22, hI a8), (26, .fptr (eStr.E p0.1) ((0 : Int).toNat * eStr.k)), (33, hI ((x100901).length : Int))], [(34002, v1, .arr 4 44 zND)]⟩ := by
   refine l_step hF rfl [1, 5, 18] rfl rfl ⟨?_, ?_, ?_, trivial⟩
   ·refine l_op rfl rfl rfl (o_call rfl rfl rfl rfl (ACallD.pure0 (w_ref01_OfE h100102)) ?_)
    exact b_nil (lg hF (g10_74))
   ·exact l_ov rfl rfl rfl rfl (v_loadF ty9 rfl (l_cell eStr h100402 (o := 0) rfl rfl)) (lg hF (g10_75))
   ·refine l_op rfl rfl rfl (o_alloc (fid := 34) (zs := zND) 34006 rfl rfl ty44 rfl (fun v101801 => ?_))
    exact b_nil (lg hF (g10_20 v101801))
  have g10_86 : F [0, 1, 2, 3, 7, 8, 9, 10, 11] ⟨[(2, .ptr 34002 v1 0), (23, .agg [.bool x100101.1, .str x100101.2]), (25, slE eStr p0.1), (33, hI ((x100901).length : Int))], [(34002, v1, .arr 4 44 zND)]⟩ := by
   refine l_take (i := 4) hF rfl rfl rfl (v_idxF ty22 es22 rfl rfl (idx_lt h100402)) ?_
   exact lg hF (g10_74)
  have g10_88 : F [0, 1, 2, 3, 4, 7, 8, 9, 10] ⟨[(2, .ptr 34002 v1 0), (23, .agg [.bool x100101.1, .str x100101.2]), (26, .fptr (eStr.E p0.1) ((0 : Int).toNat * eStr.k)), (32, .str x100901)], [(34002, v1, .arr 4 44 zND)]⟩ := by
   refine l_step hF rfl [5, 11, 18] rfl rfl ⟨?_, ?_, ?_, trivial⟩
   ·exact l_ov rfl rfl rfl rfl (v_loadF ty9 rfl (l_cell eStr h100402 (o := 0) rfl rfl)) (lg hF (g10_90))
   ·exact l_ov rfl rfl rfl rfl (v_lenS rfl rfl ty9 rfl) (lg hF (g10_74))
   ·refine l_op rfl rfl rfl (o_alloc (fid := 34) (zs := zND) 34006 rfl rfl ty44 rfl (fun v101801 => ?_))
    exact b_nil (lg hF (g10_37 v101801))
  have g10_89 : F [0, 2, 3, 4, 5, 7, 8, 9, 10] ⟨[(2, .ptr 34002 v1 0), (22, hI a8), (27, .str x100401), (32, .str x100901)], [(34002, v1, .arr 4 44 zND)]⟩ := by
   refine l_step hF rfl [1, 6, 11, 18] rfl rfl ⟨?_, ?_, ?_, ?_, trivial⟩
   ·refine l_op rfl rfl rfl (o_call rfl rfl rfl rfl (ACallD.pure0 (w_ref01_OfE h100102)) ?_)
    exact b_nil (lg hF (g10_90))
   ·exact l_ov rfl rfl rfl rfl (v_lenS rfl rfl ty9 rfl) (lg hF (g10_91))
   ·exact l_ov rfl rfl rfl rfl (v_lenS rfl rfl ty9 rfl) (lg hF (g10_75))
   ·refine l_op rfl rfl rfl (o_alloc (fid := 34) (zs := zND) 34006 rfl rfl ty44 rfl (fun v101801 => ?_))
    exact b_nil (lg hF (g10_38 v101801))
  have g10_97 : F [0, 1, 2, 3, 4, 5, 7, 8, 9] ⟨[(2, .ptr 34002 v1 0), (23, .agg [.bool x100101.1, .str x100101.2]), (27, .str x100401), (31, .fptr (eStr.E p0.2) ((0 : Int).toNat * eStr.k))], [(34002, v1, .arr 4 44 zND)]⟩ := by
   refine l_step hF rfl [6, 10, 18] rfl rfl ⟨?_, ?_, ?_, trivial⟩
   ·exact l_ov rfl rfl rfl rfl (v_lenS rfl rfl ty9 rfl) (lg hF (g10_99))
   ·exact l_ov rfl rfl rfl rfl (v_loadF ty9 rfl (l_cell eStr h100902 (o := 0) rfl rfl)) (lg hF (g10_90))
   ·refine l_op rfl rfl rfl (o_alloc (fid := 34) (zs := zND) 34006 rfl rfl ty44 rfl (fun v101801 => ?_))
    exact b_nil (lg hF (g10_46 v101801))
  have g10_98 : F [0, 2, 3, 4, 5, 6, 7, 8, 9] ⟨[(2, .ptr 34002 v1 0), (22, hI a8), (28, hI ((x100401).length : Int)), (31, .fptr (eStr.E p0.2) ((0 : Int).toNat * eStr.k))], [(34002, v1, .arr 4 44 zND)]⟩ := by
   refine l_step hF rfl [1, 10, 18] rfl rfl ⟨?_, ?_, ?_, trivial⟩
   ·refine l_op rfl rfl rfl (o_call rfl rfl rfl rfl (ACallD.pure0 (w_ref01_OfE h100102)) ?_)
    exact b_nil (lg hF (g10_99))
   ·exact l_ov rfl rfl rfl rfl (v_loadF ty9 rfl (l_cell eStr h100902 (o := 0) rfl rfl)) (lg hF (g10_91))
   ·refine l_op rfl rfl rfl (o_alloc (fid := 34) (zs := zND) 34006 rfl rfl ty44 rfl (fun v101801 => ?_))
    exact b_nil (lg hF (g10_47 v101801))
  have g10_110 : F [0, 1, 2, 3, 4, 5, 6, 7, 8] ⟨[(2, .ptr 34002 v1 0), (23, .agg [.bool x100101.1, .str x100101.2]), (28, hI ((x100401).length : Int)), (30, slE eStr p0.2)], [(34002, v1, .arr 4 44 zND)]⟩ := by
   refine l_take (i := 9) hF rfl rfl rfl (v_idxF ty22 es22 rfl rfl (idx_lt h100902)) ?_
   exact lg hF (g10_99)
  have g10_15 : ∀ (v101801 : Nat), F [0, 1, 2, 7, 8, 9, 10, 18] ⟨[(2, .ptr 34002 v1 0), (6, .ptr 34006 v101801 0), (23, .agg [.bool x100101.1, .str x100101.2]), (24, jF p0), (32, .str x100901)], [(34002, v1, .arr 4 44 zND), (34006, v101801, .arr 4 44 zND)]⟩ := by
   intro v101801
   refine l_step hF rfl [3, 11] rfl rfl ⟨?_, ?_, trivial⟩
   ·exact l_ov rfl rfl rfl rfl (v_loadF ty22 rfl (l_lit rfl rfl)) (lg hF (g10_42 v101801))
   ·exact l_ov rfl rfl rfl rfl (v_lenS rfl rfl ty9 rfl) (lg hF (g10_18 v101801))
  have g10_16 : ∀ (v101801 : Nat), F [0, 2, 3, 7, 8, 9, 10, 18] ⟨[(2, .ptr 34002 v1 0), (6, .ptr 34006 v101801 0), (22, hI a8), (25, slE eStr p0.1), (32, .str x100901)], [(34002, v1, .arr 4 44 zND), (34006, v101801, .arr 4 44 zND)]⟩ := by
   intro v101801
   refine l_take (i := 4) hF rfl rfl rfl (v_idxF ty22 es22 rfl rfl (idx_lt h100402)) ?_
   exact lg hF (g10_36 v101801)
  have g10_17 : ∀ (v101801 : Nat), F [0, 2, 7, 8, 9, 10, 11, 18] ⟨[(2, .ptr 34002 v1 0), (6, .ptr 34006 v101801 0), (22, hI a8), (24, jF p0), (33, hI ((x100901).length : Int))], [(34002, v1, .arr 4 44 zND), (34006, v101801, .arr 4 44 zND)]⟩ := by
   intro v101801
   refine l_step hF rfl [1, 3] rfl rfl ⟨?_, ?_, trivial⟩
   ·refine l_op rfl rfl rfl (o_call rfl rfl rfl rfl (ACallD.pure0 (w_ref01_OfE h100102)) ?_)
    exact b_nil (lg hF (g10_18 v101801))
   ·exact l_ov rfl rfl rfl rfl (v_loadF ty22 rfl (l_lit rfl rfl)) (lg hF (g10_19 v101801))
  have g10_43 : ∀ (v101801 : Nat), F [0, 2, 3, 4, 7, 8, 9, 18] ⟨[(2, .ptr 34002 v1 0), (6, .ptr 34006 v101801 0), (22, hI a8), (26, .fptr (eStr.E p0.1) ((0 : Int).toNat * eStr.k)), (31, .fptr (eStr.E p0.2) ((0 : Int).toNat * eStr.k))], [(34002, v1, .arr 4 44 zND), (34006, v101801, .arr 4 44 zND)]⟩ := by
   intro v101801
   refine l_step hF rfl [1, 5, 10] rfl rfl ⟨?_, ?_, ?_, trivial⟩
   ·refine l_op rfl rfl rfl (o_call rfl rfl rfl rfl (ACallD.pure0 (w_ref01_OfE h100102)) ?_)
    exact b_nil (lg hF (g10_44 v101801))
   ·exact l_ov rfl rfl rfl rfl (v_loadF ty9 rfl (l_cell eStr h100402 (o := 0) rfl rfl)) (lg hF (g10_45 v101801))
   ·exact l_ov rfl rfl rfl rfl (v_loadF ty9 rfl (l_cell eStr h100902 (o := 0) rfl rfl)) (lg hF (g10_36 v101801))
  have g10_49 : ∀ (v101801 : Nat), F [0, 1, 2, 3, 7, 8, 9, 18] ⟨[(2, .ptr 34002 v1 0), (6, .ptr 34006 v101801 0), (23, .agg [.bool x100101.1, .str x100101.2]), (25, slE eStr p0.1), (31, .fptr (eStr.E p0.2) ((0 : Int).toNat * eStr.k))], [(34002, v1, .arr 4 44 zND), (34006, v101801, .arr 4 44 zND)]⟩ := by
   intro v101801
   refine l_take (i := 4) hF rfl rfl rfl (v_idxF ty22 es22 rfl rfl (idx_lt h100402)) ?_
   exact lg hF (g10_44 v101801)
  have g10_54 : ∀ (v101801 : Nat), F [0, 1, 2, 3, 4, 5, 7, 18] ⟨[(2, .ptr 34002 v1 0), (6, .ptr 34006 v101801 0), (23, .agg [.bool x100101.1, .str x100101.2]), (27, .str x100401), (29, .fptr [slE eStr p0.1, slE eStr p0.2] 1)], [(34002, v1, .arr 4 44 zND), (34006, v101801, .arr 4 44 zND)]⟩ := by
   intro v101801
   refine l_step hF rfl [6, 8] rfl rfl ⟨?_, ?_, trivial⟩
   ·exact l_ov rfl rfl rfl rfl (v_lenS rfl rfl ty9 rfl) (lg hF (g10_57 v101801))
   ·exact l_ov rfl rfl rfl rfl (v_loadF ty22 rfl (l_lit rfl rfl)) (lg hF (g10_60 v101801))
  have g10_55 : ∀ (v101801 : Nat), F [0, 2, 3, 4, 5, 6, 7, 18] ⟨[(2, .ptr 34002 v1 0), (6, .ptr 34006 v101801 0), (22, hI a8), (28, hI ((x100401).length : Int)), (29, .fptr [slE eStr p0.1, slE eStr p0.2] 1)], [(34002, v1, .arr 4 44 zND), (34006, v101801, .arr 4 44 zND)]⟩ := by
   intro v101801
   refine l_step hF rfl [1, 8] rfl rfl ⟨?_, ?_, trivial⟩
   ·refine l_op rfl rfl rfl (o_call rfl rfl rfl rfl (ACallD.pure0 (w_ref01_OfE h100102)) ?_)
    exact b_nil (lg hF (g10_57 v101801))
   ·exact l_ov rfl rfl rfl rfl (v_loadF ty22 rfl (l_lit rfl rfl)) (lg hF (g10_58 v101801))
  have g10_56 : ∀ (v101801 : Nat), F [0, 2, 3, 4, 5, 7, 8, 18] ⟨[(2, .ptr 34002 v1 0), (6, .ptr 34006 v101801 0), (22, hI a8), (27, .str x100401), (30, slE eStr p0.2)], [(34002, v1, .arr 4 44 zND), (34006, v101801, .arr 4 44 zND)]⟩ := by
   intro v101801
   refine l_take (i := 9) hF rfl rfl rfl (v_idxF ty22 es22 rfl rfl (idx_lt h100902)) ?_
   exact lg hF (g10_45 v101801)
  have g10_61 : ∀ (v101801 : Nat), F [0, 1, 2, 3, 4, 7, 8, 18] ⟨[(2, .ptr 34002 v1 0), (6, .ptr 34006 v101801 0), (23, .agg [.bool x100101.1, .str x100101.2]), (26, .fptr (eStr.E p0.1) ((0 : Int).toNat * eStr.k)), (30, slE eStr p0.2)], [(34002, v1, .arr 4 44 zND), (34006, v101801, .arr 4 44 zND)]⟩ := by
   intro v101801
   refine l_take (i := 9) hF rfl rfl rfl (v_idxF ty22 es22 rfl rfl (idx_lt h100902)) ?_
   exact lg hF (g10_44 v101801)
  have g10_71 : F [0, 1, 2, 7, 8, 9, 10, 11] ⟨[(2, .ptr 34002 v1 0), (23, .agg [.bool x100101.1, .str x100101.2]), (24, jF p0), (33, hI ((x100901).length : Int))], [(34002, v1, .arr 4 44 zND)]⟩ := by
   refine l_step hF rfl [3, 18] rfl rfl ⟨?_, ?_, trivial⟩
   ·exact l_ov rfl rfl rfl rfl (v_loadF ty22 rfl (l_lit rfl rfl)) (lg hF (g10_86))
   ·refine l_op rfl rfl rfl (o_alloc (fid := 34) (zs := zND) 34006 rfl rfl ty44 rfl (fun v101801 => ?_))
    exact b_nil (lg hF (g10_18 v101801))
  have g10_72 : F [0, 2, 3, 7, 8, 9, 10, 11] ⟨[(2, .ptr 34002 v1 0), (22, hI a8), (25, slE eStr p0.1), (33, hI ((x100901).length : Int))], [(34002, v1, .arr 4 44 zND)]⟩ := by
   refine l_take (i := 4) hF rfl rfl rfl (v_idxF ty22 es22 rfl rfl (idx_lt h100402)) ?_
   exact lg hF (g10_73)
  have g10_87 : F [0, 2, 3, 4, 7, 8, 9, 10] ⟨[(2, .ptr 34002 v1 0), (22, hI a8), (26, .fptr (eStr.E p0.1) ((0 : Int).toNat * eStr.k)), (32, .str x100901)], [(34002, v1, .arr 4 44 zND)]⟩ := by
   refine l_step hF rfl [1, 5, 11, 18] rfl rfl ⟨?_, ?_, ?_, ?_, trivial⟩
   ·refine l_op rfl rfl rfl (o_call rfl rfl rfl rfl (ACallD.pure0 (w_ref01_OfE h100102)) ?_)
    exact b_nil (lg hF (g10_88))
   ·exact l_ov rfl rfl rfl rfl (v_loadF ty9 rfl (l_cell eStr h100402 (o := 0) rfl rfl)) (lg hF (g10_89))
   ·exact l_ov rfl rfl rfl rfl (v_lenS rfl rfl ty9 rfl) (lg hF (g10_73))
   ·refine l_op rfl rfl rfl (o_alloc (fid := 34) (zs := zND) 34006 rfl rfl ty44 rfl (fun v101801 => ?_))
    exact b_nil (lg hF (g10_36 v101801))
  have g10_93 : F [0, 1, 2, 3, 7, 8, 9, 10] ⟨[(2, .ptr 34002 v1 0), (23, .agg [.bool x100101.1, .str x100101.2]), (25, slE eStr p0.1), (32, .str x100901)], [(34002, v1, .arr 4 44 zND)]⟩ := by
   refine l_take (i := 4) hF rfl rfl rfl (v_idxF ty22 es22 rfl rfl (idx_lt h100402)) ?_
   exact lg hF (g10_88)
  have g10_95 : F [0, 1, 2, 3, 4, 7, 8, 9] ⟨[(2, .ptr 34002 v1 0), (23, .agg [.bool x100101.1, .str x100101.2]), (26, .fptr (eStr.E p0.1) ((0 : Int).toNat * eStr.k)), (31, .fptr (eStr.E p0.2) ((0 : Int).toNat * eStr.k))], [(34002, v1, .arr 4 44 zND)]⟩ := by
   refine l_step hF rfl [5, 10, 18] rfl rfl ⟨?_, ?_, ?_, trivial⟩
   ·exact l_ov rfl rfl rfl rfl (v_loadF ty9 rfl (l_cell eStr h100402 (o := 0) rfl rfl)) (lg hF (g10_97))
   ·exact l_ov rfl rfl rfl rfl (v_loadF ty9 rfl (l_cell eStr h100902 (o := 0) rfl rfl)) (lg hF (g10_88))
   ·refine l_op rfl rfl rfl (o_alloc (fid := 34) (zs := zND) 34006 rfl rfl ty44 rfl (fun v101801 => ?_))
    exact b_nil (lg hF (g10_44 v101801))
  have g10_96 : F [0, 2, 3, 4, 5, 7, 8, 9] ⟨[(2, .ptr 34002 v1 0), (22, hI a8), (27, .str x100401), (31, .fptr (eStr.E p0.2) ((0 : Int).toNat * eStr.k))], [(34002, v1, .arr 4 44 zND)]⟩ := by
   refine l_step hF rfl [1, 6, 10, 18] rfl rfl ⟨?_, ?_, ?_, ?_, trivial⟩
   ·refine l_op rfl rfl rfl (o_call rfl rfl rfl rfl (ACallD.pure0 (w_ref01_OfE h100102)) ?_)
    exact b_nil (lg hF (g10_97))
   ·exact l_ov rfl rfl rfl rfl (v_lenS rfl rfl ty9 rfl) (lg hF (g10_98))
   ·exact l_ov rfl rfl rfl rfl (v_loadF ty9 rfl (l_cell eStr h100902 (o := 0) rfl rfl)) (lg hF (g10_89))
   ·refine l_op rfl rfl rfl (o_alloc (fid := 34) (zs := zND) 34006 rfl rfl ty44 rfl (fun v101801 => ?_))
    exact b_nil (lg hF (g10_45 v101801))
  have g10_108 : F [0, 1, 2, 3, 4, 5, 6, 7] ⟨[(2, .ptr 34002 v1 0), (23, .agg [.bool x100101.1, .str x100101.2]), (28, hI ((x100401).length : Int)), (29, .fptr [slE eStr p0.1, slE eStr p0.2] 1)], [(34002, v1, .arr 4 44 zND)]⟩ := by
   refine l_step hF rfl [8, 18] rfl rfl ⟨?_, ?_, trivial⟩
   ·exact l_ov rfl rfl rfl rfl (v_loadF ty22 rfl (l_lit rfl rfl)) (lg hF (g10_110))
   ·refine l_op rfl rfl rfl (o_alloc (fid := 34) (zs := zND) 34006 rfl rfl ty44 rfl (fun v101801 => ?_))
    exact b_nil (lg hF (g10_57 v101801))
  have g10_109 : F [0, 2, 3, 4, 5, 6, 7, 8] ⟨[(2, .ptr 34002 v1 0), (22, hI a8), (28, hI ((x100401).length : Int)), (30, slE eStr p0.2)], [(34002, v1, .arr 4 44 zND)]⟩ := by
   refine l_take (i := 9) hF rfl rfl rfl (v_idxF ty22 es22 rfl rfl (idx_lt h100902)) ?_
   exact lg hF (g10_98)
  have g10_111 : F [0, 1, 2, 3, 4, 5, 7, 8] ⟨[(2, .ptr 34002 v1 0), (23, .agg [.bool x100101.1, .str x100101.2]), (27, .str x100401), (30, slE eStr p0.2)], [(34002, v1, .arr 4 44 zND)]⟩ := by
   refine l_take (i := 9) hF rfl rfl rfl (v_idxF ty22 es22 rfl rfl (idx_lt h100902)) ?_
   exact lg hF (g10_97)
  have g10_12 : ∀ (v101801 : Nat), F [0, 1, 2, 7, 8, 9, 18] ⟨[(2, .ptr 34002 v1 0), (6, .ptr 34006 v101801 0), (23, .agg [.bool x100101.1, .str x100101.2]), (24, jF p0), (31, .fptr (eStr.E p0.2) ((0 : Int).toNat * eStr.k))], [(34002, v1, .arr 4 44 zND), (34006, v101801, .arr 4 44 zND)]⟩ := by
   intro v101801
   refine l_step hF rfl [3, 10] rfl rfl ⟨?_, ?_, trivial⟩
   ·exact l_ov rfl rfl rfl rfl (v_loadF ty22 rfl (l_lit rfl rfl)) (lg hF (g10_49 v101801))
   ·exact l_ov rfl rfl rfl rfl (v_loadF ty9 rfl (l_cell eStr h100902 (o := 0) rfl rfl)) (lg hF (g10_15 v101801))
  have g10_13 : ∀ (v101801 : Nat), F [0, 2, 3, 7, 8, 9, 18] ⟨[(2, .ptr 34002 v1 0), (6, .ptr 34006 v101801 0), (22, hI a8), (25, slE eStr p0.1), (31, .fptr (eStr.E p0.2) ((0 : Int).toNat * eStr.k))], [(34002, v1, .arr 4 44 zND), (34006, v101801, .arr 4 44 zND)]⟩ := by
   intro v101801
   refine l_take (i := 4) hF rfl rfl rfl (v_idxF ty22 es22 rfl rfl (idx_lt h100402)) ?_
   exact lg hF (g10_43 v101801)
  have g10_14 : ∀ (v101801 : Nat), F [0, 2, 7, 8, 9, 10, 18] ⟨[(2, .ptr 34002 v1 0), (6, .ptr 34006 v101801 0), (22, hI a8), (24, jF p0), (32, .str x100901)], [(34002, v1, .arr 4 44 zND), (34006, v101801, .arr 4 44 zND)]⟩ := by
   intro v101801
   refine l_step hF rfl [1, 3, 11] rfl rfl ⟨?_, ?_, ?_, trivial⟩
   ·refine l_op rfl rfl rfl (o_call rfl rfl rfl rfl (ACallD.pure0 (w_ref01_OfE h100102)) ?_)
    exact b_nil (lg hF (g10_15 v101801))
   ·exact l_ov rfl rfl rfl rfl (v_loadF ty22 rfl (l_lit rfl rfl)) (lg hF (g10_16 v101801))
   ·exact l_ov rfl rfl rfl rfl (v_lenS rfl rfl ty9 rfl) (lg hF (g10_17 v101801))
  have g10_51 : ∀ (v101801 : Nat), F [0, 1, 2, 3, 4, 7, 18] ⟨[(2, .ptr 34002 v1 0), (6, .ptr 34006 v101801 0), (23, .agg [.bool x100101.1, .str x100101.2]), (26, .fptr (eStr.E p0.1) ((0 : Int).toNat * eStr.k)), (29, .fptr [slE eStr p0.1, slE eStr p0.2] 1)], [(34002, v1, .arr 4 44 zND), (34006, v101801, .arr 4 44 zND)]⟩ := by
   intro v101801
   refine l_step hF rfl [5, 8] rfl rfl ⟨?_, ?_, trivial⟩
   ·exact l_ov rfl rfl rfl rfl (v_loadF ty9 rfl (l_cell eStr h100402 (o := 0) rfl rfl)) (lg hF (g10_54 v101801))
   ·exact l_ov rfl rfl rfl rfl (v_loadF ty22 rfl (l_lit rfl rfl)) (lg hF (g10_61 v101801))
  have g10_52 : ∀ (v101801 : Nat), F [0, 2, 3, 4, 5, 7, 18] ⟨[(2, .ptr 34002 v1 0), (6, .ptr 34006 v101801 0), (22, hI a8), (27, .str x100401), (29, .fptr [slE eStr p0.1, slE eStr p0.2] 1)], [(34002, v1, .arr 4 44 zND), (34006, v101801, .arr 4 44 zND)]⟩ := by
   intro v101801
   refine l_step hF rfl [1, 6, 8] rfl rfl ⟨?_, ?_, ?_, trivial⟩
   ·refine l_op rfl rfl rfl (o_call rfl rfl rfl rfl (ACallD.pure0 (w_ref01_OfE h100102)) ?_)
    exact b_nil (lg hF (g10_54 v101801))
   ·exact l_ov rfl rfl rfl rfl (v_lenS rfl rfl ty9 rfl) (lg hF (g10_55 v101801))
   ·exact l_ov rfl rfl rfl rfl (v_loadF ty22 rfl (l_lit rfl rfl)) (lg hF (g10_56 v101801))
  have g10_53 : ∀ (v101801 : Nat), F [0, 2, 3, 4, 7, 8, 18] ⟨[(2, .ptr 34002 v1 0), (6, .ptr 34006 v101801 0), (22, hI a8), (26, .fptr (eStr.E p0.1) ((0 : Int).toNat * eStr.k)), (30, slE eStr p0.2)], [(34002, v1, .arr 4 44 zND), (34006, v101801, .arr 4 44 zND)]⟩ := by
   intro v101801
   refine l_take (i := 9) hF rfl rfl rfl (v_idxF ty22 es22 rfl rfl (idx_lt h100902)) ?_
   exact lg hF (g10_43 v101801)
  have g10_68 : F [0, 1, 2, 7, 8, 9, 10] ⟨[(2, .ptr 34002 v1 0), (23, .agg [.bool x100101.1, .str x100101.2]), (24, jF p0), (32, .str x100901)], [(34002, v1, .arr 4 44 zND)]⟩ := by
   refine l_step hF rfl [3, 11, 18] rfl rfl ⟨?_, ?_, ?_, trivial⟩
   ·exact l_ov rfl rfl rfl rfl (v_loadF ty22 rfl (l_lit rfl rfl)) (lg hF (g10_93))
   ·exact l_ov rfl rfl rfl rfl (v_lenS rfl rfl ty9 rfl) (lg hF (g10_71))
   ·refine l_op rfl rfl rfl (o_alloc (fid := 34) (zs := zND) 34006 rfl rfl ty44 rfl (fun v101801 => ?_))
    exact b_nil (lg hF (g10_15 v101801))
  have g10_69 : F [0, 2, 3, 7, 8, 9, 10] ⟨[(2, .ptr 34002 v1 0), (22, hI a8), (25, slE eStr p0.1), (32, .str x100901)], [(34002, v1, .arr 4 44 zND)]⟩ := by
   refine l_take (i := 4) hF rfl rfl rfl (v_idxF ty22 es22 rfl rfl (idx_lt h100402)) ?_
   exact lg hF (g10_87)
  have g10_70 : F [0, 2, 7, 8, 9, 10, 11] ⟨[(2, .ptr 34002 v1 0), (22, hI a8), (24, jF p0), (33, hI ((x100901).length : Int))], [(34002, v1, .arr 4 44 zND)]⟩ := by
   refine l_step hF rfl [1, 3, 18] rfl rfl ⟨?_, ?_, ?_, trivial⟩
   ·refine l_op rfl rfl rfl (o_call rfl rfl rfl rfl (ACallD.pure0 (w_ref01_OfE h100102)) ?_)
    exact b_nil (lg hF (g10_71))
   ·exact l_ov rfl rfl rfl rfl (v_loadF ty22 rfl (l_lit rfl rfl)) (lg hF (g10_72))
   ·refine l_op rfl rfl rfl (o_alloc (fid := 34) (zs := zND) 34006 rfl rfl ty44 rfl (fun v101801 => ?_))
    exact b_nil (lg hF (g10_17 v101801))
  have g10_94 : F [0, 2, 3, 4, 7, 8, 9] ⟨[(2, .ptr 34002 v1 0), (22, hI a8), (26, .fptr (eStr.E p0.1) ((0 : Int).toNat * eStr.k)), (31, .fptr (eStr.E p0.2) ((0 : Int).toNat * eStr.k))], [(34002, v1, .arr 4 44 zND)]⟩ := by
   refine l_step hF rfl [1, 5, 10, 18] rfl rfl ⟨?_, ?_, ?_, ?_, trivial⟩
   ·refine l_op rfl rfl rfl (o_call rfl rfl rfl rfl (ACallD.pure0 (w_ref01_OfE h100102)) ?_)
    exact b_nil (lg hF (g10_95))
   ·exact l_ov rfl rfl rfl rfl (v_loadF ty9 rfl (l_cell eStr h100402 (o := 0) rfl rfl)) (lg hF (g10_96))
   ·exact l_ov rfl rfl rfl rfl (v_loadF ty9 rfl (l_cell eStr h100902 (o := 0) rfl rfl)) (lg hF (g10_87))
   ·refine l_op rfl rfl rfl (o_alloc (fid := 34) (zs := zND) 34006 rfl rfl ty44 rfl (fun v101801 => ?_))
    exact b_nil (lg hF (g10_43 v101801))
  have g10_100 : F [0, 1, 2, 3, 7, 8, 9] ⟨[(2, .ptr 34002 v1 0), (23, .agg [.bool x100101.1, .str x100101.2]), (25, slE eStr p0.1), (31, .fptr (eStr.E p0.2) ((0 : Int).toNat * eStr.k))], [(34002, v1, .arr 4 44 zND)]⟩ := by
   refine l_take (i := 4) hF rfl rfl rfl (v_idxF ty22 es22 rfl rfl (idx_lt h100402)) ?_
   exact lg hF (g10_95)
  have g10_105 : F [0, 1, 2, 3, 4, 5, 7] ⟨[(2, .ptr 34002 v1 0), (23, .agg [.bool x100101.1, .str x100101.2]), (27, .str x100401), (29, .fptr [slE eStr p0.1, slE eStr p0.2] 1)], [(34002, v1, .arr 4 44 zND)]⟩ := by
   refine l_step hF rfl [6, 8, 18] rfl rfl ⟨?_, ?_, ?_, trivial⟩
   ·exact l_ov rfl rfl rfl rfl (v_lenS rfl rfl ty9 rfl) (lg hF (g10_108))
   ·exact l_ov rfl rfl rfl rfl (v_loadF ty22 rfl (l_lit rfl rfl)) (lg hF (g10_111))
   ·refine l_op rfl rfl rfl (o_alloc (fid := 34) (zs := zND) 34006 rfl rfl ty44 rfl (fun v101801 => ?_))
    exact b_nil (lg hF (g10_54 v101801))
  have g10_106 : F [0, 2, 3, 4, 5, 6, 7] ⟨[(2, .ptr 34002 v1 0), (22, hI a8), (28, hI ((x100401).length : Int)), (29, .fptr [slE eStr p0.1, slE eStr p0.2] 1)], [(34002, v1, .arr 4 44 zND)]⟩ := by
   refine l_step hF rfl [1, 8, 18] rfl rfl ⟨?_, ?_, ?_, trivial⟩
   ·refine l_op rfl rfl rfl (o_call rfl rfl rfl rfl (ACallD.pure0 (w_ref01_OfE h100102)) ?_)
    exact b_nil (lg hF (g10_108))
   ·exact l_ov rfl rfl rfl rfl (v_loadF ty22 rfl (l_lit rfl rfl)) (lg hF (g10_109))
   ·refine l_op rfl rfl rfl (o_alloc (fid := 34) (zs := zND) 34006 rfl rfl ty44 rfl (fun v101801 => ?_))
    exact b_nil (lg hF (g10_55 v101801))
  have g10_107 : F [0, 2, 3, 4, 5, 7, 8] ⟨[(2, .ptr 34002 v1 0), (22, hI a8), (27, .str x100401), (30, slE eStr p0.2)], [(34002, v1, .arr 4 44 zND)]⟩ := by
   refine l_take (i := 9) hF rfl rfl rfl (v_idxF ty22 es22 rfl rfl (idx_lt h100902)) ?_
   exact lg hF (g10_96)
  have g10_112 : F [0, 1, 2, 3, 4, 7, 8] ⟨[(2, .ptr 34002 v1 0), (23, .agg [.bool x100101.1, .str x100101.2]), (26, .fptr (eStr.E p0.1) ((0 : Int).toNat * eStr.k)), (30, slE eStr p0.2)], [(34002, v1, .arr 4 44 zND)]⟩ := by
   refine l_take (i := 9) hF rfl rfl rfl (v_idxF ty22 es22 rfl rfl (idx_lt h100902)) ?_
   exact lg hF (g10_95)
  have g10_11 : ∀ (v101801 : Nat), F [0, 2, 7, 8, 9, 18] ⟨[(2, .ptr 34002 v1 0), (6, .ptr 34006 v101801 0), (22, hI a8), (24, jF p0), (31, .fptr (eStr.E p0.2) ((0 : Int).toNat * eStr.k))], [(34002, v1, .arr 4 44 zND), (34006, v101801, .arr 4 44 zND)]⟩ := by
   intro v101801
   refine l_step hF rfl [1, 3, 10] rfl rfl ⟨?_, ?_, ?_, trivial⟩
   ·refine l_op rfl rfl rfl (o_call rfl rfl rfl rfl (ACallD.pure0 (w_ref01_OfE h100102)) ?_)
    exact b_nil (lg hF (g10_12 v101801))
   ·exact l_ov rfl rfl rfl rfl (v_loadF ty22 rfl (l_lit rfl rfl)) (lg hF (g10_13 v101801))
   ·exact l_ov rfl rfl rfl rfl (v_loadF ty9 rfl (l_cell eStr h100902 (o := 0) rfl rfl)) (lg hF (g10_14 v101801))
  have g10_50 : ∀ (v101801 : Nat), F [0, 2, 3, 4, 7, 18] ⟨[(2, .ptr 34002 v1 0), (6, .ptr 34006 v101801 0), (22, hI a8), (26, .fptr (eStr.E p0.1) ((0 : Int).toNat * eStr.k)), (29, .fptr [slE eStr p0.1, slE eStr p0.2] 1)], [(34002, v1, .arr 4 44 zND), (34006, v101801, .arr 4 44 zND)]⟩ := by
   intro v101801
   refine l_step hF rfl [1, 5, 8] rfl rfl ⟨?_, ?_, ?_, trivial⟩
   ·refine l_op rfl rfl rfl (o_call rfl rfl rfl rfl (ACallD.pure0 (w_ref01_OfE h100102)) ?_)
    exact b_nil (lg hF (g10_51 v101801))
   ·exact l_ov rfl rfl rfl rfl (v_loadF ty9 rfl (l_cell eStr h100402 (o := 0) rfl rfl)) (lg hF (g10_52 v101801))
   ·exact l_ov rfl rfl rfl rfl (v_loadF ty22 rfl (l_lit rfl rfl)) (lg hF (g10_53 v101801))
  have g10_62 : ∀ (v101801 : Nat), F [0, 1, 2, 3, 7, 18] ⟨[(2, .ptr 34002 v1 0), (6, .ptr 34006 v101801 0), (23, .agg [.bool x100101.1, .str x100101.2]), (25, slE eStr p0.1), (29, .fptr [slE eStr p0.1, slE eStr p0.2] 1)], [(34002, v1, .arr 4 44 zND), (34006, v101801, .arr 4 44 zND)]⟩ := by
   intro v101801
   refine l_take (i := 4) hF rfl rfl rfl (v_idxF ty22 es22 rfl rfl (idx_lt h100402)) ?_
   exact lg hF (g10_51 v101801)
  have g10_63 : ∀ (v101801 : Nat), F [0, 1, 2, 7, 8, 18] ⟨[(2, .ptr 34002 v1 0), (6, .ptr 34006 v101801 0), (23, .agg [.bool x100101.1, .str x100101.2]), (24, jF p0), (30, slE eStr p0.2)], [(34002, v1, .arr 4 44 zND), (34006, v101801, .arr 4 44 zND)]⟩ := by
   intro v101801
   refine l_take (i := 9) hF rfl rfl rfl (v_idxF ty22 es22 rfl rfl (idx_lt h100902)) ?_
   exact lg hF (g10_12 v101801)
  have g10_65 : F [0, 1, 2, 7, 8, 9] ⟨[(2, .ptr 34002 v1 0), (23, .agg [.bool x100101.1, .str x100101.2]), (24, jF p0), (31, .fptr (eStr.E p0.2) ((0 : Int).toNat * eStr.k))], [(34002, v1, .arr 4 44 zND)]⟩ := by
   refine l_step hF rfl [3, 10, 18] rfl rfl ⟨?_, ?_, ?_, trivial⟩
   ·exact l_ov rfl rfl rfl rfl (v_loadF ty22 rfl (l_lit rfl rfl)) (lg hF (g10_100))
   ·exact l_ov rfl rfl rfl rfl (v_loadF ty9 rfl (l_cell eStr h100902 (o := 0) rfl rfl)) (lg hF (g10_68))
   ·refine l_op rfl rfl rfl (o_alloc (fid := 34) (zs := zND) 34006 rfl rfl ty44 rfl (fun v101801 => ?_))
    exact b_nil (lg hF (g10_12 v101801))
  have g10_66 : F [0, 2, 3, 7, 8, 9] ⟨[(2, .ptr 34002 v1 0), (22, hI a8), (25, slE eStr p0.1), (31, .fptr (eStr.E p0.2) ((0 : Int).toNat * eStr.k))], [(34002, v1, .arr 4 44 zND)]⟩ := by
   refine l_take (i := 4) hF rfl rfl rfl (v_idxF ty22 es22 rfl rfl (idx_lt h100402)) ?_
   exact lg hF (g10_94)
  have g10_67 : F [0, 2, 7, 8, 9, 10] ⟨[(2, .ptr 34002 v1 0), (22, hI a8), (24, jF p0), (32, .str x100901)], [(34002, v1, .arr 4 44 zND)]⟩ := by
   refine l_step hF rfl [1, 3, 11, 18] rfl rfl ⟨?_, ?_, ?_, ?_, trivial⟩
   ·refine l_op rfl rfl rfl (o_call rfl rfl rfl rfl (ACallD.pure0 (w_ref01_OfE h100102)) ?_)
    exact b_nil (lg hF (g10_68))
   ·exact l_ov rfl rfl rfl rfl (v_loadF ty22 rfl (l_lit rfl rfl)) (lg hF (g10_69))
   ·exact l_ov rfl rfl rfl rfl (v_lenS rfl rfl ty9 rfl) (lg hF (g10_70))
   ·refine l_op rfl rfl rfl (o_alloc (fid := 34) (zs := zND) 34006 rfl rfl ty44 rfl (fun v101801 => ?_))
    exact b_nil (lg hF (g10_14 v101801))
  have g10_102 : F [0, 1, 2, 3, 4, 7] ⟨[(2, .ptr 34002 v1 0), (23, .agg [.bool x100101.1, .str x100101.2]), (26, .fptr (eStr.E p0.1) ((0 : Int).toNat * eStr.k)), (29, .fptr [slE eStr p0.1, slE eStr p0.2] 1)], [(34002, v1, .arr 4 44 zND)]⟩ := by
   refine l_step hF rfl [5, 8, 18] rfl rfl ⟨?_, ?_, ?_, trivial⟩
   ·exact l_ov rfl rfl rfl rfl (v_loadF ty9 rfl (l_cell eStr h100402 (o := 0) rfl rfl)) (lg hF (g10_105))
   ·exact l_ov rfl rfl rfl rfl (v_loadF ty22 rfl (l_lit rfl rfl)) (lg hF (g10_112))
   ·refine l_op rfl rfl rfl (o_alloc (fid := 34) (zs := zND) 34006 rfl rfl ty44 rfl (fun v101801 => ?_))
    exact b_nil (lg hF (g10_51 v101801))
  have g10_103 : F [0, 2, 3, 4, 5, 7] ⟨[(2, .ptr 34002 v1 0), (22, hI a8), (27, .str x100401), (29, .fptr [slE eStr p0.1, slE eStr p0.2] 1)], [(34002, v1, .arr 4 44 zND)]⟩ := by
   refine l_step hF rfl [1, 6, 8, 18] rfl rfl ⟨?_, ?_, ?_, ?_, trivial⟩
   ·refine l_op rfl rfl rfl (o_call rfl rfl rfl rfl (ACallD.pure0 (w_ref01_OfE h100102)) ?_)
    exact b_nil (lg hF (g10_105))
   ·exact l_ov rfl rfl rfl rfl (v_lenS rfl rfl ty9 rfl) (lg hF (g10_106))
   ·exact l_ov rfl rfl rfl rfl (v_loadF ty22 rfl (l_lit rfl rfl)) (lg hF (g10_107))
   ·refine l_op rfl rfl rfl (o_alloc (fid := 34) (zs := zND) 34006 rfl rfl ty44 rfl (fun v101801 => ?_))
    exact b_nil (lg hF (g10_52 v101801))
  have g10_104 : F [0, 2, 3, 4, 7, 8] ⟨[(2, .ptr 34002 v1 0), (22, hI a8), (26, .fptr (eStr.E p0.1) ((0 : Int).toNat * eStr.k)), (30, slE eStr p0.2)], [(34002, v1, .arr 4 44 zND)]⟩ := by
   refine l_take (i := 9) hF rfl rfl rfl (v_idxF ty22 es22 rfl rfl (idx_lt h100902)) ?_
   exact lg hF (g10_94)
  have g10_8 : ∀ (v101801 : Nat), F [0, 1, 2, 7, 18] ⟨[(2, .ptr 34002 v1 0), (6, .ptr 34006 v101801 0), (23, .agg [.bool x100101.1, .str x100101.2]), (24, jF p0), (29, .fptr [slE eStr p0.1, slE eStr p0.2] 1)], [(34002, v1, .arr 4 44 zND), (34006, v101801, .arr 4 44 zND)]⟩ := by
   intro v101801
   refine l_step hF rfl [3, 8] rfl rfl ⟨?_, ?_, trivial⟩
   ·exact l_ov rfl rfl rfl rfl (v_loadF ty22 rfl (l_lit rfl rfl)) (lg hF (g10_62 v101801))
   ·exact l_ov rfl rfl rfl rfl (v_loadF ty22 rfl (l_lit rfl rfl)) (lg hF (g10_63 v101801))
  have g10_9 : ∀ (v101801 : Nat), F [0, 2, 3, 7, 18] ⟨[(2, .ptr 34002 v1 0), (6, .ptr 34006 v101801 0), (22, hI a8), (25, slE eStr p0.1), (29, .fptr [slE eStr p0.1, slE eStr p0.2] 1)], [(34002, v1, .arr 4 44 zND), (34006, v101801, .arr 4 44 zND)]⟩ := by
   intro v101801
   refine l_take (i := 4) hF rfl rfl rfl (v_idxF ty22 es22 rfl rfl (idx_lt h100402)) ?_
   exact lg hF (g10_50 v101801)
  have g10_10 : ∀ (v101801 : Nat), F [0, 2, 7, 8, 18] ⟨[(2, .ptr 34002 v1 0), (6, .ptr 34006 v101801 0), (22, hI a8), (24, jF p0), (30, slE eStr p0.2)], [(34002, v1, .arr 4 44 zND), (34006, v101801, .arr 4 44 zND)]⟩ := by
   intro v101801
   refine l_take (i := 9) hF rfl rfl rfl (v_idxF ty22 es22 rfl rfl (idx_lt h100902)) ?_
   exact lg hF (g10_11 v101801)
  have g10_64 : F [0, 2, 7, 8, 9] ⟨[(2, .ptr 34002 v1 0), (22, hI a8), (24, jF p0), (31, .fptr (eStr.E p0.2) ((0 : Int).toNat * eStr.k))], [(34002, v1, .arr 4 44 zND)]⟩ := by
   refine l_step hF rfl [1, 3, 10, 18] rfl rfl ⟨?_, ?_, ?_, ?_, trivial⟩
   ·refine l_op rfl rfl rfl (o_call rfl rfl rfl rfl (ACallD.pure0 (w_ref01_OfE h100102)) ?_)
    exact b_nil (lg hF (g10_65))
   ·exact l_ov rfl rfl rfl rfl (v_loadF ty22 rfl (l_lit rfl rfl)) (lg hF (g10_66))
   ·exact l_ov rfl rfl rfl rfl (v_loadF ty9 rfl (l_cell eStr h100902 (o := 0) rfl rfl)) (lg hF (g10_67))
   ·refine l_op rfl rfl rfl (o_alloc (fid := 34) (zs := zND) 34006 rfl rfl ty44 rfl (fun v101801 => ?_))
    exact b_nil (lg hF (g10_11 v101801))
  have g10_101 : F [0, 2, 3, 4, 7] ⟨[(2, .ptr 34002 v1 0), (22, hI a8), (26, .fptr (eStr.E p0.1) ((0 : Int).toNat * eStr.k)), (29, .fptr [slE eStr p0.1, slE eStr p0.2] 1)], [(34002, v1, .arr 4 44 zND)]⟩ := by
   refine l_step hF rfl [1, 5, 8, 18] rfl rfl ⟨?_, ?_, ?_, ?_, trivial⟩
   ·refine l_op rfl rfl rfl (o_call rfl rfl rfl rfl (ACallD.pure0 (w_ref01_OfE h100102)) ?_)
    exact b_nil (lg hF (g10_102))
   ·exact l_ov rfl rfl rfl rfl (v_loadF ty9 rfl (l_cell eStr h100402 (o := 0) rfl rfl)) (lg hF (g10_103))
   ·exact l_ov rfl rfl rfl rfl (v_loadF ty22 rfl (l_lit rfl rfl)) (lg hF (g10_104))
   ·refine l_op rfl rfl rfl (o_alloc (fid := 34) (zs := zND) 34006 rfl rfl ty44 rfl (fun v101801 => ?_))
    exact b_nil (lg hF (g10_50 v101801))
  have g10_113 : F [0, 1, 2, 3, 7] ⟨[(2, .ptr 34002 v1 0), (23, .agg [.bool x100101.1, .str x100101.2]), (25, slE eStr p0.1), (29, .fptr [slE eStr p0.1, slE eStr p0.2] 1)], [(34002, v1, .arr 4 44 zND)]⟩ := by
   refine l_take (i := 4) hF rfl rfl rfl (v_idxF ty22 es22 rfl rfl (idx_lt h100402)) ?_
   exact lg hF (g10_102)
  have g10_114 : F [0, 1, 2, 7, 8] ⟨[(2, .ptr 34002 v1 0), (23, .agg [.bool x100101.1, .str x100101.2]), (24, jF p0), (30, slE eStr p0.2)], [(34002, v1, .arr 4 44 zND)]⟩ := by
   refine l_take (i := 9) hF rfl rfl rfl (v_idxF ty22 es22 rfl rfl (idx_lt h100902)) ?_
   exact lg hF (g10_65)
  have g10_4 : F [0, 1, 2, 7] ⟨[(2, .ptr 34002 v1 0), (23, .agg [.bool x100101.1, .str x100101.2]), (24, jF p0), (29, .fptr [slE eStr p0.1, slE eStr p0.2] 1)], [(34002, v1, .arr 4 44 zND)]⟩ := by
   refine l_step hF rfl [3, 8, 18] rfl rfl ⟨?_, ?_, ?_, trivial⟩
   ·exact l_ov rfl rfl rfl rfl (v_loadF ty22 rfl (l_lit rfl rfl)) (lg hF (g10_113))
   ·exact l_ov rfl rfl rfl rfl (v_loadF ty22 rfl (l_lit rfl rfl)) (lg hF (g10_114))
   ·refine l_op rfl rfl rfl (o_alloc (fid := 34) (zs := zND) 34006 rfl rfl ty44 rfl (fun v101801 => ?_))
    exact b_nil (lg hF (g10_8 v101801))
  have g10_5 : F [0, 2, 3, 7] ⟨[(2, .ptr 34002 v1 0), (22, hI a8), (25, slE eStr p0.1), (29, .fptr [slE eStr p0.1, slE eStr p0.2] 1)], [(34002, v1, .arr 4 44 zND)]⟩ := by
   refine l_take (i := 4) hF rfl rfl rfl (v_idxF ty22 es22 rfl rfl (idx_lt h100402)) ?_
   exact lg hF (g10_101)
  have g10_6 : F [0, 2, 7, 8] ⟨[(2, .ptr 34002 v1 0), (22, hI a8), (24, jF p0), (30, slE eStr p0.2)], [(34002, v1, .arr 4 44 zND)]⟩ := by
   refine l_take (i := 9) hF rfl rfl rfl (v_idxF ty22 es22 rfl rfl (idx_lt h100902)) ?_
   exact lg hF (g10_64)
  have g10_7 : ∀ (v101801 : Nat), F [0, 2, 7, 18] ⟨[(2, .ptr 34002 v1 0), (6, .ptr 34006 v101801 0), (22, hI a8), (24, jF p0), (29, .fptr [slE eStr p0.1, slE eStr p0.2] 1)], [(34002, v1, .arr 4 44 zND), (34006, v101801, .arr 4 44 zND)]⟩ := by
   intro v101801
   refine l_step hF rfl [1, 3, 8] rfl rfl ⟨?_, ?_, ?_, trivial⟩
   ·refine l_op rfl rfl rfl (o_call rfl rfl rfl rfl (ACallD.pure0 (w_ref01_OfE h100102)) ?_)
    exact b_nil (lg hF (g10_8 v101801))
   ·exact l_ov rfl rfl rfl rfl (v_loadF ty22 rfl (l_lit rfl rfl)) (lg hF (g10_9 v101801))
   ·exact l_ov rfl rfl rfl rfl (v_loadF ty22 rfl (l_lit rfl rfl)) (lg hF (g10_10 v101801))
  have g10_3 : F [0, 2, 7] ⟨[(2, .ptr 34002 v1 0), (22, hI a8), (24, jF p0), (29, .fptr [slE eStr p0.1, slE eStr p0.2] 1)], [(34002, v1, .arr 4 44 zND)]⟩ := by
   refine l_step hF rfl [1, 3, 8, 18] rfl rfl ⟨?_, ?_, ?_, ?_, trivial⟩
   ·refine l_op rfl rfl rfl (o_call rfl rfl rfl rfl (ACallD.pure0 (w_ref01_OfE h100102)) ?_)
    exact b_nil (lg hF (g10_4))
   ·exact l_ov rfl rfl rfl rfl (v_loadF ty22 rfl (l_lit rfl rfl)) (lg hF (g10_5))
   ·exact l_ov rfl rfl rfl rfl (v_loadF ty22 rfl (l_lit rfl rfl)) (lg hF (g10_6))
   ·refine l_op rfl rfl rfl (o_alloc (fid := 34) (zs := zND) 34006 rfl rfl ty44 rfl (fun v101801 => ?_))
    exact b_nil (lg hF (g10_7 v101801))
  have g10_2 : F [0, 2] ⟨[(1, jF p0), (2, .ptr 34002 v1 0), (22, hI a8), (24, jF p0)], [(34002, v1, .arr 4 44 zND)]⟩ := by
   refine l_take (i := 7) hF rfl rfl rfl (v_fieldAddrF fo24_1 rfl) ?_
   exact lg hF (g10_3)
  have g10_1 : F [0] ⟨[(1, jF p0), (2, .ptr 34002 v1 0), (22, hI a8)], [(34002, v1, .arr 4 44 zND)]⟩ := by
   refine l_take (i := 2) hF rfl rfl rfl (v_fieldAddrF fo24_0 rfl) ?_
   exact lg hF (g10_2)
  have g10_0 : F [] ⟨[(1, jF p0), (2, .ptr 34002 v1 0), (4, hI a8)], [(34002, v1, .arr 4 44 zND)]⟩ := by
   refine l_take (i := 0) hF rfl rfl rfl (mv_val rfl rfl).2 ?_
   exact lg hF (g10_1)
  exact g10_0
 refine AW.seq ?_
 refine AW.rgs rfl fun K hK => mv rfl rfl (bv rfl (v_fieldAddrF fo24_0 rfl) (bv rfl (v_loadF ty22 rfl (l_lit rfl rfl)) (bv rfl (v_lenF rfl rfl ty22 rfl) (bv rfl (v_bin rfl rfl b_leq) ?_))))
 refine bf hK ⟨[(1, jF p0), (2, .ptr 34002 v1 0), (4, hI a4.1), (5, hI a4.2), (16, .bool (decide (a4.2 ≤ ((p0.1).length : Int))))], [(34002, v1, .arr 4 44 zND)]⟩ ?_
 refine AW.cond rfl (fun hc => ?_) (fun hc => ?_)
 ·obtain ⟨hc, h⟩ := cT hc h
  refine AW.skip ?_
  refine AW.block ?_
  refine AW.rg rfl fun K hK => mv rfl rfl (bv rfl (v_bin rfl rfl b_add) (mv rfl rfl (bv rfl (v_bin rfl rfl b_mul) (mv rfl rfl (mv rfl rfl ?_)))))
  refine b_nil (hK _ ?_)
  exact to_L ⟨(IntKind.wrap .i64 (a4.1 + 1), IntKind.wrap .i64 (2 * a4.2)), (), h, rfl⟩
 obtain ⟨hc, h⟩ := cF hc h
 refine AW.exit ?_
 exact to_L ⟨a4.1, (), h, rfl⟩
theorem w_law31_MergingChecks {p0 : TWordsMerges} {p1 : TLabelsStatesEdges} {p2 : Int} {p3 : Int} {p4 : List UInt8} {r : Bool} (h : m_law31_MergingChecks p0 p1 p2 p3 p4 = some r) : Pure Tryz.prog 6 [jA p0, gA p1, hI p2, hI p3, .str p4] (· = HV.bool r) := by
 unfold m_law31_MergingChecks at h
 refine Pure.of_body Tryz.func6 rfl rfl (lb rfl) fun hf => ?_
 unfold Tryz.f6
 dsimp only [enumS, Nat.reduceAdd]
 refine AW.rgs rfl fun K hK => b_op rfl (o_box rfl rfl rfl ?_)
 refine b_op rfl (o_box rfl rfl rfl ?_)
 refine mv rfl rfl ?_
 refine bf hK ⟨[(2, hI p2), (3, hI p3), (4, .str p4), (5, jF p0), (6, gF p1)], []⟩ ?_
 refine AW.seq ?_
 refine AW.seqJ h (S := Bool) (V := Unit) (fun a v => ⟨[(2, hI p2), (3, hI p3), (4, .str p4), (5, jF p0), (6, gF p1), (29, .bool a)], []⟩) (fun a1 w2 h => ?_) (fun k3 h => ?_)
 ·refine AW.cond rfl (fun hc => ?_) (fun hc => ?_)
  ·have h := ifT hc h
   refine AW.rgs rfl fun K hK => ?_
   obtain ⟨x4, h5, h⟩ := bS h
   refine b_op rfl (o_call rfl rfl rfl rfl (ACallD.pure0 (w_law31_awake h5)) ?_)
   refine mv rfl rfl ?_
   refine bf hK ⟨[(10, .bool x4)], []⟩ ?_
   refine AW.ret ?_
   have h := Option.some.inj h
   subst h
   exact ret_pure (hs := [.bool x4]) (.inr rfl) (resT rfl rfl) rfl trivial
  have h := ifF (bF' hc) h
  refine AW.skip ?_
  refine AW.rgs rfl fun K hK => bv rfl (v_loadF ty24 rfl (l_litA rfl (lb rfl) rfl)) (bv rfl (v_loadF ty27 rfl (l_litA rfl (lb rfl) rfl)) (mv rfl rfl (mv rfl rfl ?_)))
  obtain ⟨x6, h7, h⟩ := bS h
  refine b_op rfl (o_call rfl rfl rfl rfl (ACallD.pure0 (w_merging_Merges h7)) ?_)
  refine mv rfl rfl (bv rfl (v_extract rfl rfl) (bv rfl (v_extract rfl rfl) (mv rfl rfl (mv rfl rfl ?_))))
  refine bf hK ⟨[(2, hI p2), (3, hI p3), (4, .str p4), (5, jF p0), (6, gF p1), (11, slE eInt x6.1), (12, hI x6.2)], []⟩ ?_
  refine AW.rgs rfl fun K hK => bv rfl (v_loadF ty24 rfl (l_litA rfl (lb rfl) rfl)) (bv rfl (v_loadF ty27 rfl (l_litA rfl (lb rfl) rfl)) (mv rfl rfl (mv rfl rfl ?_)))
  obtain ⟨x8, h9, h⟩ := bS h
  refine b_op rfl (o_call rfl rfl rfl rfl (ACallD.pure0 (w_ref31_Merges h9)) ?_)
  refine mv rfl rfl (bv rfl (v_extract rfl rfl) (bv rfl (v_extract rfl rfl) (mv rfl rfl (mv rfl rfl ?_))))
  refine bf hK ⟨[(4, .str p4), (5, jF p0), (6, gF p1), (11, slE eInt x6.1), (12, hI x6.2), (13, slE eInt x8.1), (14, hI x8.2)], []⟩ ?_
  refine AW.rgs rfl fun K hK => bv rfl (v_loadF ty24 rfl (l_litA rfl (lb rfl) rfl)) (mv rfl rfl ?_)
  obtain ⟨x10, h11, h⟩ := bS h
  refine b_op rfl (o_call rfl rfl rfl rfl (ACallD.pure0 (w_merging_Decode h11)) ?_)
  refine mv rfl rfl (bv rfl (v_extract rfl rfl) (bv rfl (v_extract rfl rfl) (mv rfl rfl (mv rfl rfl ?_))))
  refine bf hK ⟨[(4, .str p4), (5, jF p0), (6, gF p1), (11, slE eInt x6.1), (12, hI x6.2), (13, slE eInt x8.1), (14, hI x8.2), (15, slE eInt x10.1), (16, hI x10.2)], []⟩ ?_
  refine AW.rgs rfl fun K hK => bv rfl (v_loadF ty24 rfl (l_litA rfl (lb rfl) rfl)) (mv rfl rfl ?_)
  obtain ⟨x12, h13, h⟩ := bS h
  refine b_op rfl (o_call rfl rfl rfl rfl (ACallD.pure0 (w_ref31_Decode h13)) ?_)
  refine mv rfl rfl (bv rfl (v_extract rfl rfl) (bv rfl (v_extract rfl rfl) (mv rfl rfl (mv rfl rfl ?_))))
  refine bf hK ⟨[(5, jF p0), (6, gF p1), (11, slE eInt x6.1), (12, hI x6.2), (13, slE eInt x8.1), (14, hI x8.2), (15, slE eInt x10.1), (16, hI x10.2), (17, slE eInt x12.1), (18, hI x12.2)], []⟩ ?_
  refine AW.rgs rfl fun K hK => bv rfl (v_loadF ty24 rfl (l_litA rfl (lb rfl) rfl)) ?_
  obtain ⟨x14, h15, h⟩ := bS h
  refine b_op rfl (o_call rfl rfl rfl rfl (ACallD.pure0 (w_merging_Rate h15)) ?_)
  refine mv rfl rfl (bv rfl (v_extract rfl rfl) (bv rfl (v_extract rfl rfl) ?_))
  refine b_op rfl (o_alloc (fid := 6) (zs := zND) 6019 rfl rfl ty44 rfl (fun v16 => ?_))
  refine b_op rfl (o_store (cs := (cNumDen x14.1)) (zs := (cNumDen x14.1)) rfl rfl rfl ty44 rfl rfl rfl rfl rfl ?_)
  refine mv rfl rfl ?_
  refine bf hK ⟨[(5, jF p0), (6, gF p1), (11, slE eInt x6.1), (12, hI x6.2), (13, slE eInt x8.1), (14, hI x8.2), (15, slE eInt x10.1), (16, hI x10.2), (17, slE eInt x12.1), (18, hI x12.2), (19, .ptr 6019 v16 0), (20, hI x14.2)], [(6019, v16, .arr 4 44 (cNumDen x14.1))]⟩ ?_
  refine AW.rgs rfl fun K hK => bv rfl (v_loadF ty24 rfl (l_litA rfl (lb rfl) rfl)) ?_
  obtain ⟨x17, h18, h⟩ := bS h
  refine b_op rfl (o_call rfl rfl rfl rfl (ACallD.pure0 (w_ref31_Rate h18)) ?_)
  refine mv rfl rfl (bv rfl (v_extract rfl rfl) (bv rfl (v_extract rfl rfl) ?_))
  refine b_op rfl (o_alloc (fid := 6) (zs := zND) 6021 rfl rfl ty44 rfl (fun v19 => ?_))
  refine b_op rfl (o_store (cs := (cNumDen x17.1)) (zs := (cNumDen x17.1)) rfl rfl rfl ty44 rfl rfl rfl rfl rfl ?_)
  refine mv rfl rfl ?_
  refine bf hK ⟨[(5, jF p0), (6, gF p1), (11, slE eInt x6.1), (12, hI x6.2), (13, slE eInt x8.1), (14, hI x8.2), (15, slE eInt x10.1), (16, hI x10.2), (17, slE eInt x12.1), (18, hI x12.2), (19, .ptr 6019 v16 0), (20, hI x14.2), (21, .ptr 6021 v19 0), (22, hI x17.2)], [(6019, v16, .arr 4 44 (cNumDen x14.1)), (6021, v19, .arr 4 44 (cNumDen x17.1))]⟩ ?_
  refine AW.seqJ h (S := Bool) (V := Unit) (fun a v => ⟨[(10, .bool a)], []⟩) (fun a20 w21 h => ?_) (fun k22 h => ?_)
  ·refine AW.ret ?_
   have h := Option.some.inj h
   subst h
   exact ret_pure (hs := [.bool a20]) (.inr rfl) (resT rfl rfl) rfl trivial
  refine AW.dg 41 follows rfl rfl fun K hK => ?_
  refine sv rfl (v_loadF ty24 rfl (l_litA rfl (lb rfl) rfl)) ?_
  refine sv rfl (v_loadF ty27 rfl (l_litA rfl (lb rfl) rfl)) ?_
  obtain ⟨x23, h24, h⟩ := bS h
  refine s_op rfl rfl (ops_call rfl rfl rfl rfl (ACallD.pure0 (w_merging_Check h24)) ?_)
  refine sv rfl (v_loadF ty24 rfl (l_litA rfl (lb rfl) rfl)) ?_
  refine sv rfl (v_loadF ty27 rfl (l_litA rfl (lb rfl) rfl)) ?_
  obtain ⟨x25, h26, h⟩ := bS h
  refine s_op rfl rfl (ops_call rfl rfl rfl rfl (ACallD.pure0 (w_ref31_Check h26)) ?_)
  refine sv rfl (v_bin rfl rfl b_eql) ?_
  refine sm rfl rfl ?_
  by_cases hg39 : x23 = x25
  ·have h := ifT hg39 h
   refine s_T rfl rfl rfl rfl rfl (decide_eq_true hg39) (ops_val rfl (mv_val rfl rfl).2 ?_)
   refine s_T rfl rfl rfl rfl rfl rfl (ops_val rfl (mv_val rfl rfl).2 ?_)
   obtain ⟨x27, h28, h⟩ := bS h
   refine s_T rfl rfl rfl rfl rfl rfl (ops_call rfl rfl rfl rfl (ACallD.pure0 (w_slices_Equal_Lint_int h28)) ?_)
   refine sv rfl (v_pickT rfl rfl rfl) ?_
   refine sm rfl rfl ?_
   by_cases hg38 : x27 = true
   ·have h := ifT hg38 h
    refine s_T rfl rfl rfl rfl rfl hg38 (ops_val rfl (mv_val rfl rfl).2 ?_)
    refine s_T rfl rfl rfl rfl rfl rfl (ops_val rfl (mv_val rfl rfl).2 ?_)
    refine s_T rfl rfl rfl rfl rfl rfl (ops_val rfl (v_bin rfl rfl b_eql) ?_)
    refine sv rfl (v_pickT rfl rfl rfl) ?_
    refine sm rfl rfl ?_
    by_cases hg37 : x6.2 = x8.2
    ·have h := ifT hg37 h
     refine s_T rfl rfl rfl rfl rfl (decide_eq_true hg37) (ops_val rfl (mv_val rfl rfl).2 ?_)
     refine s_T rfl rfl rfl rfl rfl rfl (ops_val rfl (mv_val rfl rfl).2 ?_)
     obtain ⟨x29, h30, h⟩ := bS h
     refine s_T rfl rfl rfl rfl rfl rfl (ops_call rfl rfl rfl rfl (ACallD.pure0 (w_slices_Equal_Lint_int h30)) ?_)
     refine sv rfl (v_pickT rfl rfl rfl) ?_
     refine sm rfl rfl ?_
     by_cases hg36 : x29 = true
     ·have h := ifT hg36 h
      refine s_T rfl rfl rfl rfl rfl hg36 (ops_val rfl (mv_val rfl rfl).2 ?_)
      refine s_T rfl rfl rfl rfl rfl rfl (ops_val rfl (mv_val rfl rfl).2 ?_)
      refine s_T rfl rfl rfl rfl rfl rfl (ops_val rfl (v_bin rfl rfl b_eql) ?_)
      refine sv rfl (v_pickT rfl rfl rfl) ?_
      refine sm rfl rfl ?_
      by_cases hg35 : x10.2 = x12.2
      ·have h := ifT hg35 h
       refine s_T rfl rfl rfl rfl rfl (decide_eq_true hg35) (ops_val rfl (v_loadP ty44 rfl rfl (l_litA rfl (lb rfl) rfl)) ?_)
       refine s_T rfl rfl rfl rfl rfl rfl (ops_val rfl (v_loadP ty44 rfl rfl (l_litA rfl (lb rfl) rfl)) ?_)
       refine s_T rfl rfl rfl rfl rfl rfl (ops_val rfl (v_bin rfl rfl (b_aeql (hk44 _ _ _ _) (hk44 _ _ _ _) hc44 (hq44 x14.1 x17.1))) ?_)
       refine sv rfl (v_pickT rfl rfl rfl) ?_
       refine sm rfl rfl ?_
       by_cases hg34 : x14.1 = x17.1
       ·have h := ifT hg34 h
        refine s_T rfl rfl rfl rfl rfl (decide_eq_true hg34) (ops_val rfl (mv_val rfl rfl).2 ?_)
        refine s_T rfl rfl rfl rfl rfl rfl (ops_val rfl (mv_val rfl rfl).2 ?_)
        refine s_T rfl rfl rfl rfl rfl rfl (ops_val rfl (v_bin rfl rfl b_eql) ?_)
        refine sv rfl (v_pickT rfl rfl rfl) ?_
        refine sm rfl rfl ?_
        by_cases hg33 : x14.2 = x17.2
        ·have h := ifT hg33 h
         obtain ⟨x31, h32, h⟩ := bS h
         refine s_T rfl rfl rfl rfl rfl (decide_eq_true hg33) (ops_call rfl rfl rfl rfl (ACallD.pure0 (w_law31_awake h32)) ?_)
         refine sv rfl (v_pickT rfl rfl rfl) ?_
         refine sm rfl rfl ?_
         refine s_nil ?_
         refine b_nil (hK _ ?_)
         exact to_L ⟨x31, (), h, rfl⟩
        have h := ifF hg33 h
        refine s_F rfl rfl rfl rfl rfl (decide_eq_false hg33) ?_
        refine sv rfl (v_pickF rfl rfl rfl) ?_
        refine sm rfl rfl ?_
        refine s_nil ?_
        refine b_nil (hK _ ?_)
        exact to_L ⟨false, (), h, rfl⟩
       have h := ifF hg34 h
       refine s_F rfl rfl rfl rfl rfl (decide_eq_false hg34) ?_
       refine s_F rfl rfl rfl rfl rfl rfl ?_
       refine s_F rfl rfl rfl rfl rfl rfl ?_
       refine sv rfl (v_pickF rfl rfl rfl) ?_
       refine sm rfl rfl ?_
       refine s_F rfl rfl rfl rfl rfl rfl ?_
       refine sv rfl (v_pickF rfl rfl rfl) ?_
       refine sm rfl rfl ?_
       refine s_nil ?_
       refine b_nil (hK _ ?_)
       exact to_L ⟨false, (), h, rfl⟩
      have h := ifF hg35 h
      refine s_F rfl rfl rfl rfl rfl (decide_eq_false hg35) ?_
      refine s_F rfl rfl rfl rfl rfl rfl ?_
      refine s_F rfl rfl rfl rfl rfl rfl ?_
      refine sv rfl (v_pickF rfl rfl rfl) ?_
      refine sm rfl rfl ?_
      refine s_F rfl rfl rfl rfl rfl rfl ?_
      refine s_F rfl rfl rfl rfl rfl rfl ?_
      refine s_F rfl rfl rfl rfl rfl rfl ?_
      refine sv rfl (v_pickF rfl rfl rfl) ?_
      refine sm rfl rfl ?_
      refine s_F rfl rfl rfl rfl rfl rfl ?_
      refine sv rfl (v_pickF rfl rfl rfl) ?_
      refine sm rfl rfl ?_
      refine s_nil ?_
      refine b_nil (hK _ ?_)
      exact to_L ⟨false, (), h, rfl⟩
     have h := ifF hg36 h
     refine s_F rfl rfl rfl rfl rfl (bF hg36) ?_
     refine s_F rfl rfl rfl rfl rfl rfl ?_
     refine s_F rfl rfl rfl rfl rfl rfl ?_
     refine sv rfl (v_pickF rfl rfl rfl) ?_
     refine sm rfl rfl ?_
     refine s_F rfl rfl rfl rfl rfl rfl ?_
     refine s_F rfl rfl rfl rfl rfl rfl ?_
     refine s_F rfl rfl rfl rfl rfl rfl ?_
     refine sv rfl (v_pickF rfl rfl rfl) ?_
     refine sm rfl rfl ?_
     refine s_F rfl rfl rfl rfl rfl rfl ?_
     refine s_F rfl rfl rfl rfl rfl rfl ?_
     refine s_F rfl rfl rfl rfl rfl rfl ?_
     refine sv rfl (v_pickF rfl rfl rfl) ?_
     refine sm rfl rfl ?_
     refine s_F rfl rfl rfl rfl rfl rfl ?_
     refine sv rfl (v_pickF rfl rfl rfl) ?_
     refine sm rfl rfl ?_
     refine s_nil ?_
     refine b_nil (hK _ ?_)
     exact to_L ⟨false, (), h, rfl⟩
    have h := ifF hg37 h
    refine s_F rfl rfl rfl rfl rfl (decide_eq_false hg37) ?_
    refine s_F rfl rfl rfl rfl rfl rfl ?_
    refine s_F rfl rfl rfl rfl rfl rfl ?_
    refine sv rfl (v_pickF rfl rfl rfl) ?_
    refine sm rfl rfl ?_
    refine s_F rfl rfl rfl rfl rfl rfl ?_
    refine s_F rfl rfl rfl rfl rfl rfl ?_
    refine s_F rfl rfl rfl rfl rfl rfl ?_
    refine sv rfl (v_pickF rfl rfl rfl) ?_
    refine sm rfl rfl ?_
    refine s_F rfl rfl rfl rfl rfl rfl ?_
    refine s_F rfl rfl rfl rfl rfl rfl ?_
    refine s_F rfl rfl rfl rfl rfl rfl ?_
    refine sv rfl (v_pickF rfl rfl rfl) ?_
    refine sm rfl rfl ?_
    refine s_F rfl rfl rfl rfl rfl rfl ?_
    refine s_F rfl rfl rfl rfl rfl rfl ?_
    refine s_F rfl rfl rfl rfl rfl rfl ?_
    refine sv rfl (v_pickF rfl rfl rfl) ?_
    refine sm rfl rfl ?_
    refine s_F rfl rfl rfl rfl rfl rfl ?_
    refine sv rfl (v_pickF rfl rfl rfl) ?_
    refine sm rfl rfl ?_
    refine s_nil ?_
    refine b_nil (hK _ ?_)
    exact to_L ⟨false, (), h, rfl⟩
   have h := ifF hg38 h
   refine s_F rfl rfl rfl rfl rfl (bF hg38) ?_
   refine s_F rfl rfl rfl rfl rfl rfl ?_
   refine s_F rfl rfl rfl rfl rfl rfl ?_
   refine sv rfl (v_pickF rfl rfl rfl) ?_
   refine sm rfl rfl ?_
   refine s_F rfl rfl rfl rfl rfl rfl ?_
   refine s_F rfl rfl rfl rfl rfl rfl ?_
   refine s_F rfl rfl rfl rfl rfl rfl ?_
   refine sv rfl (v_pickF rfl rfl rfl) ?_
   refine sm rfl rfl ?_
   refine s_F rfl rfl rfl rfl rfl rfl ?_
   refine s_F rfl rfl rfl rfl rfl rfl ?_
   refine s_F rfl rfl rfl rfl rfl rfl ?_
   refine sv rfl (v_pickF rfl rfl rfl) ?_
   refine sm rfl rfl ?_
   refine s_F rfl rfl rfl rfl rfl rfl ?_
   refine s_F rfl rfl rfl rfl rfl rfl ?_
   refine s_F rfl rfl rfl rfl rfl rfl ?_
   refine sv rfl (v_pickF rfl rfl rfl) ?_
   refine sm rfl rfl ?_
   refine s_F rfl rfl rfl rfl rfl rfl ?_
   refine s_F rfl rfl rfl rfl rfl rfl ?_
   refine s_F rfl rfl rfl rfl rfl rfl ?_
   refine sv rfl (v_pickF rfl rfl rfl) ?_
   refine sm rfl rfl ?_
   refine s_F rfl rfl rfl rfl rfl rfl ?_
   refine sv rfl (v_pickF rfl rfl rfl) ?_
   refine sm rfl rfl ?_
   refine s_nil ?_
   refine b_nil (hK _ ?_)
   exact to_L ⟨false, (), h, rfl⟩
  have h := ifF hg39 h
  refine s_F rfl rfl rfl rfl rfl (decide_eq_false hg39) ?_
  refine s_F rfl rfl rfl rfl rfl rfl ?_
  refine s_F rfl rfl rfl rfl rfl rfl ?_
  refine sv rfl (v_pickF rfl rfl rfl) ?_
  refine sm rfl rfl ?_
  refine s_F rfl rfl rfl rfl rfl rfl ?_
  refine s_F rfl rfl rfl rfl rfl rfl ?_
  refine s_F rfl rfl rfl rfl rfl rfl ?_
  refine sv rfl (v_pickF rfl rfl rfl) ?_
  refine sm rfl rfl ?_
  refine s_F rfl rfl rfl rfl rfl rfl ?_
  refine s_F rfl rfl rfl rfl rfl rfl ?_
  refine s_F rfl rfl rfl rfl rfl rfl ?_
  refine sv rfl (v_pickF rfl rfl rfl) ?_
  refine sm rfl rfl ?_
  refine s_F rfl rfl rfl rfl rfl rfl ?_
  refine s_F rfl rfl rfl rfl rfl rfl ?_
  refine s_F rfl rfl rfl rfl rfl rfl ?_
  refine sv rfl (v_pickF rfl rfl rfl) ?_
  refine sm rfl rfl ?_
  refine s_F rfl rfl rfl rfl rfl rfl ?_
  refine s_F rfl rfl rfl rfl rfl rfl ?_
  refine s_F rfl rfl rfl rfl rfl rfl ?_
  refine sv rfl (v_pickF rfl rfl rfl) ?_
  refine sm rfl rfl ?_
  refine s_F rfl rfl rfl rfl rfl rfl ?_
  refine s_F rfl rfl rfl rfl rfl rfl ?_
  refine s_F rfl rfl rfl rfl rfl rfl ?_
  refine sv rfl (v_pickF rfl rfl rfl) ?_
  refine sm rfl rfl ?_
  refine s_F rfl rfl rfl rfl rfl rfl ?_
  refine sv rfl (v_pickF rfl rfl rfl) ?_
  refine sm rfl rfl ?_
  refine s_nil ?_
  refine b_nil (hK _ ?_)
  exact to_L ⟨false, (), h, rfl⟩
 refine AW.rg rfl fun K hK => bv rfl (v_loadF ty24 rfl (l_litA rfl (lb rfl) rfl)) (bv rfl (v_loadF ty27 rfl (l_litA rfl (lb rfl) rfl)) ?_)
 obtain ⟨x40, h41, h⟩ := bS h
 refine b_op rfl (o_call rfl rfl rfl rfl (ACallD.pure0 (w_law31_great h41)) ?_)
 refine mv rfl rfl ?_
 by_cases hg44 : x40 = true
 ·have h := ifT hg44 h
  refine b_F rfl rfl rfl rfl rfl hg44 ?_
  refine b_F rfl rfl rfl rfl rfl rfl ?_
  refine bv rfl (v_pickT rfl rfl rfl) ?_
  refine b_nil (hK _ ?_)
  exact to_L ⟨true, (), h, rfl⟩
 have h := ifF hg44 h
 refine b_T rfl rfl rfl rfl (bF hg44) (o_val rfl (mv_val rfl rfl).2 ?_)
 obtain ⟨x42, h43, h⟩ := bS h
 refine b_T rfl rfl rfl rfl rfl (o_call rfl rfl rfl rfl (ACallD.pure0 (w_ref07_Long h43)) ?_)
 refine bv rfl (v_pickF rfl rfl rfl) ?_
 refine b_nil (hK _ ?_)
 exact to_L ⟨x42, (), h, rfl⟩
end Go.AW

namespace Go.AW
open Go
set_option linter.unusedSimpArgs false
set_option linter.unusedVariables false
theorem FormOk.zero {j : Jn} (h : FormOk j) : formE j = 0 := by
 have l1 := h.l1; have l2 := h.l2; have n1 := h.n1; have n16 := h.n16; have r16 := h.r16
 unfold formE
 rw [if_neg (fun e => e.elim h.ne1 h.ne2), if_neg (by omega), if_neg (fun e => e.elim (fun e => unev_iff.1 e h.n) fun e => unev_iff.1 e h.r), if_neg (by omega), if_neg (fun e => e.elim (fun e => lett_iff.1 e h.b1) fun e => lett_iff.1 e h.b2), if_neg (fun e => e.elim (fun e => rept_iff.1 e h.d1) fun e => rept_iff.1 e h.d2)]
theorem VJ.zero {j : Jn} {g : Gr} (h : VJ j g) : checkE j g = 0 := by
 unfold checkE
 rw [if_neg (fun e => e h.hv), if_neg (fun e => e h.h2), if_neg (fun e => e h.f.zero), if_neg, if_neg]
 ·simp only [badP, List.any_eq_true, not_exists, not_and]
  intro a ha b hb
  rw [h.p a ha b hb]
  decide
 ·simp only [badW, List.any_eq_true, not_exists, not_and]
  intro a ha
  rw [h.w a ha]
  decide
def InOk (j : Jn) (l : List Int) : Prop := ∀ n ∈ l, 0 ≤ n ∧ n.toNat < j.1.length
def far (w : List UInt8) : Int := max (disp w) (-disp w)
structure Bst (g : Gr) (b x : List UInt8) (ms : List (List UInt8)) (A : List UInt8 × Int × Bool) : Prop where
 no : A.2.2 = false → ∀ k (h : k < ms.length), inW g (b ++ (ms[k] ++ x)) = false
 yes : A.2.2 = true → ∃ i, ∃ h : i < ms.length, A.1 = ms[i] ∧ A.2.1 = far (b ++ (ms[i] ++ x)) ∧ inW g (b ++ (ms[i] ++ x)) = true ∧
  (∀ k (hk : k < ms.length), inW g (b ++ (ms[k] ++ x)) = true → A.2.1 ≤ far (b ++ (ms[k] ++ x))) ∧
  (∀ k (hk : k < i), inW g (b ++ (ms[k] ++ x)) = true → A.2.1 < far (b ++ (ms[k] ++ x)))
inductive Wr (j : Jn) : List Int → List UInt8 → Prop
 | one (x : Int) : Wr j [x] (wd j x)
 | snoc {l : List Int} {w : List UInt8} {m : List UInt8} (x : Int) : Wr j l w → m ∈ j.2 → Wr j (l ++ [x]) (w ++ (m ++ wd j x))
theorem Wr.ne {j : Jn} {l : List Int} {w : List UInt8} (h : Wr j l w) : l ≠ [] := by
 cases h <;> simp
theorem Wr.len {j : Jn} (hj : FormOk j) {l : List Int} {w : List UInt8} (h : Wr j l w) (hl : InOk j l) : w.length + fstLen j.2 = l.length * (fstLen j.1 + fstLen j.2) := by
 induction h with
 | one x =>
  rw [hj.n _ (wd_mem (hl x (by simp)))]
  simp
 | snoc x h hm ih =>
  have := ih (fun n h => hl n (List.mem_append.2 (.inl h)))
  have hx := hj.n _ (wd_mem (hl x (by simp)))
  have hr := hj.r _ hm
  simp only [List.length_append, List.length_singleton, Nat.succ_mul]
  rw [← this]
  omega
theorem Wr.bits {j : Jn} (hj : FormOk j) {l : List Int} {w : List UInt8} (h : Wr j l w) (hl : InOk j l) : bitW w := by
 induction h with
 | one x => exact hj.b1 _ (wd_mem (hl x (by simp)))
 | snoc x h hm ih => exact bitW_app.2 ⟨ih (fun n h => hl n (List.mem_append.2 (.inl h))), bitW_app.2 ⟨hj.b2 _ hm, hj.b1 _ (wd_mem (hl x (by simp)))⟩⟩
theorem sub_app {u v : List UInt8} {a l : Nat} (h : a + l ≤ u.length) : sub (u ++ v) a l = sub u a l := by
 unfold sub
 rw [List.drop_append_of_le_length (by omega), List.take_append_of_le_length (by rw [List.length_drop]; omega)]
theorem sub_tail {u v : List UInt8} {a l : Nat} (ha : a = u.length) (hl : l = v.length) (z : List UInt8) : sub (u ++ (v ++ z)) a l = v := by
 subst ha hl
 unfold sub
 rw [List.drop_left, List.take_left]
theorem Wr.piece {j : Jn} (hj : FormOk j) {l : List Int} {w : List UInt8} (h : Wr j l w) (hl : InOk j l) : ∀ i (hi : i < l.length), pieceW j w i = wd j l[i] ∧ (0 < i → pieceM j w i ∈ j.2) := by
 have n1 := hj.n1
 induction h with
 | one x =>
  intro i hi
  have hi0 : i = 0 := by simp at hi; omega
  subst hi0
  have hx := hj.n _ (wd_mem (hl x (by simp)))
  refine ⟨?_, fun h => by omega⟩
  have := sub_tail (u := []) (v := wd j x) (a := 0) (l := fstLen j.1) rfl hx.symm []
  simp only [List.nil_append, List.append_nil] at this
  simp only [pieceW, Nat.zero_mul, this, List.getElem_cons_zero]
 | @snoc l w m x h hm ih =>
  have hl' : InOk j l := fun n h => hl n (List.mem_append.2 (.inl h))
  have ih := ih hl'
  have hlen := h.len hj hl'
  have hx := hj.n _ (wd_mem (hl x (by simp)))
  have hr := hj.r _ hm
  intro i hi
  simp only [List.length_append, List.length_singleton] at hi
  by_cases h1 : i < l.length
  ·obtain ⟨q1, q2⟩ := ih i h1
   have hb : i * (fstLen j.1 + fstLen j.2) + (fstLen j.1 + fstLen j.2) ≤ l.length * (fstLen j.1 + fstLen j.2) := by
    rw [← Nat.succ_mul]; exact Nat.mul_le_mul_right _ h1
   rw [List.getElem_append_left h1]
   constructor
   ·rw [← q1]
    exact sub_app (by omega)
   ·intro h0
    have := q2 h0
    have e : pieceM j (w ++ (m ++ wd j x)) i = pieceM j w i := sub_app (by
     have : fstLen j.1 + fstLen j.2 ≤ i * (fstLen j.1 + fstLen j.2) := Nat.le_mul_of_pos_left _ h0
     omega)
    rw [e]
    exact this
  ·have e : i = l.length := by omega
   subst e
   rw [List.getElem_append_right (Nat.le_refl _)]
   simp only [Nat.sub_self, List.getElem_cons_zero]
   have hl0 := List.length_pos_iff.2 h.ne
   have : fstLen j.1 + fstLen j.2 ≤ l.length * (fstLen j.1 + fstLen j.2) := Nat.le_mul_of_pos_left _ hl0
   constructor
   ·have := sub_tail (u := w ++ m) (v := wd j x) (a := l.length * (fstLen j.1 + fstLen j.2)) (l := fstLen j.1) (by rw [List.length_append]; omega) hx.symm []
    rw [List.append_nil, List.append_assoc] at this
    exact this
   ·intro _
    have := sub_tail (u := w) (v := m) (a := l.length * (fstLen j.1 + fstLen j.2) - fstLen j.2) (l := fstLen j.2) (by omega) hr.symm (wd j x)
    show sub _ _ _ ∈ _
    rw [this]
    exact hm
theorem first_wd {j : Jn} (hj : FormOk j) {n : Int} (hn : 0 ≤ n ∧ n.toNat < j.1.length) : (firstI j.1 fun y => decide (wd j n = y)) = n := by
 have hw : wd j n = j.1[n.toNat] := getD_get hn.2 []
 have ha : (j.1.any fun y => decide (wd j n = y)) = true := List.any_eq_true.2 ⟨_, wd_mem hn, by simp⟩
 unfold firstI
 rw [if_pos ha]
 have : j.1.findIdx (fun y => decide (wd j n = y)) = n.toNat := by
  rw [List.findIdx_eq hn.2]
  refine ⟨by simp [hw], fun k hk => ?_⟩
  rw [decide_eq_false_iff_not, hw]
  intro e
  refine nodup_iff.1 hj.d1 n.toNat hn.2 ?_
  rw [e]
  have hq : k < (j.1.take n.toNat).length := by rw [List.length_take]; omega
  have := List.getElem_mem hq
  rwa [List.getElem_take] at this
 rw [this]
 omega
theorem Wr.read {j : Jn} (hj : FormOk j) {l : List Int} {w : List UInt8} (h : Wr j l w) (hl : InOk j l) : decE j w = (l, 0) := by
 have n1 := hj.n1
 have hlen := h.len hj hl
 have hl0 := List.length_pos_iff.2 h.ne
 have hp := h.piece hj hl
 have : fstLen j.1 + fstLen j.2 ≤ l.length * (fstLen j.1 + fstLen j.2) := Nat.le_mul_of_pos_left _ hl0
 have hk : kW j w = l.length := by
  unfold kW
  rw [hlen, Nat.mul_div_cancel _ (by omega)]
 unfold decE
 rw [if_neg (fun e => e hj.zero), if_neg (by intro e; subst e; simp only [List.length_nil] at hlen; omega), if_neg (fun e => e (by rw [hlen]; exact Nat.mul_mod_left ..)), hk]
 have hb : ∀ t, t < l.length → badT j w t = false := fun t ht => by
  obtain ⟨q1, q2⟩ := hp t ht
  have q3 : pieceW j w t ∈ j.1 := by rw [q1]; exact wd_mem (hl _ (List.getElem_mem ht))
  unfold badT
  rw [decide_eq_false (fun e => e.2 (q2 e.1)), decide_eq_false (fun e => e q3)]
  rfl
 have ho : outT j w l.length = l := by
  refine List.ext_getElem (outT_len ..) fun i h1 h2 => ?_
  have q := (hp i h2).1
  simp only [outT, List.getElem_map, List.getElem_range, q]
  exact first_wd hj (hl _ (List.getElem_mem h2))
 rcases fstN_cases (X := Ou (List Int) (List Int × Int)) (badT j w) (fun _ => Ou.ret ([], 13)) (Ou.go (outT j w l.length)) l.length 0 with ⟨i, _, h2, h3, _⟩ | ⟨_, h5⟩
 ·rw [hb i (by omega)] at h3
  cases h3
 ·rw [h5, ho]
theorem VJ.acc {j : Jn} {g : Gr} (hj : VJ j g) {w : List UInt8} (hb : bitW w) (hl : w.length ≤ 65536) : m_language_Accepts g w = some (inW g w, 0) := by
 have := hj.h2
 exact Accepts_eq hj.hv (by omega) (WOk_bit hj.h2 hb hl)
def pk (k : Nat) : Nat := if k ≤ 1 then 0 else if k ≤ 3 then 1 else 2
theorem pk_le (k : Nat) : pk k ≤ 2 := by
 unfold pk
 repeat' split
 all_goals omega
theorem Len_eq {k : Nat} (h1 : 1 ≤ k) (h6 : k ≤ 6) : m_math_bits_Len (IntKind.wrap .u64 (k : Int)) = some ((pk k : Nat) + 1 : Int) := by
 have : ∀ k ∈ [1, 2, 3, 4, 5, 6], (m_math_bits_Len64 (IntKind.wrap .u64 ((k : Nat) : Int))) = some ((pk k : Nat) + 1 : Int) := by decide
 unfold m_math_bits_Len
 rw [this k (by simp only [List.mem_cons, List.not_mem_nil, or_false]; omega)]
 rfl
theorem Ratio_eq {p L : Nat} (hp : p ≤ 2) (h1 : 1 ≤ L) (h2 : L ≤ 16) : m_rational_Ratio (p : Int) (L : Int) = some (ratT p L, 0) := by
 unfold m_rational_Ratio
 rw [if_pos ⟨by omega, by omega, by omega, by omega⟩]
 rfl
theorem Of_eq {n : Nat} (h : n ≤ 16) : m_ref01_OfE (n : Int) = some (false, if n = 0 then [] else [UInt8.ofNat n]) := by
 unfold m_ref01_OfE
 rw [if_pos ⟨by omega, by omega⟩]
 by_cases h0 : n = 0
 ·rw [if_pos h0, if_pos (by omega)]
 ·rw [if_neg h0, if_neg (by omega)]
  rfl
theorem New_eq : ∀ p ∈ [0, 1, 2], ∀ L ∈ [1, 2, 3, 4, 5, 6, 7, 8, 9, 10, 11, 12, 13, 14, 15, 16], m_ref02_NewE (false, if p = 0 then [] else [UInt8.ofNat p]) (false, if L = 0 then [] else [UInt8.ofNat L]) = some (ratT p L, 0) := by decide +kernel
def rateE (j : Jn) : TNumDen × Int := if formE j ≠ 0 then (((false, []), (false, [])), 1) else (ratT (pk j.1.length) (fstLen j.1 + fstLen j.2), 0)
theorem Rate_eq {j : Jn} (hs : JSize j) : m_merging_Rate j = some (rateE j) := by
 unfold m_merging_Rate rateE
 rw [form_eq hs.sm]
 simp only [Option.bind_some]
 by_cases hf : formE j ≠ 0
 ·rw [if_pos hf, if_pos hf]
 rw [if_neg hf, if_neg hf]
 have hj := formE_zero (Classical.not_not.1 hf)
 obtain ⟨q1, q2, q3, q4⟩ := hj.small hs
 have l1 := List.length_pos_iff.2 hj.ne1
 have n1 := hj.n1
 rw [Len_eq (by omega) (by omega), idx0 hj.ne1, idx0 hj.ne2]
 simp only [Option.bind_some, hdl]
 have e1 : IntKind.wrap .i64 ((pk j.1.length : Nat) + 1 - 1 : Int) = ((pk j.1.length : Nat) : Int) := by
  have := pk_le j.1.length
  rw [w64 (by omega) (by omega)]; omega
 have e2 : IntKind.wrap .i64 (((fstLen j.1 : Nat) : Int) + ((fstLen j.2 : Nat) : Int)) = ((fstLen j.1 + fstLen j.2 : Nat) : Int) := by
  rw [w64 (by omega) (by omega)]; omega
 rw [e1, e2, Ratio_eq (pk_le _) (by omega) (by omega)]
 rfl
theorem rate_loop {k : Nat} (h1 : 1 ≤ k) (h6 : k ≤ 6) : loopW (S := Int × Int) (X := Int) (fun a4 =>
      if a4.2 ≤ (k : Int) then
       some (Stp.next (IntKind.wrap .i64 (a4.1 + 1), IntKind.wrap .i64 (2 * a4.2)))
      else
       some (Stp.exit a4.1)) (0, 2) = some ((pk k : Nat) : Int) := by
  have hk : k = 1 ∨ (2 ≤ k ∧ k ≤ 3) ∨ 4 ≤ k := by omega
  have e : pk k = if k ≤ 1 then 0 else if k ≤ 3 then 1 else 2 := rfl
  rcases hk with rfl | h | h
  · rw [loopW_exit (by simp only; rw [if_neg (by omega)])]
    rfl
  · rw [loopW_next (s' := (1, 4)) (by simp only; rw [if_pos (by omega)]; rfl), loopW_exit (by simp only; rw [if_neg (by omega)]), e, if_neg (by omega), if_pos (by omega)]
    rfl
  · rw [loopW_next (s' := (1, 4)) (by simp only; rw [if_pos (by omega)]; rfl), loopW_next (s' := (2, 8)) (by simp only; rw [if_pos (by omega)]; rfl), loopW_exit (by simp only; rw [if_neg (by omega)]), e, if_neg (by omega), if_neg (by omega)]
    rfl
theorem RefRate_eq {j : Jn} (hs : JSize j) : m_ref31_Rate j = some (rateE j) := by
 unfold m_ref31_Rate rateE
 rw [Form_eq hs.sm]
 simp only [Option.bind_some]
 by_cases hf : formE j ≠ 0
 ·rw [if_pos hf, if_pos hf]
 rw [if_neg hf, if_neg hf]
 have hj := formE_zero (Classical.not_not.1 hf)
 obtain ⟨q1, q2, q3, q4⟩ := hj.small hs
 have l1 := List.length_pos_iff.2 hj.ne1
 have n1 := hj.n1
 have hp := pk_le j.1.length
 rw [rate_loop (by omega) q1, idx0 hj.ne1, idx0 hj.ne2]
 simp only [Option.bind_some, hdl]
 have e2 : IntKind.wrap .i64 (((fstLen j.1 : Nat) : Int) + ((fstLen j.2 : Nat) : Int)) = ((fstLen j.1 + fstLen j.2 : Nat) : Int) := by
  rw [w64 (by omega) (by omega)]; omega
 rw [Of_eq (by omega)]
 simp only [Option.bind_some]
 rw [e2, Of_eq (by omega)]
 simp only [Option.bind_some]
 rw [New_eq _ (by simp only [List.mem_cons, List.not_mem_nil, or_false]; omega) _ (by simp only [List.mem_cons, List.not_mem_nil, or_false]; omega)]
 rfl
theorem decE_len (j : Jn) (w : List UInt8) : (decE j w).1.length ≤ w.length + 16 := by
 unfold decE
 by_cases hf : formE j ≠ 0
 ·rw [if_pos hf]; simp
 rw [if_neg hf]
 have hj := formE_zero (Classical.not_not.1 hf)
 have n1 := hj.n1
 have r16 := hj.r16
 split
 ·simp
 split
 ·simp
 ·have hk : kW j w ≤ w.length + 16 := by
   unfold kW
   exact Nat.le_trans (Nat.div_le_self _ _) (by omega)
  rcases fstN_cases (X := Ou (List Int) (List Int × Int)) (badT j w) (fun _ => Ou.ret ([], 13)) (Ou.go (outT j w (kW j w))) (kW j w) 0 with ⟨i, _, _, _, _, h5⟩ | ⟨_, h5⟩
  ·rw [h5]; simp
  ·rw [h5]; simp only [outT_len]; exact hk
theorem mergesE_len (j : Jn) (g : Gr) (a b : Int) : (mergesE j g a b).1.length ≤ 256 := by
 unfold mergesE
 by_cases h : inpE j g [a, b] ≠ 0
 ·rw [if_pos h]; simp
 ·rw [if_neg h]
  obtain ⟨hj, _⟩ := inp_zero (Classical.not_not.1 h)
  exact Nat.le_trans (allowL_len ..) hj.f.l2
theorem long60 (w : List UInt8) : ∃ b, m_ref07_Long w 60 = some b ∧ (b = false → w.length ≤ 1000000) := by
 unfold m_ref07_Long
 simp only [jp]
 split
 ·split
  ·exact ⟨_, rfl, fun h => by cases h⟩
  ·exact ⟨_, rfl, fun h => by have := of_decide_eq_false h; omega⟩
 ·exact ⟨_, rfl, fun h => by have := of_decide_eq_false h; omega⟩
theorem law31_checks (j : Jn) (g : Gr) (a b : Int) (w : List UInt8) : m_law31_MergingChecks j g a b w = some true := by
 unfold m_law31_MergingChecks
 simp only [jp, m_law31_awake, Option.bind_some]
 obtain ⟨c, hc, hv⟩ := great31_tot j g
 obtain ⟨d, hd, hw⟩ := long60 w
 rw [hc, hd]
 simp only [Option.bind_some]
 cases c with
 | true => rw [if_pos (by rfl), if_pos trivial]
 | false =>
  obtain ⟨hs, _⟩ := hv rfl
  rw [if_neg Bool.false_ne_true]
  cases d with
  | true => rw [if_pos (by rfl)]
  | false =>
   have hw := hw rfl
   have h1 := decE_len j w
   have h2 := mergesE_len j g a b
   rw [if_neg Bool.false_ne_true, Merges_eq hs.sm, RefMerges_eq hs.sm, Decode_eq hs.sm hw, RefDecode_eq hs.sm hw, Rate_eq hs, RefRate_eq hs, Check31_eq hs.sm, RefCheck31_eq hs.sm]
   simp only [Option.bind_some]
   rw [EqI_eq (by omega), EqI_eq (by omega)]
   simp
end Go.AW
namespace Go.AW
open Go Go.ChangeShapes Go.WideShapes Go.ChangeAt Go.RowKit
def Kept (W W' : World) : Prop := W'.os = W.os ∧ W'.output = W.output ∧ W.heap.size ≤ W'.heap.size ∧ ∀ b : Nat, b < W.heap.size → W'.heap[b]? = W.heap[b]?
theorem Kept.frame {W W' : World} (h : Kept W W') (may : MemPlace → Prop) : W.keptBut W' may := by
 refine ⟨h.1, h.2.1, fun i hi => ?_⟩
 rw [h.2.2.2 i hi]
 cases W.heap[i]? with
 | none => rfl
 | some o => cases o with
  | cells c t fr => exact ⟨rfl, rfl, rfl, fun _ _ => rfl⟩
  | map es clock => exact .inr ⟨rfl, rfl⟩
  | _ => rfl
theorem Kept.frozen {W W' : World} (h : Kept W W') (a : Addr) (ha : a.block < W.heap.size) : W'.frozen? a = W.frozen? a := by
 simp only [World.frozen?, h.2.2.2 _ ha]
def Mu.zero : Mu := { nx := 0, loc := fun _ => none, held := fun _ => False }
theorem SR.zero (W : World) : SR W Mu.zero [] :=
 ⟨(fun _ _ _ h => by cases h), (fun _ _ _ h => by cases h), (fun _ _ h => by cases h), (fun _ _ _ _ _ h => by cases h), (fun _ h => h.elim)⟩
theorem calls_of_pure {P : Program} {f : FuncId} {args : List HV} {vs : List Value} {W : World} (hp : Pure P f args (· = .bool true)) (hr : RepL W Mu.zero args vs) :
  Calls P f vs.toArray W fun e W' => e = .returned (.bool true) ∧ Kept W W' := by
 refine (hp.2 Mu.zero W vs (SR.zero W) hr).mono ?_
 rintro e W' ⟨v, r, H', μ', rfl, ⟨rfl, _, _⟩, hs, hv, E⟩
 have hv' : v = .bool true := hv
 subst hv'
 exact ⟨rfl, E.os, E.output, E.size, fun b hb => E.keep b hb fun ⟨_, _, hl⟩ => by cases hl⟩
theorem rep_string {W : World} {μ : Mu} (s : ByteArray) (h : s.size ≤ maxLen) : Rep W μ (.str s.data.toList) (.string s) := by
 refine ⟨by cases s; simp, ?_⟩
 have : s.data.toList.length = s.size := by simp
 omega
theorem post_of_kept {H : Type} {enc : TypeId × Value → H} {P : Program} {f : Func} {s : ChangeSpec} {apart fresh handsOn again : Bool} {W W' : World} {args : Array Value} {v : Value} {ds gs : List (DataW H)} {before pa pv : List MemPlace}
  (hW : DataW.Whole enc P f.params.toList s.vars apart W args.toList ds gs before)
  (hres : ∀ (b : Nat) (sp : Nat → Bool) (hd : Bool), DataW.TrodAll enc P W' b sp hd f.resultTypes.toList (v.resultList f.resultTypes.size) (s.fn H (ds ++ gs)).results [])
  (hargs : ∀ sp : Nat → Bool, (∀ p ∈ before, sp p.block = true) → DataW.TrodAll enc P W' 0 sp true f.params.toList args.toList (s.fn H (ds ++ gs)).args pa)
  (hvars : ∀ sp : Nat → Bool, (∀ p ∈ before, sp p.block = true) → DataW.TrodVars enc P W' sp s.vars (s.fn H (ds ++ gs)).vars pv)
  (hps : before = pa ++ pv) (hk : Kept W W')
  (hok : ∀ (j : Nat) (t : TypeId) (r : Value), f.resultTypes[j]? = some t → (v.resultList f.resultTypes.size)[j]? = some r → Value.okWide P W' .any 0 t r) :
  s.post enc P f apart fresh handsOn again W args v W' := by
 have hold : ∀ p ∈ before, (fun b => decide (b < W.heap.size)) p.block = true := fun p hp => by simpa using hW.lt p hp
 refine ⟨ds, gs, before, [], pa, pv, hW, hres _ _ _, hargs _ hold, hvars _ hold, World.keptBut_mono (fun p hp => ⟨hp, ?_⟩) (hk.frame (· ∈ before)), fun _ => ?_⟩
 ·rw [hps, List.mem_append] at hp
  exact Or.inr hp
 ·have hlt := hW.lt
  obtain ⟨_, _, _, _, _, hz, hn⟩ := hW
  refine ⟨hok, _, _, ([] ++ pa) ++ pv, ⟨[] ++ pa, pv, trodAll_append (hargs _ (fun _ _ => rfl)) (hres _ _ _), hvars _ (fun _ _ => rfl), rfl, ?_, ?_⟩, ?_⟩
  ·intro b off hp
   have hp' : MemPlace.cell b off ∈ before := by rw [hps]; simpa using hp
   rw [hk.frozen _ (hlt _ hp')]
   exact hz b off hp'
  ·intro ha
   have := hn ha
   rw [hps] at this
   simpa using this
  ·intro p hp _
   rw [hps]
   simpa using hp
theorem rowAt_le {p : Program} {fits : TypeId → Bool} {d : Nat} {e : TypeId} {count off n : Nat} (h : rowAt p fits d e count off n = true) : off ≤ count * p.cellsOf e := by
 cases d with
 | zero => simp [rowAt] at h
 | succ d =>
  unfold rowAt at h
  simp only at h
  split at h
  ·cases h
  ·rename_i hs
   have hs' : 0 < p.cellsOf e := Nat.pos_of_ne_zero hs
   have hd := Nat.div_add_mod off (p.cellsOf e)
   rw [Nat.mul_comm] at hd
   simp only [Bool.or_eq_true, Bool.and_eq_true, beq_iff_eq, decide_eq_true_eq] at h
   rcases h with ⟨⟨h0, h1⟩, _⟩ | ⟨h1, _⟩
   ·rw [← hd, h0, Nat.add_zero]
    exact Nat.mul_le_mul_right _ (by omega)
   ·have hm := Nat.mod_lt off hs'
    have : (off / p.cellsOf e + 1) * p.cellsOf e ≤ count * p.cellsOf e := Nat.mul_le_mul_right _ h1
    rw [Nat.add_mul] at this
    omega
theorem liesAt_le {p : Program} {d : Nat} {e u : TypeId} {count off n : Nat} (h : liesAt p d e count off u n = true) : off ≤ count * p.cellsOf e := by
 induction d generalizing u n with
 | zero => simp [liesAt] at h
 | succ d ih =>
  unfold liesAt at h
  rw [Bool.or_eq_true] at h
  rcases h with h | h
  ·exact rowAt_le h
  ·split at h
   ·exact ih h
   ·cases h
theorem has_seg {P : Program} {W : World} {r : Reach} {base : Nat} {a : Addr} {e : TypeId} {cap : Nat} (h : W.has P r base a e cap) {vs : List Value} (hc : ∀ i (hi : i < vs.length), W.cell? (a.add i) = some vs[i]) :
  ∃ b off, a = ⟨b, off, none⟩ ∧ Seg W b off vs := by
 obtain ⟨_, hsp, row, cells, hsh, hl⟩ := h
 obtain ⟨b, off, spot⟩ := a
 dsimp only at hsp hsh hl
 subst hsp
 refine ⟨b, off, rfl, ?_⟩
 unfold World.shape? at hsh
 split at hsh
 ·rename_i cur e' fr hb
  simp only [Option.some.injEq, Prod.mk.injEq] at hsh
  obtain ⟨rfl, rfl⟩ := hsh
  have hoff : off ≤ cur.size := Nat.le_trans (liesAt_le hl) (Nat.div_mul_le_self _ _)
  have hget : ∀ i (hi : i < vs.length), cur.toList[off + i]? = some vs[i] := fun i hi => by
   have := hc i hi
   rw [add_plain] at this
   unfold World.cell? at this
   rw [hb] at this
   simpa using this
  refine ⟨cur, e', fr, cur.toList.take off, cur.toList.drop (off + vs.length), hb, ?_, by simp [hoff]⟩
  have hvs : vs = (cur.toList.drop off).take vs.length := by
   apply List.ext_getElem?
   intro i
   rcases Nat.lt_or_ge i vs.length with hi | hi
   ·rw [List.getElem?_take_of_lt hi, List.getElem?_drop, hget i hi, List.getElem?_eq_getElem hi]
   ·rw [List.getElem?_eq_none hi, List.getElem?_eq_none (by simp; omega)]
  have : vs ++ cur.toList.drop (off + vs.length) = cur.toList.drop off := by
   conv => lhs; arg 1; rw [hvs]
   rw [← List.drop_drop]
   exact List.take_append_drop _ _
  rw [List.append_assoc, this, List.take_append_drop]
 ·cases hsh
theorem nown (b : Nat) : ¬ Mu.zero.owns b := fun h => h.elim (fun ⟨_, _, h⟩ => by cases h) id
theorem open_num {H : Type} {enc : TypeId × Value → H} {P : Program} {W : World} {base : Nat} {t : TypeId} {k : IntKind} {v : Value} {d : DataW H} {ps : List MemPlace} (ht : P.underlying t = some (.int k))
  (hval : Value.okWide P W .any base t v) (h : DataW.Trod enc P W 0 (fun _ => true) true t v d ps) : ∃ n : Int, (Lit.int k n).wf = true ∧ Rep W Mu.zero (.int k n) v := by
 obtain ⟨n, rfl, _, _, hw⟩ := open_int ht hval h
 exact ⟨n, hw, rfl, hw⟩
theorem trodAll_stays {H : Type} {enc : TypeId × Value → H} {P : Program} (hl : laidOutB P = true) {W W' : World} {sp : Nat → Bool} : ∀ {ts : List TypeId} {vs : List Value} {ds : List (DataW H)} {ps : List MemPlace},
  (ts.all fun t => P.readableRec t && decide (t < P.types.size)) = true → DataW.TrodAll enc P W 0 (fun _ => true) true ts vs ds ps → (∀ p ∈ ps, W.sameAt W' p) → (∀ p ∈ ps, sp p.block = true) → DataW.TrodAll enc P W' 0 sp true ts vs ds ps
 | [], vs, ds, ps, _, h, _, _ => by
  obtain ⟨rfl, rfl, rfl⟩ := trodAll_nil h
  exact trodAll_mk0
 | t :: ts, vs, ds, ps, ht, h, h1, h2 => by
  obtain ⟨v, vs', d, ds', p, q, rfl, rfl, rfl, h3, h4⟩ := trodAll_cons h
  simp only [List.all_cons, Bool.and_eq_true, decide_eq_true_eq] at ht
  exact trodAll_cons_mk (WideElems.Trod_stays hl ht.1.1 ht.1.2 h3 (fun x hx => h1 x (List.mem_append_left _ hx)) (fun x hx => h2 x (List.mem_append_left _ hx)))
   (trodAll_stays hl ht.2 h4 (fun x hx => h1 x (List.mem_append_right _ hx)) (fun x hx => h2 x (List.mem_append_right _ hx)))
theorem Kept.same {W W' : World} (h : Kept W W') (p : MemPlace) (hp : p.block < W.heap.size) : W.sameAt W' p := by
 cases p with
 | cell b off =>
  show W'.cell? ⟨b, off, none⟩ = W.cell? ⟨b, off, none⟩
  unfold World.cell?
  rw [h.2.2.2 b hp]
 | map b => exact h.2.2.2 b hp
theorem post_of_true {H : Type} {enc : TypeId × Value → H} {P : Program} {f : Func} {s : ChangeSpec} {apart fresh handsOn again : Bool} {W W' : World} {args : Array Value} {ds gs : List (DataW H)} {before : List MemPlace} {t : TypeId}
  (hl : laidOutB P = true) (hps : (f.params.toList.all fun t => P.readableRec t && decide (t < P.types.size)) = true) (hres : f.resultTypes = #[t]) (ht : P.underlying t = some .bool) (hv : s.vars = [])
  (hW : DataW.Whole enc P f.params.toList s.vars apart W args.toList ds gs before) (hk : Kept W W')
  (h1 : (s.fn H (ds ++ gs)).results = [.lit (.bool true)]) (h2 : (s.fn H (ds ++ gs)).args = ds) (h3 : (s.fn H (ds ++ gs)).vars = []) :
  s.post enc P f apart fresh handsOn again W args (.bool true) W' := by
 have hlt := hW.lt
 have hW' := hW
 obtain ⟨p, q, hA, hV, rfl, _, _⟩ := hW
 rw [hv] at hV
 obtain ⟨rfl, rfl⟩ := trodVars_none hV
 refine post_of_kept (pa := p) (pv := []) hW' (fun _ _ _ => ?_) (fun sp hsp => ?_) (fun _ _ => ?_) (by simp) hk (ok_one hres rfl (okWide_bool_mk ht _))
 ·rw [hres, h1]
  exact trodAll_cons_mk (shut_bool ht _) trodAll_mk0
 ·rw [h2]
  exact trodAll_stays hl hps hA (fun x hx => hk.same x (hlt x (by simpa using hx))) (fun x hx => hsp x (by simpa using hx))
 ·rw [h3, hv]
  rfl
section
variable {H : Type} {enc : TypeId × Value → H} {P : Program} {W : World} {base : Nat}
theorem repL_app {μ : Mu} : ∀ {hs ks : List HV} {vs us : List Value}, RepL W μ hs vs → RepL W μ ks us → RepL W μ (hs ++ ks) (vs ++ us)
 | [], _, _, _, h, h' => by cases h; exact h'
 | _ :: _, _, _, _, ⟨x, xs, rfl, h1, h2⟩, h' => ⟨x, _, rfl, h1, repL_app h2 h'⟩
theorem add_adds (a : Addr) (i j : Nat) : (a.add i).add j = a.add (i + j) := by
 unfold Addr.add
 repeat' split
 all_goals simp_all [Nat.add_assoc]
theorem open_rows {α : Type} (c : EncL α) {fuel : Nat} {t e : TypeId} {cs : List Value} {x : DataW H × List MemPlace} (ht : P.underlying t = some (.slice e)) (hk : P.cellsOf e = c.k) (hone : ∀ x, ones (c.C x))
  (hel : ∀ n cs y, DataW.trod enc P W 0 (fun _ => true) true n e cs = some y → ∃ x : α, RepL W Mu.zero (c.C x) cs)
  (hhas : ∀ a len cap, cs = [.slice (some a) len cap] → W.has P .any base a e cap) (h : DataW.trod enc P W 0 (fun _ => true) true fuel t cs = some x) : ∃ l : List α, RepL W Mu.zero [slE c l] cs := by
 rcases DataW.trod_slice ht h with ⟨rfl, _⟩ | ⟨a, len, cap, elems, rest, n, _, rfl, _, _, hl, hm, hlen, hel', _, _⟩
 ·refine ⟨[], _, _, rfl, ?_, rfl⟩
  show _ ∧ _
  exact ⟨(by rw [c.nil]; exact fun _ h => nomatch h), (by rw [c.nil]; simp), Nat.zero_le _, .inl ⟨rfl, rfl⟩⟩
 ·have each : ∀ i, i < len → ∃ cs' x, W.cells? 0 (a.add (i * c.k)) c.k = some cs' ∧ RepL W Mu.zero (c.C x) cs' := fun i hi => by
   have h1 := hel' i hi
   rw [List.getElem?_eq_getElem (by omega), Option.bind_eq_some_iff, hk] at h1
   obtain ⟨cs', h2, h3⟩ := h1
   obtain ⟨x, hx⟩ := hel _ _ _ h3
   exact ⟨cs', x, h2, hx⟩
  have build : ∀ m, m ≤ len → ∃ (l : List α) (vs : List Value), l.length = m ∧ vs.length = m * c.k ∧ RepL W Mu.zero (c.E l) vs ∧ ∀ i (hi : i < vs.length), W.cell? (a.add i) = some vs[i] := by
   intro m
   induction m with
   | zero => exact fun _ => ⟨[], [], rfl, by simp, by rw [c.nil]; rfl, fun i hi => by simp at hi⟩
   | succ m ih =>
    intro hm
    obtain ⟨l, vs, h1, h2, h3, h4⟩ := ih (by omega)
    obtain ⟨cs', x, h5, h6⟩ := each m (by omega)
    obtain ⟨_, h7, h8⟩ := World.cells?_some h5
    refine ⟨l ++ [x], vs ++ cs', by simp [h1], by rw [List.length_append, h2, h7, Nat.succ_mul], by rw [c.append, c.one]; exact repL_app h3 h6, fun i hi => ?_⟩
    rcases Nat.lt_or_ge i vs.length with hi' | hi'
    ·rw [List.getElem_append_left hi']; exact h4 i hi'
    ·rw [List.getElem_append_right hi']
     rw [List.length_append] at hi
     have := h8 (i - vs.length) (by omega)
     rw [add_adds, h2, show m * c.k + (i - m * c.k) = i by omega] at this
     rw [this, List.getElem?_eq_getElem (by omega)]
     simp only [h2]
  obtain ⟨l, vs, h1, h2, h3, h4⟩ := build len (Nat.le_refl _)
  obtain ⟨b, off, rfl, hseg⟩ := has_seg (hhas _ _ _ rfl) h4
  refine ⟨l, _, _, rfl, ?_, rfl⟩
  show _ ∧ _
  refine ⟨fun d hd => ?_, c.len l, by omega, .inr ⟨b, off, cap, vs, by rw [h1], by omega, nown b, hseg, h3⟩⟩
  rw [c.hE] at hd
  obtain ⟨x, _, hdx⟩ := List.mem_flatMap.1 hd
  exact hone x d hdx
theorem open3 {t : TypeId} {f0 f1 f2 : Field} {fuel : Nat} {cs : List Value} {x : DataW H × List MemPlace} (ht : P.underlying t = some (.struct #[f0, f1, f2])) (o0 : f0.offset = 0) (o1 : f1.offset = 1) (o2 : f2.offset = 2) (c : P.cellsOf t = 3)
  (c0 : P.cellsOf f0.type = 1) (c1 : P.cellsOf f1.type = 1) (c2 : P.cellsOf f2.type = 1) (h : DataW.trod enc P W 0 (fun _ => true) true fuel t cs = some x) :
  ∃ v0 v1 v2 y0 y1 y2 n, cs = [v0, v1, v2] ∧ DataW.trod enc P W 0 (fun _ => true) true n f0.type [v0] = some y0 ∧ DataW.trod enc P W 0 (fun _ => true) true n f1.type [v1] = some y1 ∧ DataW.trod enc P W 0 (fun _ => true) true n f2.type [v2] = some y2 := by
 obtain ⟨xs, n, _, rfl, hl, hlen, hf⟩ := DataW.trod_struct ht h
 rw [c] at hl
 match cs, hl with
 | [v0, v1, v2], _ =>
  match xs, hlen with
  | [y0, y1, y2], _ =>
   refine ⟨v0, v1, v2, y0, y1, y2, n, rfl, ?_, ?_, ?_⟩
   ·have := hf 0 f0 rfl; rw [o0, c0] at this; exact this
   ·have := hf 1 f1 rfl; rw [o1, c1] at this; exact this
   ·have := hf 2 f2 rfl; rw [o2, c2] at this; exact this
theorem rep_i64 {n : Int} {ti : TypeId} {m : Nat} {v : Value} {y : DataW H × List MemPlace} (hti : P.underlying ti = some (.int .i64)) (h : DataW.trod enc P W 0 (fun _ => true) true m ti [v] = some y) : ∃ n : Int, Rep W Mu.zero (.int .i64 n) v := by
 obtain ⟨n, hv, _, hw⟩ := DataW.trod_int hti h
 cases hv
 exact ⟨n, rfl, hw⟩
theorem open_graph {t ti ts te : TypeId} {f0 f1 f2 e0 e1 e2 : Field} {v : Value} {d : DataW H} {ps : List MemPlace} (ht : P.underlying t = some (.struct #[f0, f1, f2])) (o : f0.offset = 0 ∧ f1.offset = 1 ∧ f2.offset = 2) (y : f0.type = ti ∧ f1.type = ti ∧ f2.type = ts)
  (c : P.cellsOf t = 3) (ci : P.cellsOf ti = 1) (cs : P.cellsOf ts = 1) (ct : P.cellTypes P.depth t = some [ti, ti, ts]) (hti : P.underlying ti = some (.int .i64)) (hts : P.underlying ts = some (.slice te))
  (hte : P.underlying te = some (.struct #[e0, e1, e2])) (oe : e0.offset = 0 ∧ e1.offset = 1 ∧ e2.offset = 2) (ye : e0.type = ti ∧ e1.type = ti ∧ e2.type = ti) (ce : P.cellsOf te = 3)
  (hval : Value.okWide P W .any base t v) (h : DataW.Trod enc P W 0 (fun _ => true) true t v d ps) : ∃ g : TLabelsStatesEdges, Rep W Mu.zero (.agg [.int .i64 g.1, .int .i64 g.2.1, slE eFromLabelTo g.2.2]) v := by
 obtain ⟨y0, y1, y2⟩ := y
 obtain ⟨z0, z1, z2⟩ := ye
 simp only [Value.okWide, ht] at hval
 obtain ⟨arr, rfl, _, hrow⟩ := hval
 obtain ⟨fuel, hf⟩ := h
 obtain ⟨v0, v1, v2, a0, a1, a2, n, hcs, h0, h1, h2⟩ := open3 ht o.1 o.2.1 o.2.2 c (by rw [y0]; exact ci) (by rw [y1]; exact ci) (by rw [y2]; exact cs) hf
 have harr : arr = #[v0, v1, v2] := by
  have : arr.toList = [v0, v1, v2] := hcs
  cases arr
  simp_all
 subst harr
 rw [y0] at h0
 rw [y1] at h1
 rw [y2] at h2
 obtain ⟨l, r0⟩ := rep_i64 (n := 0) hti h0
 obtain ⟨s, r1⟩ := rep_i64 (n := 0) hti h1
 obtain ⟨es, _, _, r2, r2', r2''⟩ := open_rows (base := base) eFromLabelTo hts ce (fun x d hd => by
   have hd : d ∈ [HV.int .i64 x.1, HV.int .i64 x.2.1, HV.int .i64 x.2.2] := hd
   simp only [List.mem_cons, List.not_mem_nil, or_false] at hd
   rcases hd with rfl | rfl | rfl <;> rfl) (fun m cs' y hy => by
   obtain ⟨w0, w1, w2, b0, b1, b2, n', rfl, k0, k1, k2⟩ := open3 hte oe.1 oe.2.1 oe.2.2 ce (by rw [z0]; exact ci) (by rw [z1]; exact ci) (by rw [z2]; exact ci) hy
   rw [z0] at k0
   rw [z1] at k1
   rw [z2] at k2
   obtain ⟨p0, q0⟩ := rep_i64 (n := 0) hti k0
   obtain ⟨p1, q1⟩ := rep_i64 (n := 0) hti k1
   obtain ⟨p2, q2⟩ := rep_i64 (n := 0) hti k2
   exact ⟨(p0, p1, p2), _, _, rfl, q0, _, _, rfl, q1, _, _, rfl, q2, rfl⟩) (fun a len cap e => by
   cases e
   obtain ⟨tys, ht1, _, hcell⟩ := hrow
   rw [ct] at ht1
   cases ht1
   obtain ⟨u, hu, hok⟩ := hcell 2 (.slice (some a) len cap) rfl
   cases hu
   simp only [Cell.okWide, hts, Cell.ok] at hok
   exact hok.2.2) h2
 cases r2
 refine ⟨(l, s, es), ?_⟩
 show _ ∧ _
 refine ⟨fun d hd => ?_, _, rfl, _, _, rfl, r0, _, _, rfl, r1, _, _, rfl, r2', rfl⟩
 simp only [List.mem_cons, List.not_mem_nil, or_false] at hd
 rcases hd with rfl | rfl | rfl <;> rfl
end
end Go.AW
namespace Go.AW
open Go Go.ChangeShapes Go.WideShapes Go.ChangeAt Go.RowKit
section
variable {H : Type} {enc : TypeId × Value → H} {P : Program} {W : World} {base : Nat}
end
end Go.AW
namespace Go.AW
open Go Go.ChangeShapes Go.WideShapes Go.ChangeAt Go.RowKit
section
variable {H : Type} {enc : TypeId × Value → H} {P : Program} {W : World} {base : Nat}
end
end Go.AW
namespace Go.AW
open Go Go.ChangeShapes Go.WideShapes Go.ChangeAt Go.RowKit
section
variable {H : Type} {enc : TypeId × Value → H} {P : Program} {W : World} {base : Nat}
theorem open2 {t : TypeId} {f0 f1 : Field} {fuel : Nat} {cs : List Value} {x : DataW H × List MemPlace} (ht : P.underlying t = some (.struct #[f0, f1])) (o0 : f0.offset = 0) (o1 : f1.offset = 1) (c : P.cellsOf t = 2)
  (c0 : P.cellsOf f0.type = 1) (c1 : P.cellsOf f1.type = 1) (h : DataW.trod enc P W 0 (fun _ => true) true fuel t cs = some x) :
  ∃ v0 v1 y0 y1 n, cs = [v0, v1] ∧ DataW.trod enc P W 0 (fun _ => true) true n f0.type [v0] = some y0 ∧ DataW.trod enc P W 0 (fun _ => true) true n f1.type [v1] = some y1 := by
 obtain ⟨xs, n, _, rfl, hl, hlen, hf⟩ := DataW.trod_struct ht h
 rw [c] at hl
 match cs, hl with
 | [v0, v1], _ =>
  match xs, hlen with
  | [y0, y1], _ =>
   refine ⟨v0, v1, y0, y1, n, rfl, ?_, ?_⟩
   ·have := hf 0 f0 rfl; rw [o0, c0] at this; exact this
   ·have := hf 1 f1 rfl; rw [o1, c1] at this; exact this
theorem open_joins {t ts te : TypeId} {f0 f1 : Field} {v : Value} {d : DataW H} {ps : List MemPlace} (ht : P.underlying t = some (.struct #[f0, f1])) (o : f0.offset = 0 ∧ f1.offset = 1) (y : f0.type = ts ∧ f1.type = ts)
  (c : P.cellsOf t = 2) (cs : P.cellsOf ts = 1) (ct : P.cellTypes P.depth t = some [ts, ts]) (hts : P.underlying ts = some (.slice te)) (hte : P.underlying te = some .string) (ce : P.cellsOf te = 1)
  (hval : Value.okWide P W .any base t v) (h : DataW.Trod enc P W 0 (fun _ => true) true t v d ps) : ∃ g : List (List UInt8) × List (List UInt8), Rep W Mu.zero (.agg [slE eStr g.1, slE eStr g.2]) v := by
 obtain ⟨y0, y1⟩ := y
 simp only [Value.okWide, ht] at hval
 obtain ⟨arr, rfl, _, hrow⟩ := hval
 obtain ⟨fuel, hf⟩ := h
 obtain ⟨v0, v1, a0, a1, n, hcs, h0, h1⟩ := open2 ht o.1 o.2 c (by rw [y0]; exact cs) (by rw [y1]; exact cs) hf
 have harr : arr = #[v0, v1] := by
  have : arr.toList = [v0, v1] := hcs
  cases arr
  simp_all
 subst harr
 rw [y0] at h0
 rw [y1] at h1
 obtain ⟨tys, ht1, _, hcell⟩ := hrow
 rw [ct] at ht1
 cases ht1
 have one : ∀ (m : Nat) (cs' : List Value) (y : DataW H × List MemPlace), DataW.trod enc P W 0 (fun _ => true) true m te cs' = some y → ∃ x : List UInt8, RepL W Mu.zero [HV.str x] cs' := by
  intro m cs' y hy
  obtain ⟨s, rfl, _, hz⟩ := DataW.trod_string hte hy
  exact ⟨s.data.toList, _, _, rfl, rep_string s hz, rfl⟩
 obtain ⟨l, _, _, r0, r0', _⟩ := open_rows (base := base) eStr hts ce (fun x d hd => by
   have hd : d ∈ [HV.str x] := hd
   simp only [List.mem_cons, List.not_mem_nil, or_false] at hd
   subst hd; rfl) one (fun a len cap e => by
   cases e
   obtain ⟨u, hu, hok⟩ := hcell 0 (.slice (some a) len cap) rfl
   cases hu
   simp only [Cell.okWide, hts, Cell.ok] at hok
   exact hok.2.2) h0
 obtain ⟨k, _, _, r1, r1', _⟩ := open_rows (base := base) eStr hts ce (fun x d hd => by
   have hd : d ∈ [HV.str x] := hd
   simp only [List.mem_cons, List.not_mem_nil, or_false] at hd
   subst hd; rfl) one (fun a len cap e => by
   cases e
   obtain ⟨u, hu, hok⟩ := hcell 1 (.slice (some a) len cap) rfl
   cases hu
   simp only [Cell.okWide, hts, Cell.ok] at hok
   exact hok.2.2) h1
 cases r0
 cases r1
 refine ⟨(l, k), ?_⟩
 show _ ∧ _
 refine ⟨fun d hd => ?_, _, rfl, _, _, rfl, r0', _, _, rfl, r1', rfl⟩
 simp only [List.mem_cons, List.not_mem_nil, or_false] at hd
 rcases hd with rfl | rfl <;> rfl
end
end Go.AW
namespace Go.Proofs.YtlddcjolelmpmaaGreat
open Go Go.AW Go.ChangeShapes Go.WideShapes Go.ChangeAt Go.RowKit Go.ChangeMaps
set_option linter.unusedVariables false
theorem ownM : ownKnob Tryz.prog.godebug = none := by kernel_rfl
theorem laidB : laidOutB Tryz.prog = true := by kernel_rfl
theorem wLaw (a0 : TWordsMerges) (a1 : TLabelsStatesEdges) (a2 : Int) (a3 : Int) (a4 : List UInt8) : Pure Tryz.prog 6 [HV.agg [slE eStr a0.1, slE eStr a0.2], HV.agg [HV.int .i64 a1.1, HV.int .i64 a1.2.1, slE eFromLabelTo a1.2.2], .int .i64 a2, .int .i64 a3, .str a4] (· = .bool true) := w_law31_MergingChecks (law31_checks _ _ _ _ _)
set_option maxRecDepth 100000 in
theorem liftedL (os : Os) (started : os.Started) (H : Type) (enc : TypeId × Value → H) :
  ReturnsInHanded {} Tryz.checked os 6 .any (Rows.mergingChecksSpec.pre6 enc Tryz.prog Tryz.f6 Rows.mergingChecksRow.domain false) (Rows.mergingChecksSpec.post enc Tryz.prog Tryz.f6 false true false false) := by
 refine returnsInHanded_of_change (C := Tryz.checked) ownM started (by kernel_rfl) Tryz.func6
  (ChangeSpec.witness6 (enc := enc) (C := Tryz.checked) false ⟨#[], #[.agg #[.slice none 0 0, .slice none 0 0], .agg #[.int .i64 0, .int .i64 0, .slice none 0 0], .int .i64 0, .int .i64 0, .string ⟨#[]⟩], []⟩ 8 (by kernel_rfl) (by kernel_rfl) (by kernel_rfl) (by kernel_rfl)) ?_
 intro W base args ds gs before hval0 hW hcnd _
 have hval : ∀ (j : Nat) t v, Tryz.f6.params[j]? = some t → args[j]? = some v → Value.okWide Tryz.prog W .any base t v := hval0
 have hW' := hW
 obtain ⟨p, q, hA0, hV, rfl, hfz, hnd⟩ := hW
 have hA : DataW.TrodAll enc Tryz.prog W 0 (fun _ => true) true Tryz.f6.params.toList args.toList ds p := hA0
 rw [Tryz.params6] at hA hval
 obtain ⟨v0, vs0, d0, ds0, p0, q0, hargs, rfl, rfl, h0, r0⟩ := trodAll_cons hA
 obtain ⟨v1, vs1, d1, ds1, p1, q1, rfl, rfl, rfl, h1, r1⟩ := trodAll_cons r0
 obtain ⟨v2, vs2, d2, ds2, p2, q2, rfl, rfl, rfl, h2, r2⟩ := trodAll_cons r1
 obtain ⟨v3, vs3, d3, ds3, p3, q3, rfl, rfl, rfl, h3, r3⟩ := trodAll_cons r2
 obtain ⟨v4, vs4, d4, ds4, p4, q4, rfl, rfl, rfl, h4, r4⟩ := trodAll_cons r3
 obtain ⟨rfl, rfl, rfl⟩ := trodAll_nil r4
 obtain rfl : args = #[v0, v1, v2, v3, v4] := by cases args; simp_all
 obtain ⟨rfl, rfl⟩ := trodVars_none hV
 obtain ⟨a0, hr0⟩ := open_joins Tryz.underlying24 ⟨rfl, rfl⟩ ⟨rfl, rfl⟩ (by kernel_rfl) (by kernel_rfl) (by kernel_rfl) Tryz.underlying22 Tryz.underlying9 (by kernel_rfl) (hval 0 24 v0 rfl rfl) h0
 obtain ⟨a1, hr1⟩ := open_graph Tryz.underlying27 ⟨rfl, rfl, rfl⟩ ⟨rfl, rfl, rfl⟩ (by kernel_rfl) (by kernel_rfl) (by kernel_rfl) (by kernel_rfl) Tryz.underlying3 Tryz.underlying25 Tryz.underlying128 ⟨rfl, rfl, rfl⟩ ⟨rfl, rfl, rfl⟩ (by kernel_rfl) (hval 1 27 v1 rfl rfl) h1
 obtain ⟨a2, _, hr2⟩ := open_num Tryz.underlying3 (hval 2 3 v2 rfl rfl) h2
 obtain ⟨a3, _, hr3⟩ := open_num Tryz.underlying3 (hval 3 3 v3 rfl rfl) h3
 obtain ⟨s4, rfl, _, _, l4⟩ := open_string Tryz.underlying9 (hval 4 9 v4 rfl rfl) h4
 refine (calls_of_pure (vs := [v0, v1, v2, v3, .string s4]) (wLaw a0 a1 a2 a3 s4.data.toList) ⟨_, _, rfl, hr0, _, _, rfl, hr1, _, _, rfl, hr2, _, _, rfl, hr3, _, _, rfl, rep_string s4 l4, rfl⟩).mono fun e W' ⟨he, hk⟩ => ?_
 subst he
 exact ⟨_, rfl, post_of_true laidB (by kernel_rfl) rfl Tryz.underlying4 rfl hW' hk rfl rfl rfl⟩
theorem mergingChecksProved : Rows.MergingChecksSaid :=
 OpenClaim.holds_of_wide 6 Tryz.f6 rfl rfl rfl rfl rfl rfl rfl ⟨rfl, rfl, rfl, rfl, rfl⟩ rfl rfl rfl rfl rfl (by kernel_rfl) Tryz.func6 (by kernel_rfl)
  (of_decide_eq_true (by kernel_rfl)) (by unfold Func.isWrapper; first | (rw [if_pos (by decide +kernel)]; kernel_rfl) | (rw [if_neg (by decide +kernel)]; exact ⟨rfl, rfl⟩))
  (fun os started H enc _ => liftedL os started H enc)
#print axioms mergingChecksProved
end Go.Proofs.YtlddcjolelmpmaaGreat
