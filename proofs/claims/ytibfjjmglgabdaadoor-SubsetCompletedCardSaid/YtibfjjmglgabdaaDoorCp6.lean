import Derived.Test.YtibfjjmglgabdaaDoorCp5
namespace Go.AW
open Go Go.Proofs
set_option linter.unusedVariables false
set_option maxHeartbeats 1600000 in
set_option maxRecDepth 100000 in
theorem w_graph_Deterministic {p0 : TLabelsStatesEdges} {r : Bool × Int} (h : m_graph_Deterministic p0 = some r) : Pure Tryd.prog 22 [HV.agg [HV.int .i64 p0.1, HV.int .i64 p0.2.1, slE eFromLabelTo p0.2.2]] (· = HV.tup [HV.bool r.1, HV.int .i64 r.2]) := by
 unfold m_graph_Deterministic at h
 refine Pure.of_body Tryd.func22 rfl rfl (Nat.le_of_ble_eq_true rfl) fun hf => ?_
 unfold Tryd.f22
 dsimp only [enumS, Nat.reduceAdd]
 refine AW.rgs rfl fun K hK => ?_
 refine b_op rfl (o_box rfl rfl rfl ?_)
 refine mv rfl rfl ?_
 refine mv rfl rfl ?_
 refine b_fin hK (s' := ⟨[(1, HV.fptr [HV.int .i64 p0.1, HV.int .i64 p0.2.1, slE eFromLabelTo p0.2.2] 0)], []⟩) (le_q rfl rfl) ?_
 clear hK K
 refine AW.seq ?_
 refine AW.rgs rfl fun K hK => ?_
 refine bv rfl (v_loadF ty24 rfl (l_litA rfl (Nat.le_of_ble_eq_true rfl) rfl)) ?_
 obtain ⟨x1, h2, h⟩ := bS h
 refine b_op rfl (o_call rfl rfl rfl rfl (ACallD.pure0 (w_graph_Check h2)) ?_)
 refine bv rfl (v_bin rfl rfl b_neq) ?_
 refine b_fin hK (s' := ⟨[(1, HV.fptr [HV.int .i64 p0.1, HV.int .i64 p0.2.1, slE eFromLabelTo p0.2.2] 0), (9, HV.bool (decide (x1 ≠ 0)))], []⟩) (le_q rfl rfl) ?_
 clear hK K
 refine AW.cond rfl (fun hc => ?_) (fun hc => ?_)
 ·have hc := of_decide_eq_true hc
  have h := ifT hc h
  refine AW.rgs rfl fun K hK => ?_
  refine mv rfl rfl ?_
  refine mv rfl rfl ?_
  refine b_fin hK (s' := ⟨[(2, HV.bool false), (3, HV.int .i64 1)], []⟩) (le_q rfl rfl) ?_
  clear hK K
  refine AW.ret ?_
  have h := Option.some.inj h
  subst h
  exact ret_pure (hs := [HV.bool false, HV.int .i64 1]) (q := HV.tup [HV.bool false, HV.int .i64 1]) (.inr rfl) (resT rfl (resT rfl rfl)) rfl ⟨trivial, trivial, trivial⟩
 have hc := of_decide_eq_false hc
 have h := ifF hc h
 refine AW.skip ?_
 refine AW.seq ?_
 refine AW.rgs rfl fun K hK => ?_
 refine mv rfl rfl ?_
 refine b_fin hK (s' := ⟨[(1, HV.fptr [HV.int .i64 p0.1, HV.int .i64 p0.2.1, slE eFromLabelTo p0.2.2] 0), (4, HV.int .i64 1)], []⟩) (le_q rfl rfl) ?_
 clear hK K
 refine AW.lpR h (by first | exact up_then | exact up_to) (S := Int) (V := Unit) (fun a v => ⟨[(1, HV.fptr [HV.int .i64 p0.1, HV.int .i64 p0.2.1, slE eFromLabelTo p0.2.2] 0), (4, HV.int .i64 a)], []⟩) ?_ (X := Unit) (W := Unit) (fun a v => ⟨[], []⟩) (fun a12 w13 h => ?_) (fun a3 w4 st5 h hr6=> ?_)
 ·exact to_le (s' := ⟨[(1, HV.fptr [HV.int .i64 p0.1, HV.int .i64 p0.2.1, slE eFromLabelTo p0.2.2] 0), (4, HV.int .i64 1)], []⟩) (AS.le_of ⟨rfl, rfl, trivial⟩ trivial) ⟨(), rfl⟩
 ·refine AW.rgs rfl fun K hK => ?_
  refine mv rfl rfl ?_
  refine mv rfl rfl ?_
  refine b_fin hK (s' := ⟨[(2, HV.bool true), (3, HV.int .i64 0)], []⟩) (le_q rfl rfl) ?_
  clear hK K
  refine AW.ret ?_
  have h := Option.some.inj h
  subst h
  exact ret_pure (hs := [HV.bool true, HV.int .i64 0]) (q := HV.tup [HV.bool true, HV.int .i64 0]) (.inr rfl) (resT rfl (resT rfl rfl)) rfl ⟨trivial, trivial, trivial⟩
 refine AW.seq ?_
 refine AW.rgs rfl fun K hK => ?_
 refine mv rfl rfl ?_
 refine bv rfl (v_fieldAddrF fo24_2 rfl) ?_
 refine bv rfl (v_loadF ty22 rfl (l_lit rfl rfl)) ?_
 refine bv rfl (v_lenF rfl rfl ty22 rfl) ?_
 refine bv rfl (v_bin rfl rfl b_lss) ?_
 refine b_fin hK (s' := ⟨[(1, HV.fptr [HV.int .i64 p0.1, HV.int .i64 p0.2.1, slE eFromLabelTo p0.2.2] 0), (4, HV.int .i64 a3), (14, HV.bool (decide (a3 < ((p0.2.2).length : Int))))], []⟩) (le_q rfl rfl) ?_
 clear hK K
 refine AW.cond rfl (fun hc => ?_) (fun hc => ?_)
 ·have hc := of_decide_eq_true hc
  have h := ifT hc h
  refine AW.skip ?_
  refine AW.seq (AW.block ?_)
  refine AW.dls follows fun K hK F hF => ?_
  obtain ⟨x70401, h70402, h⟩ := bS h
  obtain ⟨x70901, h70902, h⟩ := bS h
  refine l_go (L' := []) hF rfl (s' := ⟨[(1, HV.fptr [HV.int .i64 p0.1, HV.int .i64 p0.2.1, slE eFromLabelTo p0.2.2] 0), (4, HV.int .i64 a3)], []⟩) ?_ (le_q rfl rfl)
  have g7_22 : ∀ (v71101 : Nat) (v71201 : Nat), F [0, 1, 2, 3, 4, 5, 6, 7, 8, 9, 10, 11, 12, 13, 14] ⟨[(1, HV.fptr [HV.int .i64 p0.1, HV.int .i64 p0.2.1, slE eFromLabelTo p0.2.2] 0), (4, HV.int .i64 a3), (5, HV.ptr 22005 v71101 0), (6, HV.ptr 22006 v71201 0)], [(22005, v71101, .arr 3 49 [HV.int .i64 x70401.1, HV.int .i64 x70401.2.1, HV.int .i64 x70401.2.2]), (22006, v71201, .arr 3 49 [HV.int .i64 x70901.1, HV.int .i64 x70901.2.1, HV.int .i64 x70901.2.2])]⟩ := by
   intro v71101 v71201
   refine l_done hF rfl rfl (hK _ (AW.to (to_le (s' := ⟨[(1, HV.fptr [HV.int .i64 p0.1, HV.int .i64 p0.2.1, slE eFromLabelTo p0.2.2] 0), (4, HV.int .i64 a3), (5, HV.ptr 22005 v71101 0), (6, HV.ptr 22006 v71201 0)], [(22005, v71101, .arr 3 49 [HV.int .i64 x70401.1, HV.int .i64 x70401.2.1, HV.int .i64 x70401.2.2]), (22006, v71201, .arr 3 49 [HV.int .i64 x70901.1, HV.int .i64 x70901.2.1, HV.int .i64 x70901.2.2])]⟩) (le_q rfl rfl) ?_)))
   first | clear hF F hK K | clear hK K
   refine AW.seqJ h (S := Bool) (V := Unit) (fun a v => ⟨[(1, HV.fptr [HV.int .i64 p0.1, HV.int .i64 p0.2.1, slE eFromLabelTo p0.2.2] 0), (4, HV.int .i64 a3), (39, HV.bool a)], []⟩) (fun a8 w9 h => ?_) (fun k10 h => ?_)
   ·refine AW.cond rfl (fun hc => ?_) (fun hc => ?_)
    ·have h := ifT hc h
     refine AW.rgs rfl fun K hK => ?_
     refine mv rfl rfl ?_
     refine mv rfl rfl ?_
     refine b_fin hK (s' := ⟨[(2, HV.bool false), (3, HV.int .i64 0)], []⟩) (le_q rfl rfl) ?_
     first | clear hF F hK K | clear hK K
     have h := hr6 _ h
     refine AW.ret ?_
     have h := Option.some.inj h
     subst h
     exact ret_pure (hs := [HV.bool false, HV.int .i64 0]) (q := HV.tup [HV.bool false, HV.int .i64 0]) (.inr rfl) (resT rfl (resT rfl rfl)) rfl ⟨trivial, trivial, trivial⟩
    have h := ifF (bF' hc) h
    refine AW.skip ?_
    refine AW.rg rfl fun K hK => ?_
    refine mv rfl rfl ?_
    refine bv rfl (v_bin rfl rfl b_add) ?_
    refine mv rfl rfl ?_
    refine b_nil (hK _ ?_)
    first | clear hF F hK K | clear hK K
    exact to_le (s' := ⟨[(1, HV.fptr [HV.int .i64 p0.1, HV.int .i64 p0.2.1, slE eFromLabelTo p0.2.2] 0), (4, HV.int .i64 (IntKind.wrap .i64 (a3 + 1)))], []⟩) (AS.le_of ⟨rfl, rfl, trivial⟩ trivial) ⟨IntKind.wrap .i64 (a3 + 1), (), h, rfl⟩
   refine AW.rg rfl fun K hK => ?_
   refine bv rfl (v_fieldAddrP fo49_0 rfl rfl) ?_
   refine bv rfl (v_loadP ty3 rfl rfl (l_lit rfl rfl)) ?_
   refine bv rfl (v_fieldAddrP fo49_0 rfl rfl) ?_
   refine bv rfl (v_loadP ty3 rfl rfl (l_lit rfl rfl)) ?_
   refine bv rfl (v_bin rfl rfl b_eql) ?_
   refine mv rfl rfl ?_
   by_cases hg11 : x70401.1 = x70901.1
   ·have h := ifT hg11 h
    refine b_T rfl rfl rfl rfl (decide_eq_true hg11) (o_val rfl (v_fieldAddrP fo49_1 rfl rfl) ?_)
    refine b_T rfl rfl rfl rfl rfl (o_val rfl (v_loadP ty3 rfl rfl (l_lit rfl rfl)) ?_)
    refine b_T rfl rfl rfl rfl rfl (o_val rfl (v_fieldAddrP fo49_1 rfl rfl) ?_)
    refine b_T rfl rfl rfl rfl rfl (o_val rfl (v_loadP ty3 rfl rfl (l_lit rfl rfl)) ?_)
    refine b_T rfl rfl rfl rfl rfl (o_val rfl (v_bin rfl rfl b_eql) ?_)
    refine bv rfl (v_pickT rfl rfl rfl) ?_
    refine b_nil (hK _ ?_)
    first | clear hF F hK K | clear hK K
    exact to_le (s' := ⟨[(1, HV.fptr [HV.int .i64 p0.1, HV.int .i64 p0.2.1, slE eFromLabelTo p0.2.2] 0), (4, HV.int .i64 a3), (39, HV.bool (decide (x70401.2.1 = x70901.2.1)))], []⟩) (AS.le_of ⟨rfl, rfl, rfl, trivial⟩ trivial) ⟨decide (x70401.2.1 = x70901.2.1), (), h, rfl⟩
   have h := ifF hg11 h
   refine b_F rfl rfl rfl rfl rfl (decide_eq_false hg11) ?_
   refine b_F rfl rfl rfl rfl rfl rfl ?_
   refine b_F rfl rfl rfl rfl rfl rfl ?_
   refine b_F rfl rfl rfl rfl rfl rfl ?_
   refine b_F rfl rfl rfl rfl rfl rfl ?_
   refine bv rfl (v_pickF rfl rfl rfl) ?_
   refine b_nil (hK _ ?_)
   first | clear hF F hK K | clear hK K
   exact to_le (s' := ⟨[(1, HV.fptr [HV.int .i64 p0.1, HV.int .i64 p0.2.1, slE eFromLabelTo p0.2.2] 0), (4, HV.int .i64 a3), (39, HV.bool false)], []⟩) (AS.le_of ⟨rfl, rfl, rfl, trivial⟩ trivial) ⟨false, (), h, rfl⟩
  have g7_21 : ∀ (v71101 : Nat) (v71201 : Nat), F [0, 1, 2, 3, 4, 5, 6, 7, 8, 9, 10, 11, 12, 13] ⟨[(1, HV.fptr [HV.int .i64 p0.1, HV.int .i64 p0.2.1, slE eFromLabelTo p0.2.2] 0), (4, HV.int .i64 a3), (5, HV.ptr 22005 v71101 0), (6, HV.ptr 22006 v71201 0), (27, HV.agg [HV.int .i64 x70901.1, HV.int .i64 x70901.2.1, HV.int .i64 x70901.2.2])], [(22005, v71101, .arr 3 49 [HV.int .i64 x70401.1, HV.int .i64 x70401.2.1, HV.int .i64 x70401.2.2]), (22006, v71201, .arr 3 49 [HV.int .i64 0, HV.int .i64 0, HV.int .i64 0])]⟩ := by
   intro v71101 v71201
   refine l_step hF rfl [14] rfl rfl ⟨?_, trivial⟩
   ·refine l_op rfl rfl rfl (o_store (cs := [HV.int .i64 x70901.1, HV.int .i64 x70901.2.1, HV.int .i64 x70901.2.2]) (zs := [HV.int .i64 x70901.1, HV.int .i64 x70901.2.1, HV.int .i64 x70901.2.2]) rfl rfl rfl ty49 rfl rfl rfl rfl rfl ?_)
    exact b_nil (l_go hF rfl (g7_22 v71101 v71201) (le_q rfl rfl))
  have g7_20 : ∀ (v71101 : Nat) (v71201 : Nat), F [0, 1, 2, 3, 4, 5, 6, 7, 8, 9, 10, 11, 12] ⟨[(1, HV.fptr [HV.int .i64 p0.1, HV.int .i64 p0.2.1, slE eFromLabelTo p0.2.2] 0), (4, HV.int .i64 a3), (5, HV.ptr 22005 v71101 0), (6, HV.ptr 22006 v71201 0), (22, HV.agg [HV.int .i64 x70401.1, HV.int .i64 x70401.2.1, HV.int .i64 x70401.2.2]), (27, HV.agg [HV.int .i64 x70901.1, HV.int .i64 x70901.2.1, HV.int .i64 x70901.2.2])], [(22005, v71101, .arr 3 49 [HV.int .i64 0, HV.int .i64 0, HV.int .i64 0]), (22006, v71201, .arr 3 49 [HV.int .i64 0, HV.int .i64 0, HV.int .i64 0])]⟩ := by
   intro v71101 v71201
   refine l_step hF rfl [13] rfl rfl ⟨?_, trivial⟩
   ·refine l_op rfl rfl rfl (o_store (cs := [HV.int .i64 x70401.1, HV.int .i64 x70401.2.1, HV.int .i64 x70401.2.2]) (zs := [HV.int .i64 x70401.1, HV.int .i64 x70401.2.1, HV.int .i64 x70401.2.2]) rfl rfl rfl ty49 rfl rfl rfl rfl rfl ?_)
    exact b_nil (l_go hF rfl (g7_21 v71101 v71201) (le_q rfl rfl))
  have g7_25 : ∀ (v71101 : Nat) (v71201 : Nat), F [0, 1, 2, 3, 4, 5, 6, 7, 8, 9, 11, 12, 13] ⟨[(1, HV.fptr [HV.int .i64 p0.1, HV.int .i64 p0.2.1, slE eFromLabelTo p0.2.2] 0), (4, HV.int .i64 a3), (5, HV.ptr 22005 v71101 0), (6, HV.ptr 22006 v71201 0), (26, HV.fptr (eFromLabelTo.E p0.2.2) ((a3).toNat * eFromLabelTo.k))], [(22005, v71101, .arr 3 49 [HV.int .i64 x70401.1, HV.int .i64 x70401.2.1, HV.int .i64 x70401.2.2]), (22006, v71201, .arr 3 49 [HV.int .i64 0, HV.int .i64 0, HV.int .i64 0])]⟩ := by
   intro v71101 v71201
   refine l_step hF rfl [10] rfl rfl ⟨?_, trivial⟩
   ·refine l_op rfl rfl rfl (o_val rfl (v_loadF ty49 rfl (l_agg eFromLabelTo h70902 rfl rfl)) ?_)
    exact b_nil (l_go hF rfl (g7_21 v71101 v71201) (le_q rfl rfl))
  have g7_19 : ∀ (v71101 : Nat) (v71201 : Nat), F [0, 1, 2, 3, 4, 6, 7, 8, 9, 10, 11, 12] ⟨[(1, HV.fptr [HV.int .i64 p0.1, HV.int .i64 p0.2.1, slE eFromLabelTo p0.2.2] 0), (4, HV.int .i64 a3), (5, HV.ptr 22005 v71101 0), (6, HV.ptr 22006 v71201 0), (21, HV.fptr (eFromLabelTo.E p0.2.2) ((IntKind.wrap .i64 (a3 - 1)).toNat * eFromLabelTo.k)), (27, HV.agg [HV.int .i64 x70901.1, HV.int .i64 x70901.2.1, HV.int .i64 x70901.2.2])], [(22005, v71101, .arr 3 49 [HV.int .i64 0, HV.int .i64 0, HV.int .i64 0]), (22006, v71201, .arr 3 49 [HV.int .i64 0, HV.int .i64 0, HV.int .i64 0])]⟩ := by
   intro v71101 v71201
   refine l_step hF rfl [5] rfl rfl ⟨?_, trivial⟩
   ·refine l_op rfl rfl rfl (o_val rfl (v_loadF ty49 rfl (l_agg eFromLabelTo h70402 rfl rfl)) ?_)
    exact b_nil (l_go hF rfl (g7_20 v71101 v71201) (le_q rfl rfl))
  have g7_24 : ∀ (v71101 : Nat) (v71201 : Nat), F [0, 1, 2, 3, 4, 5, 6, 7, 8, 9, 11, 12] ⟨[(1, HV.fptr [HV.int .i64 p0.1, HV.int .i64 p0.2.1, slE eFromLabelTo p0.2.2] 0), (4, HV.int .i64 a3), (5, HV.ptr 22005 v71101 0), (6, HV.ptr 22006 v71201 0), (22, HV.agg [HV.int .i64 x70401.1, HV.int .i64 x70401.2.1, HV.int .i64 x70401.2.2]), (26, HV.fptr (eFromLabelTo.E p0.2.2) ((a3).toNat * eFromLabelTo.k))], [(22005, v71101, .arr 3 49 [HV.int .i64 0, HV.int .i64 0, HV.int .i64 0]), (22006, v71201, .arr 3 49 [HV.int .i64 0, HV.int .i64 0, HV.int .i64 0])]⟩ := by
   intro v71101 v71201
   refine l_step hF rfl [10, 13] rfl rfl ⟨?_, ?_, trivial⟩
   ·refine l_op rfl rfl rfl (o_val rfl (v_loadF ty49 rfl (l_agg eFromLabelTo h70902 rfl rfl)) ?_)
    exact b_nil (l_go hF rfl (g7_20 v71101 v71201) (le_q rfl rfl))
   ·refine l_op rfl rfl rfl (o_store (cs := [HV.int .i64 x70401.1, HV.int .i64 x70401.2.1, HV.int .i64 x70401.2.2]) (zs := [HV.int .i64 x70401.1, HV.int .i64 x70401.2.1, HV.int .i64 x70401.2.2]) rfl rfl rfl ty49 rfl rfl rfl rfl rfl ?_)
    exact b_nil (l_go hF rfl (g7_25 v71101 v71201) (le_q rfl rfl))
  have g7_31 : ∀ (v71101 : Nat) (v71201 : Nat), F [0, 1, 2, 3, 4, 5, 6, 7, 8, 11, 12, 13] ⟨[(1, HV.fptr [HV.int .i64 p0.1, HV.int .i64 p0.2.1, slE eFromLabelTo p0.2.2] 0), (4, HV.int .i64 a3), (5, HV.ptr 22005 v71101 0), (6, HV.ptr 22006 v71201 0), (24, slE eFromLabelTo p0.2.2), (25, HV.int .i64 a3)], [(22005, v71101, .arr 3 49 [HV.int .i64 x70401.1, HV.int .i64 x70401.2.1, HV.int .i64 x70401.2.2]), (22006, v71201, .arr 3 49 [HV.int .i64 0, HV.int .i64 0, HV.int .i64 0])]⟩ := by
   intro v71101 v71201
   refine l_take (i := 9) hF rfl rfl rfl (v_idxF ty22 es22 rfl rfl (idx_lt h70902)) ?_
   exact l_go hF rfl (g7_25 v71101 v71201) (le_q rfl rfl)
  have g7_37 : ∀ (v71201 : Nat), F [0, 1, 2, 3, 4, 5, 6, 7, 8, 9, 10, 12] ⟨[(1, HV.fptr [HV.int .i64 p0.1, HV.int .i64 p0.2.1, slE eFromLabelTo p0.2.2] 0), (4, HV.int .i64 a3), (6, HV.ptr 22006 v71201 0), (22, HV.agg [HV.int .i64 x70401.1, HV.int .i64 x70401.2.1, HV.int .i64 x70401.2.2]), (27, HV.agg [HV.int .i64 x70901.1, HV.int .i64 x70901.2.1, HV.int .i64 x70901.2.2])], [(22006, v71201, .arr 3 49 [HV.int .i64 0, HV.int .i64 0, HV.int .i64 0])]⟩ := by
   intro v71201
   refine l_step hF rfl [11] rfl rfl ⟨?_, trivial⟩
   ·refine l_op rfl rfl rfl (o_alloc (fid := 22) (zs := [HV.int .i64 0, HV.int .i64 0, HV.int .i64 0]) 22005 rfl rfl ty49 rfl (fun v71101 => ?_))
    exact b_nil (l_go hF rfl (g7_20 v71101 v71201) (le_q rfl rfl))
  have g7_51 : ∀ (v71101 : Nat), F [0, 1, 2, 3, 4, 5, 6, 7, 8, 9, 10, 11] ⟨[(1, HV.fptr [HV.int .i64 p0.1, HV.int .i64 p0.2.1, slE eFromLabelTo p0.2.2] 0), (4, HV.int .i64 a3), (5, HV.ptr 22005 v71101 0), (22, HV.agg [HV.int .i64 x70401.1, HV.int .i64 x70401.2.1, HV.int .i64 x70401.2.2]), (27, HV.agg [HV.int .i64 x70901.1, HV.int .i64 x70901.2.1, HV.int .i64 x70901.2.2])], [(22005, v71101, .arr 3 49 [HV.int .i64 0, HV.int .i64 0, HV.int .i64 0])]⟩ := by
   intro v71101
   refine l_step hF rfl [12] rfl rfl ⟨?_, trivial⟩
   ·refine l_op rfl rfl rfl (o_alloc (fid := 22) (zs := [HV.int .i64 0, HV.int .i64 0, HV.int .i64 0]) 22006 rfl rfl ty49 rfl (fun v71201 => ?_))
    exact b_nil (l_go hF rfl (g7_20 v71101 v71201) (le_q rfl rfl))
  have g7_18 : ∀ (v71101 : Nat) (v71201 : Nat), F [0, 1, 2, 3, 6, 7, 8, 9, 10, 11, 12] ⟨[(1, HV.fptr [HV.int .i64 p0.1, HV.int .i64 p0.2.1, slE eFromLabelTo p0.2.2] 0), (4, HV.int .i64 a3), (5, HV.ptr 22005 v71101 0), (6, HV.ptr 22006 v71201 0), (18, slE eFromLabelTo p0.2.2), (20, HV.int .i64 (IntKind.wrap .i64 (a3 - 1))), (27, HV.agg [HV.int .i64 x70901.1, HV.int .i64 x70901.2.1, HV.int .i64 x70901.2.2])], [(22005, v71101, .arr 3 49 [HV.int .i64 0, HV.int .i64 0, HV.int .i64 0]), (22006, v71201, .arr 3 49 [HV.int .i64 0, HV.int .i64 0, HV.int .i64 0])]⟩ := by
   intro v71101 v71201
   refine l_take (i := 4) hF rfl rfl rfl (v_idxF ty22 es22 rfl rfl (idx_lt h70402)) ?_
   exact l_go hF rfl (g7_19 v71101 v71201) (le_q rfl rfl)
  have g7_23 : ∀ (v71101 : Nat) (v71201 : Nat), F [0, 1, 2, 3, 4, 6, 7, 8, 9, 11, 12] ⟨[(1, HV.fptr [HV.int .i64 p0.1, HV.int .i64 p0.2.1, slE eFromLabelTo p0.2.2] 0), (4, HV.int .i64 a3), (5, HV.ptr 22005 v71101 0), (6, HV.ptr 22006 v71201 0), (21, HV.fptr (eFromLabelTo.E p0.2.2) ((IntKind.wrap .i64 (a3 - 1)).toNat * eFromLabelTo.k)), (26, HV.fptr (eFromLabelTo.E p0.2.2) ((a3).toNat * eFromLabelTo.k))], [(22005, v71101, .arr 3 49 [HV.int .i64 0, HV.int .i64 0, HV.int .i64 0]), (22006, v71201, .arr 3 49 [HV.int .i64 0, HV.int .i64 0, HV.int .i64 0])]⟩ := by
   intro v71101 v71201
   refine l_step hF rfl [5, 10] rfl rfl ⟨?_, ?_, trivial⟩
   ·refine l_op rfl rfl rfl (o_val rfl (v_loadF ty49 rfl (l_agg eFromLabelTo h70402 rfl rfl)) ?_)
    exact b_nil (l_go hF rfl (g7_24 v71101 v71201) (le_q rfl rfl))
   ·refine l_op rfl rfl rfl (o_val rfl (v_loadF ty49 rfl (l_agg eFromLabelTo h70902 rfl rfl)) ?_)
    exact b_nil (l_go hF rfl (g7_19 v71101 v71201) (le_q rfl rfl))
  have g7_29 : ∀ (v71101 : Nat) (v71201 : Nat), F [0, 1, 2, 3, 4, 5, 6, 7, 8, 11, 12] ⟨[(1, HV.fptr [HV.int .i64 p0.1, HV.int .i64 p0.2.1, slE eFromLabelTo p0.2.2] 0), (4, HV.int .i64 a3), (5, HV.ptr 22005 v71101 0), (6, HV.ptr 22006 v71201 0), (22, HV.agg [HV.int .i64 x70401.1, HV.int .i64 x70401.2.1, HV.int .i64 x70401.2.2]), (24, slE eFromLabelTo p0.2.2), (25, HV.int .i64 a3)], [(22005, v71101, .arr 3 49 [HV.int .i64 0, HV.int .i64 0, HV.int .i64 0]), (22006, v71201, .arr 3 49 [HV.int .i64 0, HV.int .i64 0, HV.int .i64 0])]⟩ := by
   intro v71101 v71201
   refine l_take (i := 9) hF rfl rfl rfl (v_idxF ty22 es22 rfl rfl (idx_lt h70902)) ?_
   exact l_go hF rfl (g7_24 v71101 v71201) (le_q rfl rfl)
  have g7_30 : ∀ (v71101 : Nat) (v71201 : Nat), F [0, 1, 2, 3, 4, 5, 6, 8, 11, 12, 13] ⟨[(1, HV.fptr [HV.int .i64 p0.1, HV.int .i64 p0.2.1, slE eFromLabelTo p0.2.2] 0), (4, HV.int .i64 a3), (5, HV.ptr 22005 v71101 0), (6, HV.ptr 22006 v71201 0), (23, HV.fptr [HV.int .i64 p0.1, HV.int .i64 p0.2.1, slE eFromLabelTo p0.2.2] 2), (25, HV.int .i64 a3)], [(22005, v71101, .arr 3 49 [HV.int .i64 x70401.1, HV.int .i64 x70401.2.1, HV.int .i64 x70401.2.2]), (22006, v71201, .arr 3 49 [HV.int .i64 0, HV.int .i64 0, HV.int .i64 0])]⟩ := by
   intro v71101 v71201
   refine l_step hF rfl [7] rfl rfl ⟨?_, trivial⟩
   ·refine l_op rfl rfl rfl (o_val rfl (v_loadF ty22 rfl (l_lit rfl rfl)) ?_)
    exact b_nil (l_go hF rfl (g7_31 v71101 v71201) (le_q rfl rfl))
  have g7_36 : ∀ (v71201 : Nat), F [0, 1, 2, 3, 4, 6, 7, 8, 9, 10, 12] ⟨[(1, HV.fptr [HV.int .i64 p0.1, HV.int .i64 p0.2.1, slE eFromLabelTo p0.2.2] 0), (4, HV.int .i64 a3), (6, HV.ptr 22006 v71201 0), (21, HV.fptr (eFromLabelTo.E p0.2.2) ((IntKind.wrap .i64 (a3 - 1)).toNat * eFromLabelTo.k)), (27, HV.agg [HV.int .i64 x70901.1, HV.int .i64 x70901.2.1, HV.int .i64 x70901.2.2])], [(22006, v71201, .arr 3 49 [HV.int .i64 0, HV.int .i64 0, HV.int .i64 0])]⟩ := by
   intro v71201
   refine l_step hF rfl [5, 11] rfl rfl ⟨?_, ?_, trivial⟩
   ·refine l_op rfl rfl rfl (o_val rfl (v_loadF ty49 rfl (l_agg eFromLabelTo h70402 rfl rfl)) ?_)
    exact b_nil (l_go hF rfl (g7_37 v71201) (le_q rfl rfl))
   ·refine l_op rfl rfl rfl (o_alloc (fid := 22) (zs := [HV.int .i64 0, HV.int .i64 0, HV.int .i64 0]) 22005 rfl rfl ty49 rfl (fun v71101 => ?_))
    exact b_nil (l_go hF rfl (g7_19 v71101 v71201) (le_q rfl rfl))
  have g7_39 : ∀ (v71201 : Nat), F [0, 1, 2, 3, 4, 5, 6, 7, 8, 9, 12] ⟨[(1, HV.fptr [HV.int .i64 p0.1, HV.int .i64 p0.2.1, slE eFromLabelTo p0.2.2] 0), (4, HV.int .i64 a3), (6, HV.ptr 22006 v71201 0), (22, HV.agg [HV.int .i64 x70401.1, HV.int .i64 x70401.2.1, HV.int .i64 x70401.2.2]), (26, HV.fptr (eFromLabelTo.E p0.2.2) ((a3).toNat * eFromLabelTo.k))], [(22006, v71201, .arr 3 49 [HV.int .i64 0, HV.int .i64 0, HV.int .i64 0])]⟩ := by
   intro v71201
   refine l_step hF rfl [10, 11] rfl rfl ⟨?_, ?_, trivial⟩
   ·refine l_op rfl rfl rfl (o_val rfl (v_loadF ty49 rfl (l_agg eFromLabelTo h70902 rfl rfl)) ?_)
    exact b_nil (l_go hF rfl (g7_37 v71201) (le_q rfl rfl))
   ·refine l_op rfl rfl rfl (o_alloc (fid := 22) (zs := [HV.int .i64 0, HV.int .i64 0, HV.int .i64 0]) 22005 rfl rfl ty49 rfl (fun v71101 => ?_))
    exact b_nil (l_go hF rfl (g7_24 v71101 v71201) (le_q rfl rfl))
  have g7_50 : ∀ (v71101 : Nat), F [0, 1, 2, 3, 4, 6, 7, 8, 9, 10, 11] ⟨[(1, HV.fptr [HV.int .i64 p0.1, HV.int .i64 p0.2.1, slE eFromLabelTo p0.2.2] 0), (4, HV.int .i64 a3), (5, HV.ptr 22005 v71101 0), (21, HV.fptr (eFromLabelTo.E p0.2.2) ((IntKind.wrap .i64 (a3 - 1)).toNat * eFromLabelTo.k)), (27, HV.agg [HV.int .i64 x70901.1, HV.int .i64 x70901.2.1, HV.int .i64 x70901.2.2])], [(22005, v71101, .arr 3 49 [HV.int .i64 0, HV.int .i64 0, HV.int .i64 0])]⟩ := by
   intro v71101
   refine l_step hF rfl [5, 12] rfl rfl ⟨?_, ?_, trivial⟩
   ·refine l_op rfl rfl rfl (o_val rfl (v_loadF ty49 rfl (l_agg eFromLabelTo h70402 rfl rfl)) ?_)
    exact b_nil (l_go hF rfl (g7_51 v71101) (le_q rfl rfl))
   ·refine l_op rfl rfl rfl (o_alloc (fid := 22) (zs := [HV.int .i64 0, HV.int .i64 0, HV.int .i64 0]) 22006 rfl rfl ty49 rfl (fun v71201 => ?_))
    exact b_nil (l_go hF rfl (g7_19 v71101 v71201) (le_q rfl rfl))
  have g7_53 : ∀ (v71101 : Nat), F [0, 1, 2, 3, 4, 5, 6, 7, 8, 9, 11] ⟨[(1, HV.fptr [HV.int .i64 p0.1, HV.int .i64 p0.2.1, slE eFromLabelTo p0.2.2] 0), (4, HV.int .i64 a3), (5, HV.ptr 22005 v71101 0), (22, HV.agg [HV.int .i64 x70401.1, HV.int .i64 x70401.2.1, HV.int .i64 x70401.2.2]), (26, HV.fptr (eFromLabelTo.E p0.2.2) ((a3).toNat * eFromLabelTo.k))], [(22005, v71101, .arr 3 49 [HV.int .i64 0, HV.int .i64 0, HV.int .i64 0])]⟩ := by
   intro v71101
   refine l_step hF rfl [10, 12] rfl rfl ⟨?_, ?_, trivial⟩
   ·refine l_op rfl rfl rfl (o_val rfl (v_loadF ty49 rfl (l_agg eFromLabelTo h70902 rfl rfl)) ?_)
    exact b_nil (l_go hF rfl (g7_51 v71101) (le_q rfl rfl))
   ·refine l_op rfl rfl rfl (o_alloc (fid := 22) (zs := [HV.int .i64 0, HV.int .i64 0, HV.int .i64 0]) 22006 rfl rfl ty49 rfl (fun v71201 => ?_))
    exact b_nil (l_go hF rfl (g7_24 v71101 v71201) (le_q rfl rfl))
  have g7_63 : F [0, 1, 2, 3, 4, 5, 6, 7, 8, 9, 10] ⟨[(1, HV.fptr [HV.int .i64 p0.1, HV.int .i64 p0.2.1, slE eFromLabelTo p0.2.2] 0), (4, HV.int .i64 a3), (22, HV.agg [HV.int .i64 x70401.1, HV.int .i64 x70401.2.1, HV.int .i64 x70401.2.2]), (27, HV.agg [HV.int .i64 x70901.1, HV.int .i64 x70901.2.1, HV.int .i64 x70901.2.2])], []⟩ := by
   refine l_step hF rfl [11, 12] rfl rfl ⟨?_, ?_, trivial⟩
   ·refine l_op rfl rfl rfl (o_alloc (fid := 22) (zs := [HV.int .i64 0, HV.int .i64 0, HV.int .i64 0]) 22005 rfl rfl ty49 rfl (fun v71101 => ?_))
    exact b_nil (l_go hF rfl (g7_51 v71101) (le_q rfl rfl))
   ·refine l_op rfl rfl rfl (o_alloc (fid := 22) (zs := [HV.int .i64 0, HV.int .i64 0, HV.int .i64 0]) 22006 rfl rfl ty49 rfl (fun v71201 => ?_))
    exact b_nil (l_go hF rfl (g7_37 v71201) (le_q rfl rfl))
  have g7_16 : ∀ (v71101 : Nat) (v71201 : Nat), F [0, 1, 2, 3, 6, 7, 8, 9, 11, 12] ⟨[(1, HV.fptr [HV.int .i64 p0.1, HV.int .i64 p0.2.1, slE eFromLabelTo p0.2.2] 0), (4, HV.int .i64 a3), (5, HV.ptr 22005 v71101 0), (6, HV.ptr 22006 v71201 0), (18, slE eFromLabelTo p0.2.2), (20, HV.int .i64 (IntKind.wrap .i64 (a3 - 1))), (26, HV.fptr (eFromLabelTo.E p0.2.2) ((a3).toNat * eFromLabelTo.k))], [(22005, v71101, .arr 3 49 [HV.int .i64 0, HV.int .i64 0, HV.int .i64 0]), (22006, v71201, .arr 3 49 [HV.int .i64 0, HV.int .i64 0, HV.int .i64 0])]⟩ := by
   intro v71101 v71201
   refine l_take (i := 4) hF rfl rfl rfl (v_idxF ty22 es22 rfl rfl (idx_lt h70402)) ?_
   exact l_go hF rfl (g7_23 v71101 v71201) (le_q rfl rfl)
  have g7_17 : ∀ (v71101 : Nat) (v71201 : Nat), F [0, 2, 3, 6, 7, 8, 9, 10, 11, 12] ⟨[(1, HV.fptr [HV.int .i64 p0.1, HV.int .i64 p0.2.1, slE eFromLabelTo p0.2.2] 0), (4, HV.int .i64 a3), (5, HV.ptr 22005 v71101 0), (6, HV.ptr 22006 v71201 0), (17, HV.fptr [HV.int .i64 p0.1, HV.int .i64 p0.2.1, slE eFromLabelTo p0.2.2] 2), (20, HV.int .i64 (IntKind.wrap .i64 (a3 - 1))), (27, HV.agg [HV.int .i64 x70901.1, HV.int .i64 x70901.2.1, HV.int .i64 x70901.2.2])], [(22005, v71101, .arr 3 49 [HV.int .i64 0, HV.int .i64 0, HV.int .i64 0]), (22006, v71201, .arr 3 49 [HV.int .i64 0, HV.int .i64 0, HV.int .i64 0])]⟩ := by
   intro v71101 v71201
   refine l_step hF rfl [1] rfl rfl ⟨?_, trivial⟩
   ·refine l_op rfl rfl rfl (o_val rfl (v_loadF ty22 rfl (l_lit rfl rfl)) ?_)
    exact b_nil (l_go hF rfl (g7_18 v71101 v71201) (le_q rfl rfl))
  have g7_27 : ∀ (v71101 : Nat) (v71201 : Nat), F [0, 1, 2, 3, 4, 5, 6, 8, 11, 12] ⟨[(1, HV.fptr [HV.int .i64 p0.1, HV.int .i64 p0.2.1, slE eFromLabelTo p0.2.2] 0), (4, HV.int .i64 a3), (5, HV.ptr 22005 v71101 0), (6, HV.ptr 22006 v71201 0), (22, HV.agg [HV.int .i64 x70401.1, HV.int .i64 x70401.2.1, HV.int .i64 x70401.2.2]), (23, HV.fptr [HV.int .i64 p0.1, HV.int .i64 p0.2.1, slE eFromLabelTo p0.2.2] 2), (25, HV.int .i64 a3)], [(22005, v71101, .arr 3 49 [HV.int .i64 0, HV.int .i64 0, HV.int .i64 0]), (22006, v71201, .arr 3 49 [HV.int .i64 0, HV.int .i64 0, HV.int .i64 0])]⟩ := by
   intro v71101 v71201
   refine l_step hF rfl [7, 13] rfl rfl ⟨?_, ?_, trivial⟩
   ·refine l_op rfl rfl rfl (o_val rfl (v_loadF ty22 rfl (l_lit rfl rfl)) ?_)
    exact b_nil (l_go hF rfl (g7_29 v71101 v71201) (le_q rfl rfl))
   ·refine l_op rfl rfl rfl (o_store (cs := [HV.int .i64 x70401.1, HV.int .i64 x70401.2.1, HV.int .i64 x70401.2.2]) (zs := [HV.int .i64 x70401.1, HV.int .i64 x70401.2.1, HV.int .i64 x70401.2.2]) rfl rfl rfl ty49 rfl rfl rfl rfl rfl ?_)
    exact b_nil (l_go hF rfl (g7_30 v71101 v71201) (le_q rfl rfl))
  have g7_28 : ∀ (v71101 : Nat) (v71201 : Nat), F [0, 1, 2, 3, 4, 6, 7, 8, 11, 12] ⟨[(1, HV.fptr [HV.int .i64 p0.1, HV.int .i64 p0.2.1, slE eFromLabelTo p0.2.2] 0), (4, HV.int .i64 a3), (5, HV.ptr 22005 v71101 0), (6, HV.ptr 22006 v71201 0), (21, HV.fptr (eFromLabelTo.E p0.2.2) ((IntKind.wrap .i64 (a3 - 1)).toNat * eFromLabelTo.k)), (24, slE eFromLabelTo p0.2.2), (25, HV.int .i64 a3)], [(22005, v71101, .arr 3 49 [HV.int .i64 0, HV.int .i64 0, HV.int .i64 0]), (22006, v71201, .arr 3 49 [HV.int .i64 0, HV.int .i64 0, HV.int .i64 0])]⟩ := by
   intro v71101 v71201
   refine l_take (i := 9) hF rfl rfl rfl (v_idxF ty22 es22 rfl rfl (idx_lt h70902)) ?_
   exact l_go hF rfl (g7_23 v71101 v71201) (le_q rfl rfl)
  have g7_35 : ∀ (v71201 : Nat), F [0, 1, 2, 3, 6, 7, 8, 9, 10, 12] ⟨[(1, HV.fptr [HV.int .i64 p0.1, HV.int .i64 p0.2.1, slE eFromLabelTo p0.2.2] 0), (4, HV.int .i64 a3), (6, HV.ptr 22006 v71201 0), (18, slE eFromLabelTo p0.2.2), (20, HV.int .i64 (IntKind.wrap .i64 (a3 - 1))), (27, HV.agg [HV.int .i64 x70901.1, HV.int .i64 x70901.2.1, HV.int .i64 x70901.2.2])], [(22006, v71201, .arr 3 49 [HV.int .i64 0, HV.int .i64 0, HV.int .i64 0])]⟩ := by
   intro v71201
   refine l_take (i := 4) hF rfl rfl rfl (v_idxF ty22 es22 rfl rfl (idx_lt h70402)) ?_
   exact l_go hF rfl (g7_36 v71201) (le_q rfl rfl)
  have g7_38 : ∀ (v71201 : Nat), F [0, 1, 2, 3, 4, 6, 7, 8, 9, 12] ⟨[(1, HV.fptr [HV.int .i64 p0.1, HV.int .i64 p0.2.1, slE eFromLabelTo p0.2.2] 0), (4, HV.int .i64 a3), (6, HV.ptr 22006 v71201 0), (21, HV.fptr (eFromLabelTo.E p0.2.2) ((IntKind.wrap .i64 (a3 - 1)).toNat * eFromLabelTo.k)), (26, HV.fptr (eFromLabelTo.E p0.2.2) ((a3).toNat * eFromLabelTo.k))], [(22006, v71201, .arr 3 49 [HV.int .i64 0, HV.int .i64 0, HV.int .i64 0])]⟩ := by
   intro v71201
   refine l_step hF rfl [5, 10, 11] rfl rfl ⟨?_, ?_, ?_, trivial⟩
   ·refine l_op rfl rfl rfl (o_val rfl (v_loadF ty49 rfl (l_agg eFromLabelTo h70402 rfl rfl)) ?_)
    exact b_nil (l_go hF rfl (g7_39 v71201) (le_q rfl rfl))
   ·refine l_op rfl rfl rfl (o_val rfl (v_loadF ty49 rfl (l_agg eFromLabelTo h70902 rfl rfl)) ?_)
    exact b_nil (l_go hF rfl (g7_36 v71201) (le_q rfl rfl))
   ·refine l_op rfl rfl rfl (o_alloc (fid := 22) (zs := [HV.int .i64 0, HV.int .i64 0, HV.int .i64 0]) 22005 rfl rfl ty49 rfl (fun v71101 => ?_))
    exact b_nil (l_go hF rfl (g7_23 v71101 v71201) (le_q rfl rfl))
  have g7_43 : ∀ (v71201 : Nat), F [0, 1, 2, 3, 4, 5, 6, 7, 8, 12] ⟨[(1, HV.fptr [HV.int .i64 p0.1, HV.int .i64 p0.2.1, slE eFromLabelTo p0.2.2] 0), (4, HV.int .i64 a3), (6, HV.ptr 22006 v71201 0), (22, HV.agg [HV.int .i64 x70401.1, HV.int .i64 x70401.2.1, HV.int .i64 x70401.2.2]), (24, slE eFromLabelTo p0.2.2), (25, HV.int .i64 a3)], [(22006, v71201, .arr 3 49 [HV.int .i64 0, HV.int .i64 0, HV.int .i64 0])]⟩ := by
   intro v71201
   refine l_take (i := 9) hF rfl rfl rfl (v_idxF ty22 es22 rfl rfl (idx_lt h70902)) ?_
   exact l_go hF rfl (g7_39 v71201) (le_q rfl rfl)
  have g7_49 : ∀ (v71101 : Nat), F [0, 1, 2, 3, 6, 7, 8, 9, 10, 11] ⟨[(1, HV.fptr [HV.int .i64 p0.1, HV.int .i64 p0.2.1, slE eFromLabelTo p0.2.2] 0), (4, HV.int .i64 a3), (5, HV.ptr 22005 v71101 0), (18, slE eFromLabelTo p0.2.2), (20, HV.int .i64 (IntKind.wrap .i64 (a3 - 1))), (27, HV.agg [HV.int .i64 x70901.1, HV.int .i64 x70901.2.1, HV.int .i64 x70901.2.2])], [(22005, v71101, .arr 3 49 [HV.int .i64 0, HV.int .i64 0, HV.int .i64 0])]⟩ := by
   intro v71101
   refine l_take (i := 4) hF rfl rfl rfl (v_idxF ty22 es22 rfl rfl (idx_lt h70402)) ?_
   exact l_go hF rfl (g7_50 v71101) (le_q rfl rfl)
  have g7_52 : ∀ (v71101 : Nat), F [0, 1, 2, 3, 4, 6, 7, 8, 9, 11] ⟨[(1, HV.fptr [HV.int .i64 p0.1, HV.int .i64 p0.2.1, slE eFromLabelTo p0.2.2] 0), (4, HV.int .i64 a3), (5, HV.ptr 22005 v71101 0), (21, HV.fptr (eFromLabelTo.E p0.2.2) ((IntKind.wrap .i64 (a3 - 1)).toNat * eFromLabelTo.k)), (26, HV.fptr (eFromLabelTo.E p0.2.2) ((a3).toNat * eFromLabelTo.k))], [(22005, v71101, .arr 3 49 [HV.int .i64 0, HV.int .i64 0, HV.int .i64 0])]⟩ := by
   intro v71101
   refine l_step hF rfl [5, 10, 12] rfl rfl ⟨?_, ?_, ?_, trivial⟩
   ·refine l_op rfl rfl rfl (o_val rfl (v_loadF ty49 rfl (l_agg eFromLabelTo h70402 rfl rfl)) ?_)
    exact b_nil (l_go hF rfl (g7_53 v71101) (le_q rfl rfl))
   ·refine l_op rfl rfl rfl (o_val rfl (v_loadF ty49 rfl (l_agg eFromLabelTo h70902 rfl rfl)) ?_)
    exact b_nil (l_go hF rfl (g7_50 v71101) (le_q rfl rfl))
   ·refine l_op rfl rfl rfl (o_alloc (fid := 22) (zs := [HV.int .i64 0, HV.int .i64 0, HV.int .i64 0]) 22006 rfl rfl ty49 rfl (fun v71201 => ?_))
    exact b_nil (l_go hF rfl (g7_23 v71101 v71201) (le_q rfl rfl))
  have g7_57 : ∀ (v71101 : Nat), F [0, 1, 2, 3, 4, 5, 6, 7, 8, 11] ⟨[(1, HV.fptr [HV.int .i64 p0.1, HV.int .i64 p0.2.1, slE eFromLabelTo p0.2.2] 0), (4, HV.int .i64 a3), (5, HV.ptr 22005 v71101 0), (22, HV.agg [HV.int .i64 x70401.1, HV.int .i64 x70401.2.1, HV.int .i64 x70401.2.2]), (24, slE eFromLabelTo p0.2.2), (25, HV.int .i64 a3)], [(22005, v71101, .arr 3 49 [HV.int .i64 0, HV.int .i64 0, HV.int .i64 0])]⟩ := by
   intro v71101
   refine l_take (i := 9) hF rfl rfl rfl (v_idxF ty22 es22 rfl rfl (idx_lt h70902)) ?_
   exact l_go hF rfl (g7_53 v71101) (le_q rfl rfl)
  have g7_62 : F [0, 1, 2, 3, 4, 6, 7, 8, 9, 10] ⟨[(1, HV.fptr [HV.int .i64 p0.1, HV.int .i64 p0.2.1, slE eFromLabelTo p0.2.2] 0), (4, HV.int .i64 a3), (21, HV.fptr (eFromLabelTo.E p0.2.2) ((IntKind.wrap .i64 (a3 - 1)).toNat * eFromLabelTo.k)), (27, HV.agg [HV.int .i64 x70901.1, HV.int .i64 x70901.2.1, HV.int .i64 x70901.2.2])], []⟩ := by
   refine l_step hF rfl [5, 11, 12] rfl rfl ⟨?_, ?_, ?_, trivial⟩
   ·refine l_op rfl rfl rfl (o_val rfl (v_loadF ty49 rfl (l_agg eFromLabelTo h70402 rfl rfl)) ?_)
    exact b_nil (l_go hF rfl (g7_63) (le_q rfl rfl))
   ·refine l_op rfl rfl rfl (o_alloc (fid := 22) (zs := [HV.int .i64 0, HV.int .i64 0, HV.int .i64 0]) 22005 rfl rfl ty49 rfl (fun v71101 => ?_))
    exact b_nil (l_go hF rfl (g7_50 v71101) (le_q rfl rfl))
   ·refine l_op rfl rfl rfl (o_alloc (fid := 22) (zs := [HV.int .i64 0, HV.int .i64 0, HV.int .i64 0]) 22006 rfl rfl ty49 rfl (fun v71201 => ?_))
    exact b_nil (l_go hF rfl (g7_36 v71201) (le_q rfl rfl))
  have g7_65 : F [0, 1, 2, 3, 4, 5, 6, 7, 8, 9] ⟨[(1, HV.fptr [HV.int .i64 p0.1, HV.int .i64 p0.2.1, slE eFromLabelTo p0.2.2] 0), (4, HV.int .i64 a3), (22, HV.agg [HV.int .i64 x70401.1, HV.int .i64 x70401.2.1, HV.int .i64 x70401.2.2]), (26, HV.fptr (eFromLabelTo.E p0.2.2) ((a3).toNat * eFromLabelTo.k))], []⟩ := by
   refine l_step hF rfl [10, 11, 12] rfl rfl ⟨?_, ?_, ?_, trivial⟩
   ·refine l_op rfl rfl rfl (o_val rfl (v_loadF ty49 rfl (l_agg eFromLabelTo h70902 rfl rfl)) ?_)
    exact b_nil (l_go hF rfl (g7_63) (le_q rfl rfl))
   ·refine l_op rfl rfl rfl (o_alloc (fid := 22) (zs := [HV.int .i64 0, HV.int .i64 0, HV.int .i64 0]) 22005 rfl rfl ty49 rfl (fun v71101 => ?_))
    exact b_nil (l_go hF rfl (g7_53 v71101) (le_q rfl rfl))
   ·refine l_op rfl rfl rfl (o_alloc (fid := 22) (zs := [HV.int .i64 0, HV.int .i64 0, HV.int .i64 0]) 22006 rfl rfl ty49 rfl (fun v71201 => ?_))
    exact b_nil (l_go hF rfl (g7_39 v71201) (le_q rfl rfl))
  have g7_15 : ∀ (v71101 : Nat) (v71201 : Nat), F [0, 2, 3, 6, 7, 8, 9, 11, 12] ⟨[(1, HV.fptr [HV.int .i64 p0.1, HV.int .i64 p0.2.1, slE eFromLabelTo p0.2.2] 0), (4, HV.int .i64 a3), (5, HV.ptr 22005 v71101 0), (6, HV.ptr 22006 v71201 0), (17, HV.fptr [HV.int .i64 p0.1, HV.int .i64 p0.2.1, slE eFromLabelTo p0.2.2] 2), (20, HV.int .i64 (IntKind.wrap .i64 (a3 - 1))), (26, HV.fptr (eFromLabelTo.E p0.2.2) ((a3).toNat * eFromLabelTo.k))], [(22005, v71101, .arr 3 49 [HV.int .i64 0, HV.int .i64 0, HV.int .i64 0]), (22006, v71201, .arr 3 49 [HV.int .i64 0, HV.int .i64 0, HV.int .i64 0])]⟩ := by
   intro v71101 v71201
   refine l_step hF rfl [1, 10] rfl rfl ⟨?_, ?_, trivial⟩
   ·refine l_op rfl rfl rfl (o_val rfl (v_loadF ty22 rfl (l_lit rfl rfl)) ?_)
    exact b_nil (l_go hF rfl (g7_16 v71101 v71201) (le_q rfl rfl))
   ·refine l_op rfl rfl rfl (o_val rfl (v_loadF ty49 rfl (l_agg eFromLabelTo h70902 rfl rfl)) ?_)
    exact b_nil (l_go hF rfl (g7_17 v71101 v71201) (le_q rfl rfl))
  have g7_26 : ∀ (v71101 : Nat) (v71201 : Nat), F [0, 1, 2, 3, 4, 6, 8, 11, 12] ⟨[(1, HV.fptr [HV.int .i64 p0.1, HV.int .i64 p0.2.1, slE eFromLabelTo p0.2.2] 0), (4, HV.int .i64 a3), (5, HV.ptr 22005 v71101 0), (6, HV.ptr 22006 v71201 0), (21, HV.fptr (eFromLabelTo.E p0.2.2) ((IntKind.wrap .i64 (a3 - 1)).toNat * eFromLabelTo.k)), (23, HV.fptr [HV.int .i64 p0.1, HV.int .i64 p0.2.1, slE eFromLabelTo p0.2.2] 2), (25, HV.int .i64 a3)], [(22005, v71101, .arr 3 49 [HV.int .i64 0, HV.int .i64 0, HV.int .i64 0]), (22006, v71201, .arr 3 49 [HV.int .i64 0, HV.int .i64 0, HV.int .i64 0])]⟩ := by
   intro v71101 v71201
   refine l_step hF rfl [5, 7] rfl rfl ⟨?_, ?_, trivial⟩
   ·refine l_op rfl rfl rfl (o_val rfl (v_loadF ty49 rfl (l_agg eFromLabelTo h70402 rfl rfl)) ?_)
    exact b_nil (l_go hF rfl (g7_27 v71101 v71201) (le_q rfl rfl))
   ·refine l_op rfl rfl rfl (o_val rfl (v_loadF ty22 rfl (l_lit rfl rfl)) ?_)
    exact b_nil (l_go hF rfl (g7_28 v71101 v71201) (le_q rfl rfl))
  have g7_33 : ∀ (v71201 : Nat), F [0, 1, 2, 3, 6, 7, 8, 9, 12] ⟨[(1, HV.fptr [HV.int .i64 p0.1, HV.int .i64 p0.2.1, slE eFromLabelTo p0.2.2] 0), (4, HV.int .i64 a3), (6, HV.ptr 22006 v71201 0), (18, slE eFromLabelTo p0.2.2), (20, HV.int .i64 (IntKind.wrap .i64 (a3 - 1))), (26, HV.fptr (eFromLabelTo.E p0.2.2) ((a3).toNat * eFromLabelTo.k))], [(22006, v71201, .arr 3 49 [HV.int .i64 0, HV.int .i64 0, HV.int .i64 0])]⟩ := by
   intro v71201
   refine l_take (i := 4) hF rfl rfl rfl (v_idxF ty22 es22 rfl rfl (idx_lt h70402)) ?_
   exact l_go hF rfl (g7_38 v71201) (le_q rfl rfl)
  have g7_34 : ∀ (v71201 : Nat), F [0, 2, 3, 6, 7, 8, 9, 10, 12] ⟨[(1, HV.fptr [HV.int .i64 p0.1, HV.int .i64 p0.2.1, slE eFromLabelTo p0.2.2] 0), (4, HV.int .i64 a3), (6, HV.ptr 22006 v71201 0), (17, HV.fptr [HV.int .i64 p0.1, HV.int .i64 p0.2.1, slE eFromLabelTo p0.2.2] 2), (20, HV.int .i64 (IntKind.wrap .i64 (a3 - 1))), (27, HV.agg [HV.int .i64 x70901.1, HV.int .i64 x70901.2.1, HV.int .i64 x70901.2.2])], [(22006, v71201, .arr 3 49 [HV.int .i64 0, HV.int .i64 0, HV.int .i64 0])]⟩ := by
   intro v71201
   refine l_step hF rfl [1, 11] rfl rfl ⟨?_, ?_, trivial⟩
   ·refine l_op rfl rfl rfl (o_val rfl (v_loadF ty22 rfl (l_lit rfl rfl)) ?_)
    exact b_nil (l_go hF rfl (g7_35 v71201) (le_q rfl rfl))
   ·refine l_op rfl rfl rfl (o_alloc (fid := 22) (zs := [HV.int .i64 0, HV.int .i64 0, HV.int .i64 0]) 22005 rfl rfl ty49 rfl (fun v71101 => ?_))
    exact b_nil (l_go hF rfl (g7_17 v71101 v71201) (le_q rfl rfl))
  have g7_41 : ∀ (v71201 : Nat), F [0, 1, 2, 3, 4, 5, 6, 8, 12] ⟨[(1, HV.fptr [HV.int .i64 p0.1, HV.int .i64 p0.2.1, slE eFromLabelTo p0.2.2] 0), (4, HV.int .i64 a3), (6, HV.ptr 22006 v71201 0), (22, HV.agg [HV.int .i64 x70401.1, HV.int .i64 x70401.2.1, HV.int .i64 x70401.2.2]), (23, HV.fptr [HV.int .i64 p0.1, HV.int .i64 p0.2.1, slE eFromLabelTo p0.2.2] 2), (25, HV.int .i64 a3)], [(22006, v71201, .arr 3 49 [HV.int .i64 0, HV.int .i64 0, HV.int .i64 0])]⟩ := by
   intro v71201
   refine l_step hF rfl [7, 11] rfl rfl ⟨?_, ?_, trivial⟩
   ·refine l_op rfl rfl rfl (o_val rfl (v_loadF ty22 rfl (l_lit rfl rfl)) ?_)
    exact b_nil (l_go hF rfl (g7_43 v71201) (le_q rfl rfl))
   ·refine l_op rfl rfl rfl (o_alloc (fid := 22) (zs := [HV.int .i64 0, HV.int .i64 0, HV.int .i64 0]) 22005 rfl rfl ty49 rfl (fun v71101 => ?_))
    exact b_nil (l_go hF rfl (g7_27 v71101 v71201) (le_q rfl rfl))
  have g7_42 : ∀ (v71201 : Nat), F [0, 1, 2, 3, 4, 6, 7, 8, 12] ⟨[(1, HV.fptr [HV.int .i64 p0.1, HV.int .i64 p0.2.1, slE eFromLabelTo p0.2.2] 0), (4, HV.int .i64 a3), (6, HV.ptr 22006 v71201 0), (21, HV.fptr (eFromLabelTo.E p0.2.2) ((IntKind.wrap .i64 (a3 - 1)).toNat * eFromLabelTo.k)), (24, slE eFromLabelTo p0.2.2), (25, HV.int .i64 a3)], [(22006, v71201, .arr 3 49 [HV.int .i64 0, HV.int .i64 0, HV.int .i64 0])]⟩ := by
   intro v71201
   refine l_take (i := 9) hF rfl rfl rfl (v_idxF ty22 es22 rfl rfl (idx_lt h70902)) ?_
   exact l_go hF rfl (g7_38 v71201) (le_q rfl rfl)
  have g7_47 : ∀ (v71101 : Nat), F [0, 1, 2, 3, 6, 7, 8, 9, 11] ⟨[(1, HV.fptr [HV.int .i64 p0.1, HV.int .i64 p0.2.1, slE eFromLabelTo p0.2.2] 0), (4, HV.int .i64 a3), (5, HV.ptr 22005 v71101 0), (18, slE eFromLabelTo p0.2.2), (20, HV.int .i64 (IntKind.wrap .i64 (a3 - 1))), (26, HV.fptr (eFromLabelTo.E p0.2.2) ((a3).toNat * eFromLabelTo.k))], [(22005, v71101, .arr 3 49 [HV.int .i64 0, HV.int .i64 0, HV.int .i64 0])]⟩ := by
   intro v71101
   refine l_take (i := 4) hF rfl rfl rfl (v_idxF ty22 es22 rfl rfl (idx_lt h70402)) ?_
   exact l_go hF rfl (g7_52 v71101) (le_q rfl rfl)
  have g7_48 : ∀ (v71101 : Nat), F [0, 2, 3, 6, 7, 8, 9, 10, 11] ⟨[(1, HV.fptr [HV.int .i64 p0.1, HV.int .i64 p0.2.1, slE eFromLabelTo p0.2.2] 0), (4, HV.int .i64 a3), (5, HV.ptr 22005 v71101 0), (17, HV.fptr [HV.int .i64 p0.1, HV.int .i64 p0.2.1, slE eFromLabelTo p0.2.2] 2), (20, HV.int .i64 (IntKind.wrap .i64 (a3 - 1))), (27, HV.agg [HV.int .i64 x70901.1, HV.int .i64 x70901.2.1, HV.int .i64 x70901.2.2])], [(22005, v71101, .arr 3 49 [HV.int .i64 0, HV.int .i64 0, HV.int .i64 0])]⟩ := by
   intro v71101
   refine l_step hF rfl [1, 12] rfl rfl ⟨?_, ?_, trivial⟩
   ·refine l_op rfl rfl rfl (o_val rfl (v_loadF ty22 rfl (l_lit rfl rfl)) ?_)
    exact b_nil (l_go hF rfl (g7_49 v71101) (le_q rfl rfl))
   ·refine l_op rfl rfl rfl (o_alloc (fid := 22) (zs := [HV.int .i64 0, HV.int .i64 0, HV.int .i64 0]) 22006 rfl rfl ty49 rfl (fun v71201 => ?_))
    exact b_nil (l_go hF rfl (g7_17 v71101 v71201) (le_q rfl rfl))
  have g7_55 : ∀ (v71101 : Nat), F [0, 1, 2, 3, 4, 5, 6, 8, 11] ⟨[(1, HV.fptr [HV.int .i64 p0.1, HV.int .i64 p0.2.1, slE eFromLabelTo p0.2.2] 0), (4, HV.int .i64 a3), (5, HV.ptr 22005 v71101 0), (22, HV.agg [HV.int .i64 x70401.1, HV.int .i64 x70401.2.1, HV.int .i64 x70401.2.2]), (23, HV.fptr [HV.int .i64 p0.1, HV.int .i64 p0.2.1, slE eFromLabelTo p0.2.2] 2), (25, HV.int .i64 a3)], [(22005, v71101, .arr 3 49 [HV.int .i64 0, HV.int .i64 0, HV.int .i64 0])]⟩ := by
   intro v71101
   refine l_step hF rfl [7, 12] rfl rfl ⟨?_, ?_, trivial⟩
   ·refine l_op rfl rfl rfl (o_val rfl (v_loadF ty22 rfl (l_lit rfl rfl)) ?_)
    exact b_nil (l_go hF rfl (g7_57 v71101) (le_q rfl rfl))
   ·refine l_op rfl rfl rfl (o_alloc (fid := 22) (zs := [HV.int .i64 0, HV.int .i64 0, HV.int .i64 0]) 22006 rfl rfl ty49 rfl (fun v71201 => ?_))
    exact b_nil (l_go hF rfl (g7_27 v71101 v71201) (le_q rfl rfl))
  have g7_56 : ∀ (v71101 : Nat), F [0, 1, 2, 3, 4, 6, 7, 8, 11] ⟨[(1, HV.fptr [HV.int .i64 p0.1, HV.int .i64 p0.2.1, slE eFromLabelTo p0.2.2] 0), (4, HV.int .i64 a3), (5, HV.ptr 22005 v71101 0), (21, HV.fptr (eFromLabelTo.E p0.2.2) ((IntKind.wrap .i64 (a3 - 1)).toNat * eFromLabelTo.k)), (24, slE eFromLabelTo p0.2.2), (25, HV.int .i64 a3)], [(22005, v71101, .arr 3 49 [HV.int .i64 0, HV.int .i64 0, HV.int .i64 0])]⟩ := by
   intro v71101
   refine l_take (i := 9) hF rfl rfl rfl (v_idxF ty22 es22 rfl rfl (idx_lt h70902)) ?_
   exact l_go hF rfl (g7_52 v71101) (le_q rfl rfl)
  have g7_61 : F [0, 1, 2, 3, 6, 7, 8, 9, 10] ⟨[(1, HV.fptr [HV.int .i64 p0.1, HV.int .i64 p0.2.1, slE eFromLabelTo p0.2.2] 0), (4, HV.int .i64 a3), (18, slE eFromLabelTo p0.2.2), (20, HV.int .i64 (IntKind.wrap .i64 (a3 - 1))), (27, HV.agg [HV.int .i64 x70901.1, HV.int .i64 x70901.2.1, HV.int .i64 x70901.2.2])], []⟩ := by
   refine l_take (i := 4) hF rfl rfl rfl (v_idxF ty22 es22 rfl rfl (idx_lt h70402)) ?_
   exact l_go hF rfl (g7_62) (le_q rfl rfl)
  have g7_64 : F [0, 1, 2, 3, 4, 6, 7, 8, 9] ⟨[(1, HV.fptr [HV.int .i64 p0.1, HV.int .i64 p0.2.1, slE eFromLabelTo p0.2.2] 0), (4, HV.int .i64 a3), (21, HV.fptr (eFromLabelTo.E p0.2.2) ((IntKind.wrap .i64 (a3 - 1)).toNat * eFromLabelTo.k)), (26, HV.fptr (eFromLabelTo.E p0.2.2) ((a3).toNat * eFromLabelTo.k))], []⟩ := by
   refine l_step hF rfl [5, 10, 11, 12] rfl rfl ⟨?_, ?_, ?_, ?_, trivial⟩
   ·refine l_op rfl rfl rfl (o_val rfl (v_loadF ty49 rfl (l_agg eFromLabelTo h70402 rfl rfl)) ?_)
    exact b_nil (l_go hF rfl (g7_65) (le_q rfl rfl))
   ·refine l_op rfl rfl rfl (o_val rfl (v_loadF ty49 rfl (l_agg eFromLabelTo h70902 rfl rfl)) ?_)
    exact b_nil (l_go hF rfl (g7_62) (le_q rfl rfl))
   ·refine l_op rfl rfl rfl (o_alloc (fid := 22) (zs := [HV.int .i64 0, HV.int .i64 0, HV.int .i64 0]) 22005 rfl rfl ty49 rfl (fun v71101 => ?_))
    exact b_nil (l_go hF rfl (g7_52 v71101) (le_q rfl rfl))
   ·refine l_op rfl rfl rfl (o_alloc (fid := 22) (zs := [HV.int .i64 0, HV.int .i64 0, HV.int .i64 0]) 22006 rfl rfl ty49 rfl (fun v71201 => ?_))
    exact b_nil (l_go hF rfl (g7_38 v71201) (le_q rfl rfl))
  have g7_69 : F [0, 1, 2, 3, 4, 5, 6, 7, 8] ⟨[(1, HV.fptr [HV.int .i64 p0.1, HV.int .i64 p0.2.1, slE eFromLabelTo p0.2.2] 0), (4, HV.int .i64 a3), (22, HV.agg [HV.int .i64 x70401.1, HV.int .i64 x70401.2.1, HV.int .i64 x70401.2.2]), (24, slE eFromLabelTo p0.2.2), (25, HV.int .i64 a3)], []⟩ := by
   refine l_take (i := 9) hF rfl rfl rfl (v_idxF ty22 es22 rfl rfl (idx_lt h70902)) ?_
   exact l_go hF rfl (g7_65) (le_q rfl rfl)
  have g7_13 : ∀ (v71101 : Nat) (v71201 : Nat), F [0, 1, 2, 3, 6, 8, 11, 12] ⟨[(1, HV.fptr [HV.int .i64 p0.1, HV.int .i64 p0.2.1, slE eFromLabelTo p0.2.2] 0), (4, HV.int .i64 a3), (5, HV.ptr 22005 v71101 0), (6, HV.ptr 22006 v71201 0), (18, slE eFromLabelTo p0.2.2), (20, HV.int .i64 (IntKind.wrap .i64 (a3 - 1))), (23, HV.fptr [HV.int .i64 p0.1, HV.int .i64 p0.2.1, slE eFromLabelTo p0.2.2] 2), (25, HV.int .i64 a3)], [(22005, v71101, .arr 3 49 [HV.int .i64 0, HV.int .i64 0, HV.int .i64 0]), (22006, v71201, .arr 3 49 [HV.int .i64 0, HV.int .i64 0, HV.int .i64 0])]⟩ := by
   intro v71101 v71201
   refine l_take (i := 4) hF rfl rfl rfl (v_idxF ty22 es22 rfl rfl (idx_lt h70402)) ?_
   exact l_go hF rfl (g7_26 v71101 v71201) (le_q rfl rfl)
  have g7_14 : ∀ (v71101 : Nat) (v71201 : Nat), F [0, 2, 3, 6, 7, 8, 11, 12] ⟨[(1, HV.fptr [HV.int .i64 p0.1, HV.int .i64 p0.2.1, slE eFromLabelTo p0.2.2] 0), (4, HV.int .i64 a3), (5, HV.ptr 22005 v71101 0), (6, HV.ptr 22006 v71201 0), (17, HV.fptr [HV.int .i64 p0.1, HV.int .i64 p0.2.1, slE eFromLabelTo p0.2.2] 2), (20, HV.int .i64 (IntKind.wrap .i64 (a3 - 1))), (24, slE eFromLabelTo p0.2.2), (25, HV.int .i64 a3)], [(22005, v71101, .arr 3 49 [HV.int .i64 0, HV.int .i64 0, HV.int .i64 0]), (22006, v71201, .arr 3 49 [HV.int .i64 0, HV.int .i64 0, HV.int .i64 0])]⟩ := by
   intro v71101 v71201
   refine l_take (i := 9) hF rfl rfl rfl (v_idxF ty22 es22 rfl rfl (idx_lt h70902)) ?_
   exact l_go hF rfl (g7_15 v71101 v71201) (le_q rfl rfl)
  have g7_32 : ∀ (v71201 : Nat), F [0, 2, 3, 6, 7, 8, 9, 12] ⟨[(1, HV.fptr [HV.int .i64 p0.1, HV.int .i64 p0.2.1, slE eFromLabelTo p0.2.2] 0), (4, HV.int .i64 a3), (6, HV.ptr 22006 v71201 0), (17, HV.fptr [HV.int .i64 p0.1, HV.int .i64 p0.2.1, slE eFromLabelTo p0.2.2] 2), (20, HV.int .i64 (IntKind.wrap .i64 (a3 - 1))), (26, HV.fptr (eFromLabelTo.E p0.2.2) ((a3).toNat * eFromLabelTo.k))], [(22006, v71201, .arr 3 49 [HV.int .i64 0, HV.int .i64 0, HV.int .i64 0])]⟩ := by
   intro v71201
   refine l_step hF rfl [1, 10, 11] rfl rfl ⟨?_, ?_, ?_, trivial⟩
   ·refine l_op rfl rfl rfl (o_val rfl (v_loadF ty22 rfl (l_lit rfl rfl)) ?_)
    exact b_nil (l_go hF rfl (g7_33 v71201) (le_q rfl rfl))
   ·refine l_op rfl rfl rfl (o_val rfl (v_loadF ty49 rfl (l_agg eFromLabelTo h70902 rfl rfl)) ?_)
    exact b_nil (l_go hF rfl (g7_34 v71201) (le_q rfl rfl))
   ·refine l_op rfl rfl rfl (o_alloc (fid := 22) (zs := [HV.int .i64 0, HV.int .i64 0, HV.int .i64 0]) 22005 rfl rfl ty49 rfl (fun v71101 => ?_))
    exact b_nil (l_go hF rfl (g7_15 v71101 v71201) (le_q rfl rfl))
  have g7_40 : ∀ (v71201 : Nat), F [0, 1, 2, 3, 4, 6, 8, 12] ⟨[(1, HV.fptr [HV.int .i64 p0.1, HV.int .i64 p0.2.1, slE eFromLabelTo p0.2.2] 0), (4, HV.int .i64 a3), (6, HV.ptr 22006 v71201 0), (21, HV.fptr (eFromLabelTo.E p0.2.2) ((IntKind.wrap .i64 (a3 - 1)).toNat * eFromLabelTo.k)), (23, HV.fptr [HV.int .i64 p0.1, HV.int .i64 p0.2.1, slE eFromLabelTo p0.2.2] 2), (25, HV.int .i64 a3)], [(22006, v71201, .arr 3 49 [HV.int .i64 0, HV.int .i64 0, HV.int .i64 0])]⟩ := by
   intro v71201
   refine l_step hF rfl [5, 7, 11] rfl rfl ⟨?_, ?_, ?_, trivial⟩
   ·refine l_op rfl rfl rfl (o_val rfl (v_loadF ty49 rfl (l_agg eFromLabelTo h70402 rfl rfl)) ?_)
    exact b_nil (l_go hF rfl (g7_41 v71201) (le_q rfl rfl))
   ·refine l_op rfl rfl rfl (o_val rfl (v_loadF ty22 rfl (l_lit rfl rfl)) ?_)
    exact b_nil (l_go hF rfl (g7_42 v71201) (le_q rfl rfl))
   ·refine l_op rfl rfl rfl (o_alloc (fid := 22) (zs := [HV.int .i64 0, HV.int .i64 0, HV.int .i64 0]) 22005 rfl rfl ty49 rfl (fun v71101 => ?_))
    exact b_nil (l_go hF rfl (g7_26 v71101 v71201) (le_q rfl rfl))
  have g7_46 : ∀ (v71101 : Nat), F [0, 2, 3, 6, 7, 8, 9, 11] ⟨[(1, HV.fptr [HV.int .i64 p0.1, HV.int .i64 p0.2.1, slE eFromLabelTo p0.2.2] 0), (4, HV.int .i64 a3), (5, HV.ptr 22005 v71101 0), (17, HV.fptr [HV.int .i64 p0.1, HV.int .i64 p0.2.1, slE eFromLabelTo p0.2.2] 2), (20, HV.int .i64 (IntKind.wrap .i64 (a3 - 1))), (26, HV.fptr (eFromLabelTo.E p0.2.2) ((a3).toNat * eFromLabelTo.k))], [(22005, v71101, .arr 3 49 [HV.int .i64 0, HV.int .i64 0, HV.int .i64 0])]⟩ := by
   intro v71101
   refine l_step hF rfl [1, 10, 12] rfl rfl ⟨?_, ?_, ?_, trivial⟩
   ·refine l_op rfl rfl rfl (o_val rfl (v_loadF ty22 rfl (l_lit rfl rfl)) ?_)
    exact b_nil (l_go hF rfl (g7_47 v71101) (le_q rfl rfl))
   ·refine l_op rfl rfl rfl (o_val rfl (v_loadF ty49 rfl (l_agg eFromLabelTo h70902 rfl rfl)) ?_)
    exact b_nil (l_go hF rfl (g7_48 v71101) (le_q rfl rfl))
   ·refine l_op rfl rfl rfl (o_alloc (fid := 22) (zs := [HV.int .i64 0, HV.int .i64 0, HV.int .i64 0]) 22006 rfl rfl ty49 rfl (fun v71201 => ?_))
    exact b_nil (l_go hF rfl (g7_15 v71101 v71201) (le_q rfl rfl))
  have g7_54 : ∀ (v71101 : Nat), F [0, 1, 2, 3, 4, 6, 8, 11] ⟨[(1, HV.fptr [HV.int .i64 p0.1, HV.int .i64 p0.2.1, slE eFromLabelTo p0.2.2] 0), (4, HV.int .i64 a3), (5, HV.ptr 22005 v71101 0), (21, HV.fptr (eFromLabelTo.E p0.2.2) ((IntKind.wrap .i64 (a3 - 1)).toNat * eFromLabelTo.k)), (23, HV.fptr [HV.int .i64 p0.1, HV.int .i64 p0.2.1, slE eFromLabelTo p0.2.2] 2), (25, HV.int .i64 a3)], [(22005, v71101, .arr 3 49 [HV.int .i64 0, HV.int .i64 0, HV.int .i64 0])]⟩ := by
   intro v71101
   refine l_step hF rfl [5, 7, 12] rfl rfl ⟨?_, ?_, ?_, trivial⟩
   ·refine l_op rfl rfl rfl (o_val rfl (v_loadF ty49 rfl (l_agg eFromLabelTo h70402 rfl rfl)) ?_)
    exact b_nil (l_go hF rfl (g7_55 v71101) (le_q rfl rfl))
   ·refine l_op rfl rfl rfl (o_val rfl (v_loadF ty22 rfl (l_lit rfl rfl)) ?_)
    exact b_nil (l_go hF rfl (g7_56 v71101) (le_q rfl rfl))
   ·refine l_op rfl rfl rfl (o_alloc (fid := 22) (zs := [HV.int .i64 0, HV.int .i64 0, HV.int .i64 0]) 22006 rfl rfl ty49 rfl (fun v71201 => ?_))
    exact b_nil (l_go hF rfl (g7_26 v71101 v71201) (le_q rfl rfl))
  have g7_59 : F [0, 1, 2, 3, 6, 7, 8, 9] ⟨[(1, HV.fptr [HV.int .i64 p0.1, HV.int .i64 p0.2.1, slE eFromLabelTo p0.2.2] 0), (4, HV.int .i64 a3), (18, slE eFromLabelTo p0.2.2), (20, HV.int .i64 (IntKind.wrap .i64 (a3 - 1))), (26, HV.fptr (eFromLabelTo.E p0.2.2) ((a3).toNat * eFromLabelTo.k))], []⟩ := by
   refine l_take (i := 4) hF rfl rfl rfl (v_idxF ty22 es22 rfl rfl (idx_lt h70402)) ?_
   exact l_go hF rfl (g7_64) (le_q rfl rfl)
  have g7_60 : F [0, 2, 3, 6, 7, 8, 9, 10] ⟨[(1, HV.fptr [HV.int .i64 p0.1, HV.int .i64 p0.2.1, slE eFromLabelTo p0.2.2] 0), (4, HV.int .i64 a3), (17, HV.fptr [HV.int .i64 p0.1, HV.int .i64 p0.2.1, slE eFromLabelTo p0.2.2] 2), (20, HV.int .i64 (IntKind.wrap .i64 (a3 - 1))), (27, HV.agg [HV.int .i64 x70901.1, HV.int .i64 x70901.2.1, HV.int .i64 x70901.2.2])], []⟩ := by
   refine l_step hF rfl [1, 11, 12] rfl rfl ⟨?_, ?_, ?_, trivial⟩
   ·refine l_op rfl rfl rfl (o_val rfl (v_loadF ty22 rfl (l_lit rfl rfl)) ?_)
    exact b_nil (l_go hF rfl (g7_61) (le_q rfl rfl))
   ·refine l_op rfl rfl rfl (o_alloc (fid := 22) (zs := [HV.int .i64 0, HV.int .i64 0, HV.int .i64 0]) 22005 rfl rfl ty49 rfl (fun v71101 => ?_))
    exact b_nil (l_go hF rfl (g7_48 v71101) (le_q rfl rfl))
   ·refine l_op rfl rfl rfl (o_alloc (fid := 22) (zs := [HV.int .i64 0, HV.int .i64 0, HV.int .i64 0]) 22006 rfl rfl ty49 rfl (fun v71201 => ?_))
    exact b_nil (l_go hF rfl (g7_34 v71201) (le_q rfl rfl))
  have g7_67 : F [0, 1, 2, 3, 4, 5, 6, 8] ⟨[(1, HV.fptr [HV.int .i64 p0.1, HV.int .i64 p0.2.1, slE eFromLabelTo p0.2.2] 0), (4, HV.int .i64 a3), (22, HV.agg [HV.int .i64 x70401.1, HV.int .i64 x70401.2.1, HV.int .i64 x70401.2.2]), (23, HV.fptr [HV.int .i64 p0.1, HV.int .i64 p0.2.1, slE eFromLabelTo p0.2.2] 2), (25, HV.int .i64 a3)], []⟩ := by
   refine l_step hF rfl [7, 11, 12] rfl rfl ⟨?_, ?_, ?_, trivial⟩
   ·refine l_op rfl rfl rfl (o_val rfl (v_loadF ty22 rfl (l_lit rfl rfl)) ?_)
    exact b_nil (l_go hF rfl (g7_69) (le_q rfl rfl))
   ·refine l_op rfl rfl rfl (o_alloc (fid := 22) (zs := [HV.int .i64 0, HV.int .i64 0, HV.int .i64 0]) 22005 rfl rfl ty49 rfl (fun v71101 => ?_))
    exact b_nil (l_go hF rfl (g7_55 v71101) (le_q rfl rfl))
   ·refine l_op rfl rfl rfl (o_alloc (fid := 22) (zs := [HV.int .i64 0, HV.int .i64 0, HV.int .i64 0]) 22006 rfl rfl ty49 rfl (fun v71201 => ?_))
    exact b_nil (l_go hF rfl (g7_41 v71201) (le_q rfl rfl))
  have g7_68 : F [0, 1, 2, 3, 4, 6, 7, 8] ⟨[(1, HV.fptr [HV.int .i64 p0.1, HV.int .i64 p0.2.1, slE eFromLabelTo p0.2.2] 0), (4, HV.int .i64 a3), (21, HV.fptr (eFromLabelTo.E p0.2.2) ((IntKind.wrap .i64 (a3 - 1)).toNat * eFromLabelTo.k)), (24, slE eFromLabelTo p0.2.2), (25, HV.int .i64 a3)], []⟩ := by
   refine l_take (i := 9) hF rfl rfl rfl (v_idxF ty22 es22 rfl rfl (idx_lt h70902)) ?_
   exact l_go hF rfl (g7_64) (le_q rfl rfl)
  have g7_10 : ∀ (v71201 : Nat), F [0, 1, 2, 3, 6, 8, 12] ⟨[(1, HV.fptr [HV.int .i64 p0.1, HV.int .i64 p0.2.1, slE eFromLabelTo p0.2.2] 0), (4, HV.int .i64 a3), (6, HV.ptr 22006 v71201 0), (18, slE eFromLabelTo p0.2.2), (20, HV.int .i64 (IntKind.wrap .i64 (a3 - 1))), (23, HV.fptr [HV.int .i64 p0.1, HV.int .i64 p0.2.1, slE eFromLabelTo p0.2.2] 2), (25, HV.int .i64 a3)], [(22006, v71201, .arr 3 49 [HV.int .i64 0, HV.int .i64 0, HV.int .i64 0])]⟩ := by
   intro v71201
   refine l_take (i := 4) hF rfl rfl rfl (v_idxF ty22 es22 rfl rfl (idx_lt h70402)) ?_
   exact l_go hF rfl (g7_40 v71201) (le_q rfl rfl)
  have g7_11 : ∀ (v71201 : Nat), F [0, 2, 3, 6, 7, 8, 12] ⟨[(1, HV.fptr [HV.int .i64 p0.1, HV.int .i64 p0.2.1, slE eFromLabelTo p0.2.2] 0), (4, HV.int .i64 a3), (6, HV.ptr 22006 v71201 0), (17, HV.fptr [HV.int .i64 p0.1, HV.int .i64 p0.2.1, slE eFromLabelTo p0.2.2] 2), (20, HV.int .i64 (IntKind.wrap .i64 (a3 - 1))), (24, slE eFromLabelTo p0.2.2), (25, HV.int .i64 a3)], [(22006, v71201, .arr 3 49 [HV.int .i64 0, HV.int .i64 0, HV.int .i64 0])]⟩ := by
   intro v71201
   refine l_take (i := 9) hF rfl rfl rfl (v_idxF ty22 es22 rfl rfl (idx_lt h70902)) ?_
   exact l_go hF rfl (g7_32 v71201) (le_q rfl rfl)
  have g7_12 : ∀ (v71101 : Nat) (v71201 : Nat), F [0, 2, 3, 6, 8, 11, 12] ⟨[(1, HV.fptr [HV.int .i64 p0.1, HV.int .i64 p0.2.1, slE eFromLabelTo p0.2.2] 0), (4, HV.int .i64 a3), (5, HV.ptr 22005 v71101 0), (6, HV.ptr 22006 v71201 0), (17, HV.fptr [HV.int .i64 p0.1, HV.int .i64 p0.2.1, slE eFromLabelTo p0.2.2] 2), (20, HV.int .i64 (IntKind.wrap .i64 (a3 - 1))), (23, HV.fptr [HV.int .i64 p0.1, HV.int .i64 p0.2.1, slE eFromLabelTo p0.2.2] 2), (25, HV.int .i64 a3)], [(22005, v71101, .arr 3 49 [HV.int .i64 0, HV.int .i64 0, HV.int .i64 0]), (22006, v71201, .arr 3 49 [HV.int .i64 0, HV.int .i64 0, HV.int .i64 0])]⟩ := by
   intro v71101 v71201
   refine l_step hF rfl [1, 7] rfl rfl ⟨?_, ?_, trivial⟩
   ·refine l_op rfl rfl rfl (o_val rfl (v_loadF ty22 rfl (l_lit rfl rfl)) ?_)
    exact b_nil (l_go hF rfl (g7_13 v71101 v71201) (le_q rfl rfl))
   ·refine l_op rfl rfl rfl (o_val rfl (v_loadF ty22 rfl (l_lit rfl rfl)) ?_)
    exact b_nil (l_go hF rfl (g7_14 v71101 v71201) (le_q rfl rfl))
  have g7_44 : ∀ (v71101 : Nat), F [0, 1, 2, 3, 6, 8, 11] ⟨[(1, HV.fptr [HV.int .i64 p0.1, HV.int .i64 p0.2.1, slE eFromLabelTo p0.2.2] 0), (4, HV.int .i64 a3), (5, HV.ptr 22005 v71101 0), (18, slE eFromLabelTo p0.2.2), (20, HV.int .i64 (IntKind.wrap .i64 (a3 - 1))), (23, HV.fptr [HV.int .i64 p0.1, HV.int .i64 p0.2.1, slE eFromLabelTo p0.2.2] 2), (25, HV.int .i64 a3)], [(22005, v71101, .arr 3 49 [HV.int .i64 0, HV.int .i64 0, HV.int .i64 0])]⟩ := by
   intro v71101
   refine l_take (i := 4) hF rfl rfl rfl (v_idxF ty22 es22 rfl rfl (idx_lt h70402)) ?_
   exact l_go hF rfl (g7_54 v71101) (le_q rfl rfl)
  have g7_45 : ∀ (v71101 : Nat), F [0, 2, 3, 6, 7, 8, 11] ⟨[(1, HV.fptr [HV.int .i64 p0.1, HV.int .i64 p0.2.1, slE eFromLabelTo p0.2.2] 0), (4, HV.int .i64 a3), (5, HV.ptr 22005 v71101 0), (17, HV.fptr [HV.int .i64 p0.1, HV.int .i64 p0.2.1, slE eFromLabelTo p0.2.2] 2), (20, HV.int .i64 (IntKind.wrap .i64 (a3 - 1))), (24, slE eFromLabelTo p0.2.2), (25, HV.int .i64 a3)], [(22005, v71101, .arr 3 49 [HV.int .i64 0, HV.int .i64 0, HV.int .i64 0])]⟩ := by
   intro v71101
   refine l_take (i := 9) hF rfl rfl rfl (v_idxF ty22 es22 rfl rfl (idx_lt h70902)) ?_
   exact l_go hF rfl (g7_46 v71101) (le_q rfl rfl)
  have g7_58 : F [0, 2, 3, 6, 7, 8, 9] ⟨[(1, HV.fptr [HV.int .i64 p0.1, HV.int .i64 p0.2.1, slE eFromLabelTo p0.2.2] 0), (4, HV.int .i64 a3), (17, HV.fptr [HV.int .i64 p0.1, HV.int .i64 p0.2.1, slE eFromLabelTo p0.2.2] 2), (20, HV.int .i64 (IntKind.wrap .i64 (a3 - 1))), (26, HV.fptr (eFromLabelTo.E p0.2.2) ((a3).toNat * eFromLabelTo.k))], []⟩ := by
   refine l_step hF rfl [1, 10, 11, 12] rfl rfl ⟨?_, ?_, ?_, ?_, trivial⟩
   ·refine l_op rfl rfl rfl (o_val rfl (v_loadF ty22 rfl (l_lit rfl rfl)) ?_)
    exact b_nil (l_go hF rfl (g7_59) (le_q rfl rfl))
   ·refine l_op rfl rfl rfl (o_val rfl (v_loadF ty49 rfl (l_agg eFromLabelTo h70902 rfl rfl)) ?_)
    exact b_nil (l_go hF rfl (g7_60) (le_q rfl rfl))
   ·refine l_op rfl rfl rfl (o_alloc (fid := 22) (zs := [HV.int .i64 0, HV.int .i64 0, HV.int .i64 0]) 22005 rfl rfl ty49 rfl (fun v71101 => ?_))
    exact b_nil (l_go hF rfl (g7_46 v71101) (le_q rfl rfl))
   ·refine l_op rfl rfl rfl (o_alloc (fid := 22) (zs := [HV.int .i64 0, HV.int .i64 0, HV.int .i64 0]) 22006 rfl rfl ty49 rfl (fun v71201 => ?_))
    exact b_nil (l_go hF rfl (g7_32 v71201) (le_q rfl rfl))
  have g7_66 : F [0, 1, 2, 3, 4, 6, 8] ⟨[(1, HV.fptr [HV.int .i64 p0.1, HV.int .i64 p0.2.1, slE eFromLabelTo p0.2.2] 0), (4, HV.int .i64 a3), (21, HV.fptr (eFromLabelTo.E p0.2.2) ((IntKind.wrap .i64 (a3 - 1)).toNat * eFromLabelTo.k)), (23, HV.fptr [HV.int .i64 p0.1, HV.int .i64 p0.2.1, slE eFromLabelTo p0.2.2] 2), (25, HV.int .i64 a3)], []⟩ := by
   refine l_step hF rfl [5, 7, 11, 12] rfl rfl ⟨?_, ?_, ?_, ?_, trivial⟩
   ·refine l_op rfl rfl rfl (o_val rfl (v_loadF ty49 rfl (l_agg eFromLabelTo h70402 rfl rfl)) ?_)
    exact b_nil (l_go hF rfl (g7_67) (le_q rfl rfl))
   ·refine l_op rfl rfl rfl (o_val rfl (v_loadF ty22 rfl (l_lit rfl rfl)) ?_)
    exact b_nil (l_go hF rfl (g7_68) (le_q rfl rfl))
   ·refine l_op rfl rfl rfl (o_alloc (fid := 22) (zs := [HV.int .i64 0, HV.int .i64 0, HV.int .i64 0]) 22005 rfl rfl ty49 rfl (fun v71101 => ?_))
    exact b_nil (l_go hF rfl (g7_54 v71101) (le_q rfl rfl))
   ·refine l_op rfl rfl rfl (o_alloc (fid := 22) (zs := [HV.int .i64 0, HV.int .i64 0, HV.int .i64 0]) 22006 rfl rfl ty49 rfl (fun v71201 => ?_))
    exact b_nil (l_go hF rfl (g7_40 v71201) (le_q rfl rfl))
  have g7_6 : F [0, 1, 2, 3, 6, 8] ⟨[(1, HV.fptr [HV.int .i64 p0.1, HV.int .i64 p0.2.1, slE eFromLabelTo p0.2.2] 0), (4, HV.int .i64 a3), (18, slE eFromLabelTo p0.2.2), (20, HV.int .i64 (IntKind.wrap .i64 (a3 - 1))), (23, HV.fptr [HV.int .i64 p0.1, HV.int .i64 p0.2.1, slE eFromLabelTo p0.2.2] 2), (25, HV.int .i64 a3)], []⟩ := by
   refine l_take (i := 4) hF rfl rfl rfl (v_idxF ty22 es22 rfl rfl (idx_lt h70402)) ?_
   exact l_go hF rfl (g7_66) (le_q rfl rfl)
  have g7_7 : F [0, 2, 3, 6, 7, 8] ⟨[(1, HV.fptr [HV.int .i64 p0.1, HV.int .i64 p0.2.1, slE eFromLabelTo p0.2.2] 0), (4, HV.int .i64 a3), (17, HV.fptr [HV.int .i64 p0.1, HV.int .i64 p0.2.1, slE eFromLabelTo p0.2.2] 2), (20, HV.int .i64 (IntKind.wrap .i64 (a3 - 1))), (24, slE eFromLabelTo p0.2.2), (25, HV.int .i64 a3)], []⟩ := by
   refine l_take (i := 9) hF rfl rfl rfl (v_idxF ty22 es22 rfl rfl (idx_lt h70902)) ?_
   exact l_go hF rfl (g7_58) (le_q rfl rfl)
  have g7_8 : ∀ (v71101 : Nat), F [0, 2, 3, 6, 8, 11] ⟨[(1, HV.fptr [HV.int .i64 p0.1, HV.int .i64 p0.2.1, slE eFromLabelTo p0.2.2] 0), (4, HV.int .i64 a3), (5, HV.ptr 22005 v71101 0), (17, HV.fptr [HV.int .i64 p0.1, HV.int .i64 p0.2.1, slE eFromLabelTo p0.2.2] 2), (20, HV.int .i64 (IntKind.wrap .i64 (a3 - 1))), (23, HV.fptr [HV.int .i64 p0.1, HV.int .i64 p0.2.1, slE eFromLabelTo p0.2.2] 2), (25, HV.int .i64 a3)], [(22005, v71101, .arr 3 49 [HV.int .i64 0, HV.int .i64 0, HV.int .i64 0])]⟩ := by
   intro v71101
   refine l_step hF rfl [1, 7, 12] rfl rfl ⟨?_, ?_, ?_, trivial⟩
   ·refine l_op rfl rfl rfl (o_val rfl (v_loadF ty22 rfl (l_lit rfl rfl)) ?_)
    exact b_nil (l_go hF rfl (g7_44 v71101) (le_q rfl rfl))
   ·refine l_op rfl rfl rfl (o_val rfl (v_loadF ty22 rfl (l_lit rfl rfl)) ?_)
    exact b_nil (l_go hF rfl (g7_45 v71101) (le_q rfl rfl))
   ·refine l_op rfl rfl rfl (o_alloc (fid := 22) (zs := [HV.int .i64 0, HV.int .i64 0, HV.int .i64 0]) 22006 rfl rfl ty49 rfl (fun v71201 => ?_))
    exact b_nil (l_go hF rfl (g7_12 v71101 v71201) (le_q rfl rfl))
  have g7_9 : ∀ (v71201 : Nat), F [0, 2, 3, 6, 8, 12] ⟨[(1, HV.fptr [HV.int .i64 p0.1, HV.int .i64 p0.2.1, slE eFromLabelTo p0.2.2] 0), (4, HV.int .i64 a3), (6, HV.ptr 22006 v71201 0), (17, HV.fptr [HV.int .i64 p0.1, HV.int .i64 p0.2.1, slE eFromLabelTo p0.2.2] 2), (20, HV.int .i64 (IntKind.wrap .i64 (a3 - 1))), (23, HV.fptr [HV.int .i64 p0.1, HV.int .i64 p0.2.1, slE eFromLabelTo p0.2.2] 2), (25, HV.int .i64 a3)], [(22006, v71201, .arr 3 49 [HV.int .i64 0, HV.int .i64 0, HV.int .i64 0])]⟩ := by
   intro v71201
   refine l_step hF rfl [1, 7, 11] rfl rfl ⟨?_, ?_, ?_, trivial⟩
   ·refine l_op rfl rfl rfl (o_val rfl (v_loadF ty22 rfl (l_lit rfl rfl)) ?_)
    exact b_nil (l_go hF rfl (g7_10 v71201) (le_q rfl rfl))
   ·refine l_op rfl rfl rfl (o_val rfl (v_loadF ty22 rfl (l_lit rfl rfl)) ?_)
    exact b_nil (l_go hF rfl (g7_11 v71201) (le_q rfl rfl))
   ·refine l_op rfl rfl rfl (o_alloc (fid := 22) (zs := [HV.int .i64 0, HV.int .i64 0, HV.int .i64 0]) 22005 rfl rfl ty49 rfl (fun v71101 => ?_))
    exact b_nil (l_go hF rfl (g7_12 v71101 v71201) (le_q rfl rfl))
  have g7_5 : F [0, 2, 3, 6, 8] ⟨[(1, HV.fptr [HV.int .i64 p0.1, HV.int .i64 p0.2.1, slE eFromLabelTo p0.2.2] 0), (4, HV.int .i64 a3), (17, HV.fptr [HV.int .i64 p0.1, HV.int .i64 p0.2.1, slE eFromLabelTo p0.2.2] 2), (20, HV.int .i64 (IntKind.wrap .i64 (a3 - 1))), (23, HV.fptr [HV.int .i64 p0.1, HV.int .i64 p0.2.1, slE eFromLabelTo p0.2.2] 2), (25, HV.int .i64 a3)], []⟩ := by
   refine l_step hF rfl [1, 7, 11, 12] rfl rfl ⟨?_, ?_, ?_, ?_, trivial⟩
   ·refine l_op rfl rfl rfl (o_val rfl (v_loadF ty22 rfl (l_lit rfl rfl)) ?_)
    exact b_nil (l_go hF rfl (g7_6) (le_q rfl rfl))
   ·refine l_op rfl rfl rfl (o_val rfl (v_loadF ty22 rfl (l_lit rfl rfl)) ?_)
    exact b_nil (l_go hF rfl (g7_7) (le_q rfl rfl))
   ·refine l_op rfl rfl rfl (o_alloc (fid := 22) (zs := [HV.int .i64 0, HV.int .i64 0, HV.int .i64 0]) 22005 rfl rfl ty49 rfl (fun v71101 => ?_))
    exact b_nil (l_go hF rfl (g7_8 v71101) (le_q rfl rfl))
   ·refine l_op rfl rfl rfl (o_alloc (fid := 22) (zs := [HV.int .i64 0, HV.int .i64 0, HV.int .i64 0]) 22006 rfl rfl ty49 rfl (fun v71201 => ?_))
    exact b_nil (l_go hF rfl (g7_9 v71201) (le_q rfl rfl))
  have g7_4 : F [0, 2, 3, 6] ⟨[(1, HV.fptr [HV.int .i64 p0.1, HV.int .i64 p0.2.1, slE eFromLabelTo p0.2.2] 0), (4, HV.int .i64 a3), (17, HV.fptr [HV.int .i64 p0.1, HV.int .i64 p0.2.1, slE eFromLabelTo p0.2.2] 2), (20, HV.int .i64 (IntKind.wrap .i64 (a3 - 1))), (23, HV.fptr [HV.int .i64 p0.1, HV.int .i64 p0.2.1, slE eFromLabelTo p0.2.2] 2)], []⟩ := by
   refine l_take (i := 8) hF rfl rfl rfl (mv_val rfl rfl).2 ?_
   exact l_go hF rfl (g7_5) (le_q rfl rfl)
  have g7_3 : F [0, 2, 3] ⟨[(1, HV.fptr [HV.int .i64 p0.1, HV.int .i64 p0.2.1, slE eFromLabelTo p0.2.2] 0), (4, HV.int .i64 a3), (17, HV.fptr [HV.int .i64 p0.1, HV.int .i64 p0.2.1, slE eFromLabelTo p0.2.2] 2), (20, HV.int .i64 (IntKind.wrap .i64 (a3 - 1)))], []⟩ := by
   refine l_take (i := 6) hF rfl rfl rfl (v_fieldAddrF fo24_2 rfl) ?_
   exact l_go hF rfl (g7_4) (le_q rfl rfl)
  have g7_2 : F [0, 2] ⟨[(1, HV.fptr [HV.int .i64 p0.1, HV.int .i64 p0.2.1, slE eFromLabelTo p0.2.2] 0), (4, HV.int .i64 a3), (17, HV.fptr [HV.int .i64 p0.1, HV.int .i64 p0.2.1, slE eFromLabelTo p0.2.2] 2), (19, HV.int .i64 a3)], []⟩ := by
   refine l_takeW (i := 3) hF rfl rfl rfl (f_bin rfl rfl rfl b_sub rfl) ?_
   exact l_go hF rfl (g7_3) (le_q rfl rfl)
  have g7_1 : F [0] ⟨[(1, HV.fptr [HV.int .i64 p0.1, HV.int .i64 p0.2.1, slE eFromLabelTo p0.2.2] 0), (4, HV.int .i64 a3), (17, HV.fptr [HV.int .i64 p0.1, HV.int .i64 p0.2.1, slE eFromLabelTo p0.2.2] 2)], []⟩ := by
   refine l_take (i := 2) hF rfl rfl rfl (mv_val rfl rfl).2 ?_
   exact l_go hF rfl (g7_2) (le_q rfl rfl)
  have g7_0 : F [] ⟨[(1, HV.fptr [HV.int .i64 p0.1, HV.int .i64 p0.2.1, slE eFromLabelTo p0.2.2] 0), (4, HV.int .i64 a3)], []⟩ := by
   refine l_take (i := 0) hF rfl rfl rfl (v_fieldAddrF fo24_2 rfl) ?_
   exact l_go hF rfl (g7_1) (le_q rfl rfl)
  exact g7_0
 have hc := of_decide_eq_false hc
 have h := ifF hc h
 refine AW.exit ?_
 exact to_le (s' := ⟨[], []⟩) (AS.le_of trivial trivial) ⟨(), (), h, rfl⟩

end Go.AW



/- subset.Complete (not printed). -/
namespace Go.AW
open Go
def setR (R : List (List Int)) (e : TFromLabelTo) : List (List Int) := R.set e.1.toNat ((R.getD e.1.toNat []).set e.2.1.toNat e.2.2)
def rowsK (g : TLabelsStatesEdges) (k : Nat) : List (List Int) := (g.2.2.take k).foldl setR (List.replicate g.2.1.toNat (List.replicate g.1.toNat g.2.1))
def cplOk (g : TLabelsStatesEdges) : Prop := (0 ≤ g.1 ∧ g.1 ≤ 1000) ∧ (0 ≤ g.2.1 ∧ g.2.1 ≤ 1000) ∧ g.2.2.length ≤ 100000 ∧ ∀ e ∈ g.2.2, (0 ≤ e.1 ∧ e.1 < g.2.1) ∧ (0 ≤ e.2.1 ∧ e.2.1 < g.1)
open Classical in
noncomputable def m_subset_Complete (g : TLabelsStatesEdges) : Option ((Int × List (List Int)) × List Int × Int) :=
  (m_graph_Deterministic g).bind fun x =>
  if x.2 ≠ 0 then some ((0, []), [], x.2)
  else if (!x.1) = true then some ((0, []), [], 8)
  else if cplOk g then (if (g.2.2.length : Int) = g.2.1 * g.1 then some ((g.1, rowsK g g.2.2.length), [], 0) else some ((g.1, rowsK g g.2.2.length ++ [List.replicate g.1.toNat g.2.1]), [g.2.1], 0))
  else none
end Go.AW

/- What functions compute that chapter 31 uses (not printed). -/
namespace Go.AW
open Go
end Go.AW

/- What shorter texts name (mini.py). -/
namespace Go.AW
open Go
abbrev hI (n : Int) : HV := .int .i64 n
theorem l_ov {P : Program} {ro : Option Nat} {N i d : Nat} {ops : Array Oper} {o : Oper} {G : AS → Prop} {v : HV} {sl : List (Nat × HV)} {H : Heap} (ho : ops[i]? = some o) (hg : o.guard = none) (hN : okd N o.dst = true) (h0 : (o.dst, isVal o.op) = (some d, true)) (hv : aval P o.op ⟨sl, H⟩ (· = v)) (k : G ⟨(d, v) :: sl, H⟩) : AOpI P ro N ops i G ⟨sl, H⟩ := l_op (fid := 0) (mt := []) ho hg hN (o_val h0 hv (b_nil k))
end Go.AW

/- subset.Complete: a table of rows that are owned. -/
namespace Go.AW
open Go Go.Proofs
set_option linter.unusedVariables false
abbrev zA : List HV := [HV.int .i64 0, HV.v (.slice none 0 0)]
abbrev hpA (v2 u7 ov : Nat) (L : Int) (n ho : Nat) (hd : List HV) (rs : Rws) : Heap := (27002, v2, .arr 2 54 zA) :: (27007, u7, .arr 2 54 [HV.int .i64 L, HV.ar 27038 ov 1 0 n]) :: (27038, ho, .arr 1 30 hd) :: rowsO 0 rs
theorem hpA_rid {v2 u7 ov : Nat} {L : Int} {n ho : Nat} {hd : List HV} {rs : Rws} (i : Nat) : hget (hpA v2 u7 ov L n ho hd rs) (rid i) = hget (rowsO 0 rs) (rid i) := by
  rw [hget_tl (by unfold rid; omega), hget_tl (by unfold rid; omega), hget_tl (by unfold rid; omega)]
theorem hp_call {v2 u7 ov vr : Nat} {L : Int} {n ho : Nat} {hd : List HV} {rs : Rws} {l : List Int} : ∀ id x, hget (hpA v2 u7 ov L n ho hd (rs ++ [(vr, l)])) id = some x → hget ((rid rs.length, vr, .arr 1 3 (eInt.E l)) :: hpA v2 u7 ov L n ho hd rs) id = some x := by
  refine leH_get ⟨?_, ?_, ?_, leH_rows _ 0 fun i v' l' hi => ?_⟩
  · rw [hget_tl (by unfold rid; omega)]; rfl
  · rw [hget_tl (by unfold rid; omega)]; rfl
  · rw [hget_tl (by unfold rid; omega)]; rfl
  · have h1 := rows_le (rs := rs) (v := vr) (l := l) (H := []) (fun _ => rfl) (rid (0 + i)) _ (hget_rows 0 hi)
    by_cases e : i = rs.length
    · subst e
      rw [Nat.zero_add] at h1 ⊢
      rw [hget_hd] at h1 ⊢
      exact h1
    · rw [hget_tl (fun x => by have := rid_inj x; omega)] at h1 ⊢
      rw [Nat.zero_add] at h1 ⊢
      rw [hpA_rid]
      exact h1
theorem hp_app {v2 u7 ov ov2 : Nat} {L : Int} {n ho : Nat} {hd hd2 : List HV} {rs : Rws} : ∀ id x, hget (hpA v2 u7 ov L n ov2 hd2 rs) id = some x → hget ((27038, ov2, .arr 1 30 hd2) :: hpA v2 u7 ov L n ho hd rs) id = some x := by
  refine leH_get ⟨rfl, rfl, rfl, leH_rows _ 0 fun i v' l' hi => ?_⟩
  rw [hget_tl (by unfold rid; omega), Nat.zero_add, hpA_rid]
  have := hget_rows 0 hi
  rwa [Nat.zero_add] at this
theorem hp_sto {v2 u7 ov ov2 : Nat} {L : Int} {n n2 ho : Nat} {hd : List HV} {rs : Rws} : ∀ id x, hget (hpA v2 u7 ov2 L n2 ho hd rs) id = some x → hget ((27007, u7, .arr 2 54 [HV.int .i64 L, HV.ar 27038 ov2 1 0 n2]) :: hpA v2 u7 ov L n ho hd rs) id = some x := by
  refine leH_get ⟨rfl, rfl, rfl, leH_rows _ 0 fun i v' l' hi => ?_⟩
  rw [hget_tl (by unfold rid; omega), Nat.zero_add, hpA_rid]
  have := hget_rows 0 hi
  rwa [Nat.zero_add] at this

theorem frz_tab {D : Heap} {ov : Nat} {rs : Rws} (h : hget D 27038 = some (ov, .arr 1 30 (hdr 0 rs))) (hr : ∀ i v l, rs[i]? = some (v, l) → hget D (rid i) = some (v, .arr 1 3 (eInt.E l))) : frz 3 D (HV.ar 27038 ov 1 0 (hdr 0 rs).length) = slE (eSl eInt) (rs.map (·.2)) := by
  have e := frz_rows (D := D) rs 0 fun i v l hi => by rw [Nat.zero_add]; exact hr i v l hi
  rw [frz, h]
  simp only
  rw [if_pos ⟨trivial, by omega⟩, List.drop_zero, Nat.mul_one, List.take_length, e, hdr_len]
  show HV.sl 1 rs.length _ = HV.sl 1 (rs.map (·.2)).length _
  rw [List.length_map]
  rfl
theorem noneH_rows {o : AObj} {v : Nat} : ∀ (rs : Rws) (k : Nat), noneH [(27002, v, o)] (rowsO k rs)
  | [], _ => trivial
  | (u, l) :: t, k => ⟨by simp only [hget]; rw [if_neg (by unfold rid; omega)], noneH_rows t (k + 1)⟩
theorem leH_tab {H : Heap} {rs : Rws} (h : ∀ i, hget H (rid i) = hget (rowsO 0 rs) (rid i)) : leH H (rowsO 0 rs) := leH_rows _ 0 fun i v l hi => by
  rw [Nat.zero_add, h]
  have := hget_rows 0 hi
  rwa [Nat.zero_add] at this

set_option maxHeartbeats 4000000 in
set_option maxRecDepth 100000 in
theorem w_subset_Complete {p0 : TLabelsStatesEdges} {r : (Int × List (List Int)) × List Int × Int} (h : m_subset_Complete p0 = some r) : Pure Tryd.prog 27 [HV.agg [HV.int .i64 p0.1, HV.int .i64 p0.2.1, slE eFromLabelTo p0.2.2]] (· = HV.tup [HV.agg [HV.int .i64 r.1.1, slE (eSl eInt) r.1.2], slE eInt r.2.1, HV.int .i64 r.2.2]) := by
  unfold m_subset_Complete at h
  refine Pure.of_body Tryd.func27 rfl rfl (Nat.le_of_ble_eq_true rfl) fun hf => ?_
  unfold Tryd.f27
  dsimp only [enumS, Nat.reduceAdd]
  refine AW.rgs rfl fun K hK => ?_
  refine b_op rfl (o_box rfl rfl rfl ?_)
  refine b_op rfl (o_alloc (fid := 27) (zs := zA) 27002 rfl rfl ty54 rfl (fun v2 => ?_))
  refine mv rfl rfl ?_
  refine mv rfl rfl ?_
  refine b_fin hK (s' := ⟨[(1, HV.fptr [HV.int .i64 p0.1, HV.int .i64 p0.2.1, slE eFromLabelTo p0.2.2] 0), (2, HV.ptr 27002 v2 0)], [(27002, v2, .arr 2 54 zA)]⟩) (le_q rfl rfl) ?_
  clear hK K
  refine AW.rgs rfl fun K hK => ?_
  refine bv rfl (v_loadF ty24 rfl (l_litA rfl (Nat.le_of_ble_eq_true rfl) rfl)) ?_
  obtain ⟨x, hx, h⟩ := bS h
  refine b_op rfl (o_call rfl rfl rfl rfl (ACallD.pure0 (w_graph_Deterministic hx)) ?_)
  refine mv rfl rfl ?_
  refine bv rfl (v_extract rfl rfl) ?_
  refine bv rfl (v_extract rfl rfl) ?_
  refine mv rfl rfl ?_
  refine mv rfl rfl ?_
  refine b_fin hK (s' := ⟨[(1, HV.fptr [HV.int .i64 p0.1, HV.int .i64 p0.2.1, slE eFromLabelTo p0.2.2] 0), (2, HV.ptr 27002 v2 0), (5, HV.bool x.1), (6, HV.int .i64 x.2)], [(27002, v2, .arr 2 54 zA)]⟩) (le_q rfl rfl) ?_
  clear hK K
  refine AW.seq ?_
  refine AW.rgs rfl fun K hK => ?_
  refine mv rfl rfl ?_
  refine bv rfl (v_bin rfl rfl b_neq) ?_
  refine b_fin hK (s' := ⟨[(1, HV.fptr [HV.int .i64 p0.1, HV.int .i64 p0.2.1, slE eFromLabelTo p0.2.2] 0), (2, HV.ptr 27002 v2 0), (5, HV.bool x.1), (6, HV.int .i64 x.2), (16, HV.bool (decide (x.2 ≠ 0)))], [(27002, v2, .arr 2 54 zA)]⟩) (le_q rfl rfl) ?_
  clear hK K
  refine AW.cond rfl (fun hc => ?_) (fun hc => ?_)
  · have hc := of_decide_eq_true hc
    have h := ifT hc h
    refine AW.rgs rfl fun K hK => ?_
    refine b_op rfl (o_build (cs := zA) rfl (bl_of ty54 rfl rfl rfl rfl) ?_)
    refine mv rfl rfl ?_
    refine b_op rfl (o_store (cs := zA) (zs := zA) rfl rfl rfl ty54 rfl rfl rfl rfl rfl ?_)
    refine mv rfl rfl ?_
    refine mv rfl rfl ?_
    refine b_fin hK (s' := ⟨[(2, HV.ptr 27002 v2 0), (3, HV.v (.slice none 0 0)), (4, HV.int .i64 x.2)], [(27002, v2, .arr 2 54 zA)]⟩) (le_q rfl rfl) ?_
    clear hK K
    refine AW.to (to_weak ⟨[(2, HV.ptr 27002 v2 0), (3, slE eInt ([] : List Int)), (4, HV.int .i64 x.2)], [(27002, v2, .arr 2 54 zA)]⟩ ⟨⟨_, rfl, .refl _⟩, ⟨_, rfl, .nil _⟩, ⟨_, rfl, .refl _⟩, trivial⟩ ⟨rfl, trivial⟩ ?_)
    refine AW.to (to_cells 27002 v2 (ds := [HV.int .i64 0, slE (eSl eInt) ([] : List (List Int))]) rfl (.cons (.refl _) <| .cons (.nil _) <| .nil) ?_)
    refine AW.ret ?_
    have h := Option.some.inj h
    subst h
    exact ret_pure (hs := [HV.agg [HV.int .i64 0, slE (eSl eInt) ([] : List (List Int))], slE eInt ([] : List Int), HV.int .i64 x.2]) (.inr rfl) (resP ty54 rfl rfl (l_litA rfl (Nat.le_of_ble_eq_true rfl) rfl) (resT rfl (resT rfl rfl))) rfl ⟨⟨trivial, (clean_slE fun _ _ => ⟨(clean_slE fun _ _ => ⟨trivial, trivial⟩), trivial⟩), trivial⟩, (clean_slE fun _ _ => ⟨trivial, trivial⟩), trivial, trivial⟩
  have hc := of_decide_eq_false hc
  have h := ifF hc h
  refine AW.skip ?_
  refine AW.seq ?_
  refine AW.rgs rfl fun K hK => ?_
  refine mv rfl rfl ?_
  refine bv rfl (v_not rfl) ?_
  refine b_fin hK (s' := ⟨[(1, HV.fptr [HV.int .i64 p0.1, HV.int .i64 p0.2.1, slE eFromLabelTo p0.2.2] 0), (2, HV.ptr 27002 v2 0), (20, HV.bool (!x.1))], [(27002, v2, .arr 2 54 zA)]⟩) (le_q rfl rfl) ?_
  clear hK K
  refine AW.cond rfl (fun hc => ?_) (fun hc => ?_)
  · have h := ifT hc h
    refine AW.rgs rfl fun K hK => ?_
    refine b_op rfl (o_build (cs := zA) rfl (bl_of ty54 rfl rfl rfl rfl) ?_)
    refine b_op rfl (o_store (cs := zA) (zs := zA) rfl rfl rfl ty54 rfl rfl rfl rfl rfl ?_)
    refine mv rfl rfl ?_
    refine mv rfl rfl ?_
    refine b_fin hK (s' := ⟨[(2, HV.ptr 27002 v2 0), (3, HV.v (.slice none 0 0)), (4, HV.int .i64 8)], [(27002, v2, .arr 2 54 zA)]⟩) (le_q rfl rfl) ?_
    clear hK K
    refine AW.to (to_weak ⟨[(2, HV.ptr 27002 v2 0), (3, slE eInt ([] : List Int)), (4, HV.int .i64 8)], [(27002, v2, .arr 2 54 zA)]⟩ ⟨⟨_, rfl, .refl _⟩, ⟨_, rfl, .nil _⟩, ⟨_, rfl, .refl _⟩, trivial⟩ ⟨rfl, trivial⟩ ?_)
    refine AW.to (to_cells 27002 v2 (ds := [HV.int .i64 0, slE (eSl eInt) ([] : List (List Int))]) rfl (.cons (.refl _) <| .cons (.nil _) <| .nil) ?_)
    refine AW.ret ?_
    have h := Option.some.inj h
    subst h
    exact ret_pure (hs := [HV.agg [HV.int .i64 0, slE (eSl eInt) ([] : List (List Int))], slE eInt ([] : List Int), HV.int .i64 8]) (.inr rfl) (resP ty54 rfl rfl (l_litA rfl (Nat.le_of_ble_eq_true rfl) rfl) (resT rfl (resT rfl rfl))) rfl ⟨⟨trivial, (clean_slE fun _ _ => ⟨(clean_slE fun _ _ => ⟨trivial, trivial⟩), trivial⟩), trivial⟩, (clean_slE fun _ _ => ⟨trivial, trivial⟩), trivial, trivial⟩
  have h := ifF (bF' hc) h
  refine AW.skip ?_
  by_cases hok : cplOk p0
  case neg => rw [if_neg hok] at h; cases h
  rw [if_pos hok] at h
  obtain ⟨L0, S0, E⟩ := p0
  obtain ⟨⟨hl0, hl1⟩, ⟨hs0, hs1⟩, hE, hed⟩ := hok
  simp only at hl0 hl1 hs0 hs1 hE hed h
  obtain ⟨Ln, rfl⟩ := Int.eq_ofNat_of_zero_le hl0
  obtain ⟨Sn, rfl⟩ := Int.eq_ofNat_of_zero_le hs0
  clear hf hx hl0 hs0
  have hLn : Ln ≤ 1000000 := by omega
  refine AW.rgs rfl fun K hK => ?_
  refine bv rfl (v_fieldAddrF fo24_0 rfl) ?_
  refine bv rfl (v_loadF ty3 rfl (l_lit rfl rfl)) ?_
  refine b_op rfl (o_build (cs := [HV.int .i64 (Ln : Int), HV.v (.slice none 0 0)]) rfl (bl_of ty54 rfl rfl rfl rfl) ?_)
  refine b_op rfl (o_alloc (fid := 27) (zs := zA) 27007 rfl rfl ty54 rfl (fun u7 => ?_))
  refine b_op rfl (o_store (cs := [HV.int .i64 (Ln : Int), HV.v (.slice none 0 0)]) (zs := [HV.int .i64 (Ln : Int), HV.v (.slice none 0 0)]) rfl rfl rfl ty54 rfl rfl rfl rfl rfl ?_)
  refine b_fin hK (s' := ⟨[(1, HV.fptr [HV.int .i64 (Ln : Int), HV.int .i64 (Sn : Int), slE eFromLabelTo E] 0), (2, HV.ptr 27002 v2 0), (7, HV.ptr 27007 u7 0)], [(27002, v2, .arr 2 54 zA), (27007, u7, .arr 2 54 [HV.int .i64 (Ln : Int), HV.v (.slice none 0 0)])]⟩) (le_q rfl rfl) ?_
  clear hK K
  refine AW.to (to_ownC 27038 27007 u7 2 1 1 30 54 rfl rfl (by decide) fun ov0 => ?_)
  refine AW.to (to_le (s' := ⟨[(1, HV.fptr [HV.int .i64 (Ln : Int), HV.int .i64 (Sn : Int), slE eFromLabelTo E] 0), (2, HV.ptr 27002 v2 0), (7, HV.ptr 27007 u7 0)], hpA v2 u7 ov0 (Ln : Int) 0 ov0 (hdr 0 []) []⟩) ⟨leS_get ⟨rfl, rfl, rfl, trivial⟩, leH_get ⟨rfl, rfl, rfl, trivial⟩⟩ ?_)
  refine AW.seq ?_
  refine AW.rgs rfl fun K hK => ?_
  refine bv rfl (v_fieldAddrF fo24_1 rfl) ?_
  refine bv rfl (v_loadF ty3 rfl (l_lit rfl rfl)) ?_
  refine mv rfl rfl ?_
  refine b_nil (hK _ (AW.to (to_le (s' := ⟨[(1, HV.fptr [HV.int .i64 (Ln : Int), HV.int .i64 (Sn : Int), slE eFromLabelTo E] 0), (2, HV.ptr 27002 v2 0), (7, HV.ptr 27007 u7 0), (26, HV.int .i64 (Sn : Int)), (27, HV.int .i64 0)], hpA v2 u7 ov0 (Ln : Int) 0 ov0 (hdr 0 []) []⟩) ⟨leS_get ⟨rfl, rfl, rfl, rfl, rfl, trivial⟩, fun _ _ h => h⟩ ?_)))
  clear hK K
  refine AW.block ?_
  refine AW.loopS (fun a : Nat × Rws => ⟨[(1, HV.fptr [HV.int .i64 (Ln : Int), HV.int .i64 (Sn : Int), slE eFromLabelTo E] 0), (2, HV.ptr 27002 v2 0), (7, HV.ptr 27007 u7 0), (26, HV.int .i64 (Sn : Int)), (27, HV.int .i64 (a.2.length : Int))], hpA v2 u7 a.1 (Ln : Int) (hdr 0 a.2).length a.1 (hdr 0 a.2) a.2⟩)
    (fun a => a.2.length ≤ Sn ∧ a.2.map (·.2) = List.replicate a.2.length (List.replicate Ln (Sn : Int))) (fun a => Sn - a.2.length) (ov0, []) (AS.le_refl _) ⟨by simp, rfl⟩ ?_
  rintro ⟨ov, rs⟩ ⟨hrl, hrs⟩
  simp only at hrl hrs
  refine AW.rgs rfl fun K hK => ?_
  refine bv rfl (v_bin rfl rfl b_lss) ?_
  refine b_nil (hK _ (AW.to (to_le (s' := ⟨[(1, HV.fptr [HV.int .i64 (Ln : Int), HV.int .i64 (Sn : Int), slE eFromLabelTo E] 0), (2, HV.ptr 27002 v2 0), (7, HV.ptr 27007 u7 0), (26, HV.int .i64 (Sn : Int)), (27, HV.int .i64 (rs.length : Int)), (28, HV.bool (decide ((rs.length : Int) < (Sn : Int))))], hpA v2 u7 ov (Ln : Int) (hdr 0 rs).length ov (hdr 0 rs) rs⟩) ⟨leS_get ⟨rfl, rfl, rfl, rfl, rfl, rfl, trivial⟩, fun _ _ h => h⟩ ?_)))
  clear hK K
  have hfit : fits 24 ((hdr 0 rs).length + [HV.int .i64 0].length) := by rw [hdr_len]; exact ⟨by simp; omega, by simp only [maxLen, List.length_singleton]; omega⟩
  refine AW.cseq rfl (fun hc => ?_) (fun hc => ?_)
  · have hc := of_decide_eq_true hc
    refine AW.skip ?_
    refine AW.seq (AW.block ?_)
    refine AW.dl follows fun K hK F hF => ?_
    refine l_go (L' := []) hF rfl (s' := ⟨[(1, HV.fptr [HV.int .i64 (Ln : Int), HV.int .i64 (Sn : Int), slE eFromLabelTo E] 0), (2, HV.ptr 27002 v2 0), (7, HV.ptr 27007 u7 0), (26, HV.int .i64 (Sn : Int)), (27, HV.int .i64 (rs.length : Int))], hpA v2 u7 ov (Ln : Int) (hdr 0 rs).length ov (hdr 0 rs) rs⟩) ?_ ⟨leS_get ⟨rfl, rfl, rfl, rfl, rfl, trivial⟩, fun _ _ h => h⟩
    have n0_1_2_3_4_5_6_7_8_9_10_11 : ∀ (vr ov2 : Nat), F [0, 1, 2, 3, 4, 5, 6, 7, 8, 9, 10, 11] ⟨[(1, HV.fptr [HV.int .i64 (Ln : Int), HV.int .i64 (Sn : Int), slE eFromLabelTo E] 0), (2, HV.ptr 27002 v2 0), (7, HV.ptr 27007 u7 0), (26, HV.int .i64 (Sn : Int)), (27, HV.int .i64 (rs.length : Int)), (29, HV.ptr 27007 u7 1), (30, HV.ar 27038 ov 1 0 (hdr 0 rs).length), (31, HV.fptr [HV.int .i64 (Ln : Int), HV.int .i64 (Sn : Int), slE eFromLabelTo E] 1), (32, HV.int .i64 (Sn : Int)), (33, HV.sl 1 1 [HV.int .i64 (Sn : Int)]), (34, HV.fptr [HV.int .i64 (Ln : Int), HV.int .i64 (Sn : Int), slE eFromLabelTo E] 0), (35, HV.int .i64 (Ln : Int)), (36, HV.ar (rid rs.length) vr 1 0 (List.replicate Ln (Sn : Int)).length), (37, HV.sl 1 1 [HV.ar (rid rs.length) vr 1 0 (List.replicate Ln (Sn : Int)).length]), (38, HV.ar 27038 ov2 1 0 (hdr 0 rs ++ [HV.ar (rid rs.length) vr 1 0 (List.replicate Ln (Sn : Int)).length]).length), (39, HV.ptr 27007 u7 1)], hpA v2 u7 ov2 (Ln : Int) (hdr 0 rs ++ [HV.ar (rid rs.length) vr 1 0 (List.replicate Ln (Sn : Int)).length]).length ov2 (hdr 0 rs ++ [HV.ar (rid rs.length) vr 1 0 (List.replicate Ln (Sn : Int)).length]) (rs ++ [(vr, List.replicate Ln (Sn : Int))])⟩ := by
      intro vr ov2
      refine l_done hF rfl rfl (hK _ ?_)
      clear hF F hK K
      refine AW.rg rfl fun K hK => ?_
      refine bv rfl (v_bin rfl rfl b_add) ?_
      refine mv rfl rfl ?_
      refine b_nil (hK _ ?_)
      clear hK K
      refine ⟨(ov2, rs ++ [(vr, List.replicate Ln (Sn : Int))]), ⟨by simp; omega, ?_⟩, by simp; omega, ?_⟩
      · simp only [List.map_append, hrs, List.map_cons, List.map_nil, List.length_append, List.length_singleton, List.replicate_succ']
      · have e1 : hdr 0 (rs ++ [(vr, List.replicate Ln (Sn : Int))]) = hdr 0 rs ++ [HV.ar (rid rs.length) vr 1 0 (List.replicate Ln (Sn : Int)).length] := by rw [hdr_app, Nat.zero_add]
        have e2 : IntKind.wrap .i64 ((rs.length : Int) + 1) = ((rs ++ [(vr, List.replicate Ln (Sn : Int))]).length : Int) := by rw [w64 (by omega) (by omega)]; simp
        simp only [e1]
        exact ⟨leS_get ⟨rfl, rfl, rfl, rfl, by rw [← e2]; rfl, trivial⟩, fun _ _ h => h⟩
    have n0_1_2_3_4_5_6_7_8_9_10 : ∀ (vr ov2 : Nat), F [0, 1, 2, 3, 4, 5, 6, 7, 8, 9, 10] ⟨[(1, HV.fptr [HV.int .i64 (Ln : Int), HV.int .i64 (Sn : Int), slE eFromLabelTo E] 0), (2, HV.ptr 27002 v2 0), (7, HV.ptr 27007 u7 0), (26, HV.int .i64 (Sn : Int)), (27, HV.int .i64 (rs.length : Int)), (29, HV.ptr 27007 u7 1), (30, HV.ar 27038 ov 1 0 (hdr 0 rs).length), (31, HV.fptr [HV.int .i64 (Ln : Int), HV.int .i64 (Sn : Int), slE eFromLabelTo E] 1), (32, HV.int .i64 (Sn : Int)), (33, HV.sl 1 1 [HV.int .i64 (Sn : Int)]), (34, HV.fptr [HV.int .i64 (Ln : Int), HV.int .i64 (Sn : Int), slE eFromLabelTo E] 0), (35, HV.int .i64 (Ln : Int)), (36, HV.ar (rid rs.length) vr 1 0 (List.replicate Ln (Sn : Int)).length), (37, HV.sl 1 1 [HV.ar (rid rs.length) vr 1 0 (List.replicate Ln (Sn : Int)).length]), (38, HV.ar 27038 ov2 1 0 (hdr 0 rs ++ [HV.ar (rid rs.length) vr 1 0 (List.replicate Ln (Sn : Int)).length]).length), (39, HV.ptr 27007 u7 1)], hpA v2 u7 ov (Ln : Int) (hdr 0 rs).length ov2 (hdr 0 rs ++ [HV.ar (rid rs.length) vr 1 0 (List.replicate Ln (Sn : Int)).length]) (rs ++ [(vr, List.replicate Ln (Sn : Int))])⟩ := by
      intro vr ov2
      refine l_step hF rfl [11] rfl rfl ⟨?_, trivial⟩
      · exact l_op rfl rfl rfl (o_store (cs := [HV.ar 27038 ov2 1 0 (hdr 0 rs ++ [HV.ar (rid rs.length) vr 1 0 (List.replicate Ln (Sn : Int)).length]).length]) (zs := [HV.int .i64 (Ln : Int), HV.ar 27038 ov2 1 0 (hdr 0 rs ++ [HV.ar (rid rs.length) vr 1 0 (List.replicate Ln (Sn : Int)).length]).length]) rfl rfl rfl ty39 rfl rfl rfl rfl rfl (b_nil (l_go hF rfl (n0_1_2_3_4_5_6_7_8_9_10_11 vr ov2) ⟨leS_get ⟨rfl, rfl, rfl, rfl, rfl, rfl, rfl, rfl, rfl, rfl, rfl, rfl, rfl, rfl, rfl, rfl, trivial⟩, hp_sto⟩)))
    have n0_1_2_3_4_5_6_7_8_9 : ∀ (vr ov2 : Nat), F [0, 1, 2, 3, 4, 5, 6, 7, 8, 9] ⟨[(1, HV.fptr [HV.int .i64 (Ln : Int), HV.int .i64 (Sn : Int), slE eFromLabelTo E] 0), (2, HV.ptr 27002 v2 0), (7, HV.ptr 27007 u7 0), (26, HV.int .i64 (Sn : Int)), (27, HV.int .i64 (rs.length : Int)), (29, HV.ptr 27007 u7 1), (30, HV.ar 27038 ov 1 0 (hdr 0 rs).length), (31, HV.fptr [HV.int .i64 (Ln : Int), HV.int .i64 (Sn : Int), slE eFromLabelTo E] 1), (32, HV.int .i64 (Sn : Int)), (33, HV.sl 1 1 [HV.int .i64 (Sn : Int)]), (34, HV.fptr [HV.int .i64 (Ln : Int), HV.int .i64 (Sn : Int), slE eFromLabelTo E] 0), (35, HV.int .i64 (Ln : Int)), (36, HV.ar (rid rs.length) vr 1 0 (List.replicate Ln (Sn : Int)).length), (37, HV.sl 1 1 [HV.ar (rid rs.length) vr 1 0 (List.replicate Ln (Sn : Int)).length]), (38, HV.ar 27038 ov2 1 0 (hdr 0 rs ++ [HV.ar (rid rs.length) vr 1 0 (List.replicate Ln (Sn : Int)).length]).length)], hpA v2 u7 ov (Ln : Int) (hdr 0 rs).length ov2 (hdr 0 rs ++ [HV.ar (rid rs.length) vr 1 0 (List.replicate Ln (Sn : Int)).length]) (rs ++ [(vr, List.replicate Ln (Sn : Int))])⟩ := by
      intro vr ov2
      refine l_take (i := 10) hF rfl rfl rfl (v_fieldAddrP fo54_1 rfl rfl) ?_
      exact l_go hF rfl (n0_1_2_3_4_5_6_7_8_9_10 vr ov2) ⟨leS_get ⟨rfl, rfl, rfl, rfl, rfl, rfl, rfl, rfl, rfl, rfl, rfl, rfl, rfl, rfl, rfl, rfl, trivial⟩, fun _ _ h => h⟩
    have n0_1_2_3_4_5_6_7_8 : ∀ (vr : Nat), F [0, 1, 2, 3, 4, 5, 6, 7, 8] ⟨[(1, HV.fptr [HV.int .i64 (Ln : Int), HV.int .i64 (Sn : Int), slE eFromLabelTo E] 0), (2, HV.ptr 27002 v2 0), (7, HV.ptr 27007 u7 0), (26, HV.int .i64 (Sn : Int)), (27, HV.int .i64 (rs.length : Int)), (29, HV.ptr 27007 u7 1), (30, HV.ar 27038 ov 1 0 (hdr 0 rs).length), (31, HV.fptr [HV.int .i64 (Ln : Int), HV.int .i64 (Sn : Int), slE eFromLabelTo E] 1), (32, HV.int .i64 (Sn : Int)), (33, HV.sl 1 1 [HV.int .i64 (Sn : Int)]), (34, HV.fptr [HV.int .i64 (Ln : Int), HV.int .i64 (Sn : Int), slE eFromLabelTo E] 0), (35, HV.int .i64 (Ln : Int)), (36, HV.ar (rid rs.length) vr 1 0 (List.replicate Ln (Sn : Int)).length), (37, HV.sl 1 1 [HV.ar (rid rs.length) vr 1 0 (List.replicate Ln (Sn : Int)).length])], hpA v2 u7 ov (Ln : Int) (hdr 0 rs).length ov (hdr 0 rs) (rs ++ [(vr, List.replicate Ln (Sn : Int))])⟩ := by
      intro vr
      refine l_step hF rfl [9] rfl rfl ⟨?_, trivial⟩
      · exact l_op rfl rfl rfl (o_appE eHd (l := hdr 0 rs) (m := [HV.ar (rid rs.length) vr 1 0 (List.replicate Ln (Sn : Int)).length]) rfl rfl ty39 ty39 ty30 rfl rfl rfl rfl rfl hfit (fun ov2 => b_nil (l_go hF rfl (n0_1_2_3_4_5_6_7_8_9 vr ov2) ⟨leS_get ⟨rfl, rfl, rfl, rfl, rfl, rfl, rfl, rfl, rfl, rfl, rfl, rfl, rfl, rfl, rfl, trivial⟩, hp_app⟩)))
    have n0_2_3_4_5_6_7_8 : ∀ (vr : Nat), F [0, 2, 3, 4, 5, 6, 7, 8] ⟨[(1, HV.fptr [HV.int .i64 (Ln : Int), HV.int .i64 (Sn : Int), slE eFromLabelTo E] 0), (2, HV.ptr 27002 v2 0), (7, HV.ptr 27007 u7 0), (26, HV.int .i64 (Sn : Int)), (27, HV.int .i64 (rs.length : Int)), (29, HV.ptr 27007 u7 1), (31, HV.fptr [HV.int .i64 (Ln : Int), HV.int .i64 (Sn : Int), slE eFromLabelTo E] 1), (32, HV.int .i64 (Sn : Int)), (33, HV.sl 1 1 [HV.int .i64 (Sn : Int)]), (34, HV.fptr [HV.int .i64 (Ln : Int), HV.int .i64 (Sn : Int), slE eFromLabelTo E] 0), (35, HV.int .i64 (Ln : Int)), (36, HV.ar (rid rs.length) vr 1 0 (List.replicate Ln (Sn : Int)).length), (37, HV.sl 1 1 [HV.ar (rid rs.length) vr 1 0 (List.replicate Ln (Sn : Int)).length])], hpA v2 u7 ov (Ln : Int) (hdr 0 rs).length ov (hdr 0 rs) (rs ++ [(vr, List.replicate Ln (Sn : Int))])⟩ := by
      intro vr
      refine l_step hF rfl [1] rfl rfl ⟨?_, trivial⟩
      · exact l_ov rfl rfl rfl rfl (v_loadP ty39 rfl rfl (l_lit rfl rfl)) (l_go hF rfl (n0_1_2_3_4_5_6_7_8 vr) ⟨leS_get ⟨rfl, rfl, rfl, rfl, rfl, rfl, rfl, rfl, rfl, rfl, rfl, rfl, rfl, rfl, trivial⟩, fun _ _ h => h⟩)
    have n0_1_2_3_4_5_6_7 : ∀ (vr : Nat), F [0, 1, 2, 3, 4, 5, 6, 7] ⟨[(1, HV.fptr [HV.int .i64 (Ln : Int), HV.int .i64 (Sn : Int), slE eFromLabelTo E] 0), (2, HV.ptr 27002 v2 0), (7, HV.ptr 27007 u7 0), (26, HV.int .i64 (Sn : Int)), (27, HV.int .i64 (rs.length : Int)), (29, HV.ptr 27007 u7 1), (30, HV.ar 27038 ov 1 0 (hdr 0 rs).length), (31, HV.fptr [HV.int .i64 (Ln : Int), HV.int .i64 (Sn : Int), slE eFromLabelTo E] 1), (32, HV.int .i64 (Sn : Int)), (33, HV.sl 1 1 [HV.int .i64 (Sn : Int)]), (34, HV.fptr [HV.int .i64 (Ln : Int), HV.int .i64 (Sn : Int), slE eFromLabelTo E] 0), (35, HV.int .i64 (Ln : Int)), (36, HV.ar (rid rs.length) vr 1 0 (List.replicate Ln (Sn : Int)).length)], hpA v2 u7 ov (Ln : Int) (hdr 0 rs).length ov (hdr 0 rs) (rs ++ [(vr, List.replicate Ln (Sn : Int))])⟩ := by
      intro vr
      refine l_step hF rfl [8] rfl rfl ⟨?_, trivial⟩
      · exact l_op rfl rfl rfl (o_bsl rfl rfl (as_of (cs := [HV.ar (rid rs.length) vr 1 0 (List.replicate Ln (Sn : Int)).length]) ty39 ty30 rfl rfl rfl rfl rfl) (b_nil (l_go hF rfl (n0_1_2_3_4_5_6_7_8 vr) ⟨leS_get ⟨rfl, rfl, rfl, rfl, rfl, rfl, rfl, rfl, rfl, rfl, rfl, rfl, rfl, rfl, trivial⟩, fun _ _ h => h⟩)))
    have n0_2_3_4_5_6_7 : ∀ (vr : Nat), F [0, 2, 3, 4, 5, 6, 7] ⟨[(1, HV.fptr [HV.int .i64 (Ln : Int), HV.int .i64 (Sn : Int), slE eFromLabelTo E] 0), (2, HV.ptr 27002 v2 0), (7, HV.ptr 27007 u7 0), (26, HV.int .i64 (Sn : Int)), (27, HV.int .i64 (rs.length : Int)), (29, HV.ptr 27007 u7 1), (31, HV.fptr [HV.int .i64 (Ln : Int), HV.int .i64 (Sn : Int), slE eFromLabelTo E] 1), (32, HV.int .i64 (Sn : Int)), (33, HV.sl 1 1 [HV.int .i64 (Sn : Int)]), (34, HV.fptr [HV.int .i64 (Ln : Int), HV.int .i64 (Sn : Int), slE eFromLabelTo E] 0), (35, HV.int .i64 (Ln : Int)), (36, HV.ar (rid rs.length) vr 1 0 (List.replicate Ln (Sn : Int)).length)], hpA v2 u7 ov (Ln : Int) (hdr 0 rs).length ov (hdr 0 rs) (rs ++ [(vr, List.replicate Ln (Sn : Int))])⟩ := by
      intro vr
      refine l_step hF rfl [1, 8] rfl rfl ⟨?_, ?_, trivial⟩
      · exact l_ov rfl rfl rfl rfl (v_loadP ty39 rfl rfl (l_lit rfl rfl)) (l_go hF rfl (n0_1_2_3_4_5_6_7 vr) ⟨leS_get ⟨rfl, rfl, rfl, rfl, rfl, rfl, rfl, rfl, rfl, rfl, rfl, rfl, rfl, trivial⟩, fun _ _ h => h⟩)
      · exact l_op rfl rfl rfl (o_bsl rfl rfl (as_of (cs := [HV.ar (rid rs.length) vr 1 0 (List.replicate Ln (Sn : Int)).length]) ty39 ty30 rfl rfl rfl rfl rfl) (b_nil (l_go hF rfl (n0_2_3_4_5_6_7_8 vr) ⟨leS_get ⟨rfl, rfl, rfl, rfl, rfl, rfl, rfl, rfl, rfl, rfl, rfl, rfl, rfl, trivial⟩, fun _ _ h => h⟩)))
    have n0_1_2_3_4_5_6 : F [0, 1, 2, 3, 4, 5, 6] ⟨[(1, HV.fptr [HV.int .i64 (Ln : Int), HV.int .i64 (Sn : Int), slE eFromLabelTo E] 0), (2, HV.ptr 27002 v2 0), (7, HV.ptr 27007 u7 0), (26, HV.int .i64 (Sn : Int)), (27, HV.int .i64 (rs.length : Int)), (29, HV.ptr 27007 u7 1), (30, HV.ar 27038 ov 1 0 (hdr 0 rs).length), (31, HV.fptr [HV.int .i64 (Ln : Int), HV.int .i64 (Sn : Int), slE eFromLabelTo E] 1), (32, HV.int .i64 (Sn : Int)), (33, HV.sl 1 1 [HV.int .i64 (Sn : Int)]), (34, HV.fptr [HV.int .i64 (Ln : Int), HV.int .i64 (Sn : Int), slE eFromLabelTo E] 0), (35, HV.int .i64 (Ln : Int))], hpA v2 u7 ov (Ln : Int) (hdr 0 rs).length ov (hdr 0 rs) rs⟩ := by
      refine l_step hF rfl [7] rfl rfl ⟨?_, trivial⟩
      · exact l_op rfl rfl rfl (o_callA rfl rfl rfl rfl (repI_own (Sn : Int) hLn rs.length fun vr => b_nil (l_go hF rfl (n0_1_2_3_4_5_6_7 vr) ⟨leS_get ⟨rfl, rfl, rfl, rfl, rfl, rfl, rfl, rfl, rfl, rfl, rfl, rfl, rfl, trivial⟩, hp_call⟩)))
    have n0_2_3_4_5_6 : F [0, 2, 3, 4, 5, 6] ⟨[(1, HV.fptr [HV.int .i64 (Ln : Int), HV.int .i64 (Sn : Int), slE eFromLabelTo E] 0), (2, HV.ptr 27002 v2 0), (7, HV.ptr 27007 u7 0), (26, HV.int .i64 (Sn : Int)), (27, HV.int .i64 (rs.length : Int)), (29, HV.ptr 27007 u7 1), (31, HV.fptr [HV.int .i64 (Ln : Int), HV.int .i64 (Sn : Int), slE eFromLabelTo E] 1), (32, HV.int .i64 (Sn : Int)), (33, HV.sl 1 1 [HV.int .i64 (Sn : Int)]), (34, HV.fptr [HV.int .i64 (Ln : Int), HV.int .i64 (Sn : Int), slE eFromLabelTo E] 0), (35, HV.int .i64 (Ln : Int))], hpA v2 u7 ov (Ln : Int) (hdr 0 rs).length ov (hdr 0 rs) rs⟩ := by
      refine l_step hF rfl [1, 7] rfl rfl ⟨?_, ?_, trivial⟩
      · exact l_ov rfl rfl rfl rfl (v_loadP ty39 rfl rfl (l_lit rfl rfl)) (l_go hF rfl (n0_1_2_3_4_5_6) ⟨leS_get ⟨rfl, rfl, rfl, rfl, rfl, rfl, rfl, rfl, rfl, rfl, rfl, rfl, trivial⟩, fun _ _ h => h⟩)
      · exact l_op rfl rfl rfl (o_callA rfl rfl rfl rfl (repI_own (Sn : Int) hLn rs.length fun vr => b_nil (l_go hF rfl (n0_2_3_4_5_6_7 vr) ⟨leS_get ⟨rfl, rfl, rfl, rfl, rfl, rfl, rfl, rfl, rfl, rfl, rfl, rfl, trivial⟩, hp_call⟩)))
    have n0_1_2_3_5_6 : F [0, 1, 2, 3, 5, 6] ⟨[(1, HV.fptr [HV.int .i64 (Ln : Int), HV.int .i64 (Sn : Int), slE eFromLabelTo E] 0), (2, HV.ptr 27002 v2 0), (7, HV.ptr 27007 u7 0), (26, HV.int .i64 (Sn : Int)), (27, HV.int .i64 (rs.length : Int)), (29, HV.ptr 27007 u7 1), (30, HV.ar 27038 ov 1 0 (hdr 0 rs).length), (31, HV.fptr [HV.int .i64 (Ln : Int), HV.int .i64 (Sn : Int), slE eFromLabelTo E] 1), (32, HV.int .i64 (Sn : Int)), (34, HV.fptr [HV.int .i64 (Ln : Int), HV.int .i64 (Sn : Int), slE eFromLabelTo E] 0), (35, HV.int .i64 (Ln : Int))], hpA v2 u7 ov (Ln : Int) (hdr 0 rs).length ov (hdr 0 rs) rs⟩ := by
      refine l_step hF rfl [4] rfl rfl ⟨?_, trivial⟩
      · exact l_op rfl rfl rfl (o_bsl rfl rfl (as_of (cs := [HV.int .i64 (Sn : Int)]) ty30 ty3 rfl rfl rfl rfl rfl) (b_nil (l_go hF rfl (n0_1_2_3_4_5_6) ⟨leS_get ⟨rfl, rfl, rfl, rfl, rfl, rfl, rfl, rfl, rfl, rfl, rfl, rfl, trivial⟩, fun _ _ h => h⟩)))
    have n0_1_2_3_4_5 : F [0, 1, 2, 3, 4, 5] ⟨[(1, HV.fptr [HV.int .i64 (Ln : Int), HV.int .i64 (Sn : Int), slE eFromLabelTo E] 0), (2, HV.ptr 27002 v2 0), (7, HV.ptr 27007 u7 0), (26, HV.int .i64 (Sn : Int)), (27, HV.int .i64 (rs.length : Int)), (29, HV.ptr 27007 u7 1), (30, HV.ar 27038 ov 1 0 (hdr 0 rs).length), (31, HV.fptr [HV.int .i64 (Ln : Int), HV.int .i64 (Sn : Int), slE eFromLabelTo E] 1), (32, HV.int .i64 (Sn : Int)), (33, HV.sl 1 1 [HV.int .i64 (Sn : Int)]), (34, HV.fptr [HV.int .i64 (Ln : Int), HV.int .i64 (Sn : Int), slE eFromLabelTo E] 0)], hpA v2 u7 ov (Ln : Int) (hdr 0 rs).length ov (hdr 0 rs) rs⟩ := by
      refine l_step hF rfl [6] rfl rfl ⟨?_, trivial⟩
      · exact l_ov rfl rfl rfl rfl (v_loadF ty3 rfl (l_lit rfl rfl)) (l_go hF rfl (n0_1_2_3_4_5_6) ⟨leS_get ⟨rfl, rfl, rfl, rfl, rfl, rfl, rfl, rfl, rfl, rfl, rfl, rfl, trivial⟩, fun _ _ h => h⟩)
    have n0_2_3_5_6 : F [0, 2, 3, 5, 6] ⟨[(1, HV.fptr [HV.int .i64 (Ln : Int), HV.int .i64 (Sn : Int), slE eFromLabelTo E] 0), (2, HV.ptr 27002 v2 0), (7, HV.ptr 27007 u7 0), (26, HV.int .i64 (Sn : Int)), (27, HV.int .i64 (rs.length : Int)), (29, HV.ptr 27007 u7 1), (31, HV.fptr [HV.int .i64 (Ln : Int), HV.int .i64 (Sn : Int), slE eFromLabelTo E] 1), (32, HV.int .i64 (Sn : Int)), (34, HV.fptr [HV.int .i64 (Ln : Int), HV.int .i64 (Sn : Int), slE eFromLabelTo E] 0), (35, HV.int .i64 (Ln : Int))], hpA v2 u7 ov (Ln : Int) (hdr 0 rs).length ov (hdr 0 rs) rs⟩ := by
      refine l_step hF rfl [1, 4] rfl rfl ⟨?_, ?_, trivial⟩
      · exact l_ov rfl rfl rfl rfl (v_loadP ty39 rfl rfl (l_lit rfl rfl)) (l_go hF rfl (n0_1_2_3_5_6) ⟨leS_get ⟨rfl, rfl, rfl, rfl, rfl, rfl, rfl, rfl, rfl, rfl, rfl, trivial⟩, fun _ _ h => h⟩)
      · exact l_op rfl rfl rfl (o_bsl rfl rfl (as_of (cs := [HV.int .i64 (Sn : Int)]) ty30 ty3 rfl rfl rfl rfl rfl) (b_nil (l_go hF rfl (n0_2_3_4_5_6) ⟨leS_get ⟨rfl, rfl, rfl, rfl, rfl, rfl, rfl, rfl, rfl, rfl, rfl, trivial⟩, fun _ _ h => h⟩)))
    have n0_1_2_5_6 : F [0, 1, 2, 5, 6] ⟨[(1, HV.fptr [HV.int .i64 (Ln : Int), HV.int .i64 (Sn : Int), slE eFromLabelTo E] 0), (2, HV.ptr 27002 v2 0), (7, HV.ptr 27007 u7 0), (26, HV.int .i64 (Sn : Int)), (27, HV.int .i64 (rs.length : Int)), (29, HV.ptr 27007 u7 1), (30, HV.ar 27038 ov 1 0 (hdr 0 rs).length), (31, HV.fptr [HV.int .i64 (Ln : Int), HV.int .i64 (Sn : Int), slE eFromLabelTo E] 1), (34, HV.fptr [HV.int .i64 (Ln : Int), HV.int .i64 (Sn : Int), slE eFromLabelTo E] 0), (35, HV.int .i64 (Ln : Int))], hpA v2 u7 ov (Ln : Int) (hdr 0 rs).length ov (hdr 0 rs) rs⟩ := by
      refine l_step hF rfl [3] rfl rfl ⟨?_, trivial⟩
      · exact l_ov rfl rfl rfl rfl (v_loadF ty3 rfl (l_lit rfl rfl)) (l_go hF rfl (n0_1_2_3_5_6) ⟨leS_get ⟨rfl, rfl, rfl, rfl, rfl, rfl, rfl, rfl, rfl, rfl, rfl, trivial⟩, fun _ _ h => h⟩)
    have n0_2_3_4_5 : F [0, 2, 3, 4, 5] ⟨[(1, HV.fptr [HV.int .i64 (Ln : Int), HV.int .i64 (Sn : Int), slE eFromLabelTo E] 0), (2, HV.ptr 27002 v2 0), (7, HV.ptr 27007 u7 0), (26, HV.int .i64 (Sn : Int)), (27, HV.int .i64 (rs.length : Int)), (29, HV.ptr 27007 u7 1), (31, HV.fptr [HV.int .i64 (Ln : Int), HV.int .i64 (Sn : Int), slE eFromLabelTo E] 1), (32, HV.int .i64 (Sn : Int)), (33, HV.sl 1 1 [HV.int .i64 (Sn : Int)]), (34, HV.fptr [HV.int .i64 (Ln : Int), HV.int .i64 (Sn : Int), slE eFromLabelTo E] 0)], hpA v2 u7 ov (Ln : Int) (hdr 0 rs).length ov (hdr 0 rs) rs⟩ := by
      refine l_step hF rfl [1, 6] rfl rfl ⟨?_, ?_, trivial⟩
      · exact l_ov rfl rfl rfl rfl (v_loadP ty39 rfl rfl (l_lit rfl rfl)) (l_go hF rfl (n0_1_2_3_4_5) ⟨leS_get ⟨rfl, rfl, rfl, rfl, rfl, rfl, rfl, rfl, rfl, rfl, rfl, trivial⟩, fun _ _ h => h⟩)
      · exact l_ov rfl rfl rfl rfl (v_loadF ty3 rfl (l_lit rfl rfl)) (l_go hF rfl (n0_2_3_4_5_6) ⟨leS_get ⟨rfl, rfl, rfl, rfl, rfl, rfl, rfl, rfl, rfl, rfl, rfl, trivial⟩, fun _ _ h => h⟩)
    have n0_1_2_3_5 : F [0, 1, 2, 3, 5] ⟨[(1, HV.fptr [HV.int .i64 (Ln : Int), HV.int .i64 (Sn : Int), slE eFromLabelTo E] 0), (2, HV.ptr 27002 v2 0), (7, HV.ptr 27007 u7 0), (26, HV.int .i64 (Sn : Int)), (27, HV.int .i64 (rs.length : Int)), (29, HV.ptr 27007 u7 1), (30, HV.ar 27038 ov 1 0 (hdr 0 rs).length), (31, HV.fptr [HV.int .i64 (Ln : Int), HV.int .i64 (Sn : Int), slE eFromLabelTo E] 1), (32, HV.int .i64 (Sn : Int)), (34, HV.fptr [HV.int .i64 (Ln : Int), HV.int .i64 (Sn : Int), slE eFromLabelTo E] 0)], hpA v2 u7 ov (Ln : Int) (hdr 0 rs).length ov (hdr 0 rs) rs⟩ := by
      refine l_step hF rfl [4, 6] rfl rfl ⟨?_, ?_, trivial⟩
      · exact l_op rfl rfl rfl (o_bsl rfl rfl (as_of (cs := [HV.int .i64 (Sn : Int)]) ty30 ty3 rfl rfl rfl rfl rfl) (b_nil (l_go hF rfl (n0_1_2_3_4_5) ⟨leS_get ⟨rfl, rfl, rfl, rfl, rfl, rfl, rfl, rfl, rfl, rfl, rfl, trivial⟩, fun _ _ h => h⟩)))
      · exact l_ov rfl rfl rfl rfl (v_loadF ty3 rfl (l_lit rfl rfl)) (l_go hF rfl (n0_1_2_3_5_6) ⟨leS_get ⟨rfl, rfl, rfl, rfl, rfl, rfl, rfl, rfl, rfl, rfl, rfl, trivial⟩, fun _ _ h => h⟩)
    have n0_2_5_6 : F [0, 2, 5, 6] ⟨[(1, HV.fptr [HV.int .i64 (Ln : Int), HV.int .i64 (Sn : Int), slE eFromLabelTo E] 0), (2, HV.ptr 27002 v2 0), (7, HV.ptr 27007 u7 0), (26, HV.int .i64 (Sn : Int)), (27, HV.int .i64 (rs.length : Int)), (29, HV.ptr 27007 u7 1), (31, HV.fptr [HV.int .i64 (Ln : Int), HV.int .i64 (Sn : Int), slE eFromLabelTo E] 1), (34, HV.fptr [HV.int .i64 (Ln : Int), HV.int .i64 (Sn : Int), slE eFromLabelTo E] 0), (35, HV.int .i64 (Ln : Int))], hpA v2 u7 ov (Ln : Int) (hdr 0 rs).length ov (hdr 0 rs) rs⟩ := by
      refine l_step hF rfl [1, 3] rfl rfl ⟨?_, ?_, trivial⟩
      · exact l_ov rfl rfl rfl rfl (v_loadP ty39 rfl rfl (l_lit rfl rfl)) (l_go hF rfl (n0_1_2_5_6) ⟨leS_get ⟨rfl, rfl, rfl, rfl, rfl, rfl, rfl, rfl, rfl, rfl, trivial⟩, fun _ _ h => h⟩)
      · exact l_ov rfl rfl rfl rfl (v_loadF ty3 rfl (l_lit rfl rfl)) (l_go hF rfl (n0_2_3_5_6) ⟨leS_get ⟨rfl, rfl, rfl, rfl, rfl, rfl, rfl, rfl, rfl, rfl, trivial⟩, fun _ _ h => h⟩)
    have n0_2_3_5 : F [0, 2, 3, 5] ⟨[(1, HV.fptr [HV.int .i64 (Ln : Int), HV.int .i64 (Sn : Int), slE eFromLabelTo E] 0), (2, HV.ptr 27002 v2 0), (7, HV.ptr 27007 u7 0), (26, HV.int .i64 (Sn : Int)), (27, HV.int .i64 (rs.length : Int)), (29, HV.ptr 27007 u7 1), (31, HV.fptr [HV.int .i64 (Ln : Int), HV.int .i64 (Sn : Int), slE eFromLabelTo E] 1), (32, HV.int .i64 (Sn : Int)), (34, HV.fptr [HV.int .i64 (Ln : Int), HV.int .i64 (Sn : Int), slE eFromLabelTo E] 0)], hpA v2 u7 ov (Ln : Int) (hdr 0 rs).length ov (hdr 0 rs) rs⟩ := by
      refine l_step hF rfl [1, 4, 6] rfl rfl ⟨?_, ?_, ?_, trivial⟩
      · exact l_ov rfl rfl rfl rfl (v_loadP ty39 rfl rfl (l_lit rfl rfl)) (l_go hF rfl (n0_1_2_3_5) ⟨leS_get ⟨rfl, rfl, rfl, rfl, rfl, rfl, rfl, rfl, rfl, rfl, trivial⟩, fun _ _ h => h⟩)
      · exact l_op rfl rfl rfl (o_bsl rfl rfl (as_of (cs := [HV.int .i64 (Sn : Int)]) ty30 ty3 rfl rfl rfl rfl rfl) (b_nil (l_go hF rfl (n0_2_3_4_5) ⟨leS_get ⟨rfl, rfl, rfl, rfl, rfl, rfl, rfl, rfl, rfl, rfl, trivial⟩, fun _ _ h => h⟩)))
      · exact l_ov rfl rfl rfl rfl (v_loadF ty3 rfl (l_lit rfl rfl)) (l_go hF rfl (n0_2_3_5_6) ⟨leS_get ⟨rfl, rfl, rfl, rfl, rfl, rfl, rfl, rfl, rfl, rfl, trivial⟩, fun _ _ h => h⟩)
    have n0_1_2_5 : F [0, 1, 2, 5] ⟨[(1, HV.fptr [HV.int .i64 (Ln : Int), HV.int .i64 (Sn : Int), slE eFromLabelTo E] 0), (2, HV.ptr 27002 v2 0), (7, HV.ptr 27007 u7 0), (26, HV.int .i64 (Sn : Int)), (27, HV.int .i64 (rs.length : Int)), (29, HV.ptr 27007 u7 1), (30, HV.ar 27038 ov 1 0 (hdr 0 rs).length), (31, HV.fptr [HV.int .i64 (Ln : Int), HV.int .i64 (Sn : Int), slE eFromLabelTo E] 1), (34, HV.fptr [HV.int .i64 (Ln : Int), HV.int .i64 (Sn : Int), slE eFromLabelTo E] 0)], hpA v2 u7 ov (Ln : Int) (hdr 0 rs).length ov (hdr 0 rs) rs⟩ := by
      refine l_step hF rfl [3, 6] rfl rfl ⟨?_, ?_, trivial⟩
      · exact l_ov rfl rfl rfl rfl (v_loadF ty3 rfl (l_lit rfl rfl)) (l_go hF rfl (n0_1_2_3_5) ⟨leS_get ⟨rfl, rfl, rfl, rfl, rfl, rfl, rfl, rfl, rfl, rfl, trivial⟩, fun _ _ h => h⟩)
      · exact l_ov rfl rfl rfl rfl (v_loadF ty3 rfl (l_lit rfl rfl)) (l_go hF rfl (n0_1_2_5_6) ⟨leS_get ⟨rfl, rfl, rfl, rfl, rfl, rfl, rfl, rfl, rfl, rfl, trivial⟩, fun _ _ h => h⟩)
    have n0_2_5 : F [0, 2, 5] ⟨[(1, HV.fptr [HV.int .i64 (Ln : Int), HV.int .i64 (Sn : Int), slE eFromLabelTo E] 0), (2, HV.ptr 27002 v2 0), (7, HV.ptr 27007 u7 0), (26, HV.int .i64 (Sn : Int)), (27, HV.int .i64 (rs.length : Int)), (29, HV.ptr 27007 u7 1), (31, HV.fptr [HV.int .i64 (Ln : Int), HV.int .i64 (Sn : Int), slE eFromLabelTo E] 1), (34, HV.fptr [HV.int .i64 (Ln : Int), HV.int .i64 (Sn : Int), slE eFromLabelTo E] 0)], hpA v2 u7 ov (Ln : Int) (hdr 0 rs).length ov (hdr 0 rs) rs⟩ := by
      refine l_step hF rfl [1, 3, 6] rfl rfl ⟨?_, ?_, ?_, trivial⟩
      · exact l_ov rfl rfl rfl rfl (v_loadP ty39 rfl rfl (l_lit rfl rfl)) (l_go hF rfl (n0_1_2_5) ⟨leS_get ⟨rfl, rfl, rfl, rfl, rfl, rfl, rfl, rfl, rfl, trivial⟩, fun _ _ h => h⟩)
      · exact l_ov rfl rfl rfl rfl (v_loadF ty3 rfl (l_lit rfl rfl)) (l_go hF rfl (n0_2_3_5) ⟨leS_get ⟨rfl, rfl, rfl, rfl, rfl, rfl, rfl, rfl, rfl, trivial⟩, fun _ _ h => h⟩)
      · exact l_ov rfl rfl rfl rfl (v_loadF ty3 rfl (l_lit rfl rfl)) (l_go hF rfl (n0_2_5_6) ⟨leS_get ⟨rfl, rfl, rfl, rfl, rfl, rfl, rfl, rfl, rfl, trivial⟩, fun _ _ h => h⟩)
    have n0_2 : F [0, 2] ⟨[(1, HV.fptr [HV.int .i64 (Ln : Int), HV.int .i64 (Sn : Int), slE eFromLabelTo E] 0), (2, HV.ptr 27002 v2 0), (7, HV.ptr 27007 u7 0), (26, HV.int .i64 (Sn : Int)), (27, HV.int .i64 (rs.length : Int)), (29, HV.ptr 27007 u7 1), (31, HV.fptr [HV.int .i64 (Ln : Int), HV.int .i64 (Sn : Int), slE eFromLabelTo E] 1)], hpA v2 u7 ov (Ln : Int) (hdr 0 rs).length ov (hdr 0 rs) rs⟩ := by
      refine l_take (i := 5) hF rfl rfl rfl (v_fieldAddrF fo24_0 rfl) ?_
      exact l_go hF rfl (n0_2_5) ⟨leS_get ⟨rfl, rfl, rfl, rfl, rfl, rfl, rfl, rfl, trivial⟩, fun _ _ h => h⟩
    have n0 : F [0] ⟨[(1, HV.fptr [HV.int .i64 (Ln : Int), HV.int .i64 (Sn : Int), slE eFromLabelTo E] 0), (2, HV.ptr 27002 v2 0), (7, HV.ptr 27007 u7 0), (26, HV.int .i64 (Sn : Int)), (27, HV.int .i64 (rs.length : Int)), (29, HV.ptr 27007 u7 1)], hpA v2 u7 ov (Ln : Int) (hdr 0 rs).length ov (hdr 0 rs) rs⟩ := by
      refine l_take (i := 2) hF rfl rfl rfl (v_fieldAddrF fo24_1 rfl) ?_
      exact l_go hF rfl (n0_2) ⟨leS_get ⟨rfl, rfl, rfl, rfl, rfl, rfl, rfl, trivial⟩, fun _ _ h => h⟩
    have n : F [] ⟨[(1, HV.fptr [HV.int .i64 (Ln : Int), HV.int .i64 (Sn : Int), slE eFromLabelTo E] 0), (2, HV.ptr 27002 v2 0), (7, HV.ptr 27007 u7 0), (26, HV.int .i64 (Sn : Int)), (27, HV.int .i64 (rs.length : Int))], hpA v2 u7 ov (Ln : Int) (hdr 0 rs).length ov (hdr 0 rs) rs⟩ := by
      refine l_take (i := 0) hF rfl rfl rfl (v_fieldAddrP fo54_1 rfl rfl) ?_
      exact l_go hF rfl (n0) ⟨leS_get ⟨rfl, rfl, rfl, rfl, rfl, rfl, trivial⟩, fun _ _ h => h⟩
    exact n
  have hc := of_decide_eq_false hc
  have hrl2 : rs.length = Sn := by omega
  refine AW.exit ?_
  refine AW.seq ?_
  refine AW.rgs rfl fun K hK => ?_
  refine bv rfl (v_fieldAddrF fo24_2 rfl) ?_
  refine bv rfl (v_loadF ty22 rfl (l_lit rfl rfl)) ?_
  refine bv rfl (v_lenF rfl rfl ty22 rfl) ?_
  refine mv rfl rfl ?_
  refine b_nil (hK _ (AW.to (to_le (s' := ⟨[(1, HV.fptr [HV.int .i64 (Ln : Int), HV.int .i64 (Sn : Int), slE eFromLabelTo E] 0), (2, HV.ptr 27002 v2 0), (7, HV.ptr 27007 u7 0), (42, slE eFromLabelTo E), (43, HV.int .i64 (E.length : Int)), (44, HV.int .i64 0)], hpA v2 u7 ov (Ln : Int) (hdr 0 rs).length ov (hdr 0 rs) rs⟩) ⟨leS_get ⟨rfl, rfl, rfl, rfl, rfl, rfl, trivial⟩, fun _ _ h => h⟩ ?_)))
  clear hK K
  refine AW.block ?_
  refine AW.loopS (fun a : Nat × Rws => ⟨[(1, HV.fptr [HV.int .i64 (Ln : Int), HV.int .i64 (Sn : Int), slE eFromLabelTo E] 0), (2, HV.ptr 27002 v2 0), (7, HV.ptr 27007 u7 0), (42, slE eFromLabelTo E), (43, HV.int .i64 (E.length : Int)), (44, HV.int .i64 (a.1 : Int))], hpA v2 u7 ov (Ln : Int) (hdr 0 a.2).length ov (hdr 0 a.2) a.2⟩)
    (fun a => a.1 ≤ E.length ∧ a.2.length = Sn ∧ (∀ (i v : Nat) (l : List Int), a.2[i]? = some (v, l) → l.length = Ln) ∧ a.2.map (·.2) = rowsK ((Ln : Int), (Sn : Int), E) a.1) (fun a => E.length - a.1) (0, rs) ⟨leS_get ⟨rfl, rfl, rfl, rfl, rfl, rfl, trivial⟩, fun _ _ h => h⟩ ⟨Nat.zero_le _, hrl2, ?_, ?_⟩ ?_
  · intro i v l hi
    have : (rs.map (·.2))[i]? = some l := by rw [List.getElem?_map, hi]; rfl
    rw [hrs] at this
    have hm := List.mem_of_getElem? this
    rw [List.eq_of_mem_replicate hm]
    simp
  · show rs.map (·.2) = rowsK _ 0
    rw [hrs, hrl2]
    rfl
  clear hrs hrl hfit hrl2
  rintro ⟨k, rs⟩ ⟨hk, hrl, hrw, hrs⟩
  simp only at hk hrl hrw hrs
  refine AW.rgs rfl fun K hK => ?_
  refine bv rfl (v_bin rfl rfl b_lss) ?_
  refine b_nil (hK _ (AW.to (to_le (s' := ⟨[(1, HV.fptr [HV.int .i64 (Ln : Int), HV.int .i64 (Sn : Int), slE eFromLabelTo E] 0), (2, HV.ptr 27002 v2 0), (7, HV.ptr 27007 u7 0), (42, slE eFromLabelTo E), (43, HV.int .i64 (E.length : Int)), (44, HV.int .i64 (k : Int)), (45, HV.bool (decide ((k : Int) < (E.length : Int))))], hpA v2 u7 ov (Ln : Int) (hdr 0 rs).length ov (hdr 0 rs) rs⟩) ⟨leS_get ⟨rfl, rfl, rfl, rfl, rfl, rfl, rfl, trivial⟩, fun _ _ h => h⟩ ?_)))
  clear hK K
  refine AW.cseq rfl (fun hc => ?_) (fun hc => ?_)
  · have hc := of_decide_eq_true hc
    have hkl : k < E.length := by omega
    obtain ⟨b1, b2⟩ := hed _ (List.getElem_mem hkl)
    have hidx : idx E (k : Int) = some E[k] := by rw [idx_nat, List.getElem?_eq_getElem hkl]
    have hfl : E[k].1.toNat < rs.length := by omega
    obtain ⟨⟨rv, rl⟩, hrow⟩ : ∃ b, rs[E[k].1.toNat]? = some b := ⟨_, List.getElem?_eq_getElem hfl⟩
    have hrlen := hrw _ _ _ hrow
    have hhd : (hdr 0 rs)[E[k].1.toNat * 1]? = some (HV.ar (rid E[k].1.toNat) rv 1 0 rl.length) := by
      have := hdr_get 0 hrow
      rw [Nat.zero_add] at this
      rw [Nat.mul_one]
      exact this
    have hfj : 0 ≤ E[k].1 ∧ E[k].1 < ((hdr 0 rs).length : Int) := by rw [hdr_len]; omega
    have hlj : 0 ≤ E[k].2.1 ∧ E[k].2.1 < (rl.length : Int) := by omega
    refine AW.skip ?_
    refine AW.seq (AW.block ?_)
    refine AW.rgs rfl fun K hK => ?_
    refine bv rfl (v_idxF ty22 es22 rfl rfl (idx_lt hidx)) ?_
    refine bv rfl (v_loadF ty49 rfl (l_agg eFromLabelTo hidx rfl rfl)) ?_
    refine b_op rfl (o_alloc (fid := 27) (zs := [HV.int .i64 0, HV.int .i64 0, HV.int .i64 0]) 27009 rfl rfl ty49 rfl (fun v9 => ?_))
    refine b_op rfl (o_store (cs := cFromLabelTo E[k]) (zs := cFromLabelTo E[k]) rfl rfl rfl ty49 rfl rfl rfl rfl rfl ?_)
    refine b_nil (hK _ (AW.to (to_le (s' := ⟨[(1, HV.fptr [HV.int .i64 (Ln : Int), HV.int .i64 (Sn : Int), slE eFromLabelTo E] 0), (2, HV.ptr 27002 v2 0), (7, HV.ptr 27007 u7 0), (9, HV.ptr 27009 v9 0), (42, slE eFromLabelTo E), (43, HV.int .i64 (E.length : Int)), (44, HV.int .i64 (k : Int))], (27009, v9, .arr 3 49 (cFromLabelTo E[k])) :: hpA v2 u7 ov (Ln : Int) (hdr 0 rs).length ov (hdr 0 rs) rs⟩) ⟨leS_get ⟨rfl, rfl, rfl, rfl, rfl, rfl, rfl, trivial⟩, le_shadow⟩ ?_)))
    clear hK K
    have hrg : hget ((27009, v9, .arr 3 49 (cFromLabelTo E[k])) :: hpA v2 u7 ov (Ln : Int) (hdr 0 rs).length ov (hdr 0 rs) rs) (rid E[k].1.toNat) = some (rv, .arr 1 3 (eInt.E rl)) := by
      rw [hget_tl (by unfold rid; omega), hpA_rid]
      have := hget_rows 0 hrow
      rwa [Nat.zero_add] at this
    refine AW.dy follows fun K hK => ?_
    refine y_st 10 rfl rfl ?_
    refine sv rfl (v_fieldAddrP fo54_1 rfl rfl) ?_
    refine sv rfl (v_loadP ty39 rfl rfl (l_lit rfl rfl)) ?_
    refine sv rfl (v_fieldAddrP fo49_0 rfl rfl) ?_
    refine sv rfl (v_loadP ty3 rfl rfl (l_lit rfl rfl)) ?_
    refine sv rfl (v_idxA ty39 es39 rfl rfl hfj rfl) ?_
    refine sv rfl (v_loadP ty30 rfl rfl (l_lit rfl hhd)) ?_
    refine sv rfl (v_fieldAddrP fo49_1 rfl rfl) ?_
    refine sv rfl (v_loadP ty3 rfl rfl (l_lit rfl rfl)) ?_
    refine sv rfl (v_fieldAddrP fo49_2 rfl rfl) ?_
    refine sv rfl (v_loadP ty3 rfl rfl (l_lit rfl rfl)) ?_
    refine s_nil ?_
    refine y_op rfl rfl rfl rfl (o_val rfl (v_idxA ty30 es30 rfl rfl hlj hrg) ?_)
    refine b_nil ?_
    refine y_op rfl rfl rfl rfl (o_storeE eInt (l := rl) (j := E[k].2.1) (v := E[k].2.2) rfl rfl rfl ty3 rfl hrg rfl hlj ?_)
    refine b_nil ?_
    refine y_nil rfl (hK _ ?_)
    clear hK K
    refine AW.rg rfl fun K hK => ?_
    refine bv rfl (v_bin rfl rfl b_add) ?_
    refine mv rfl rfl ?_
    refine b_nil (hK _ ?_)
    clear hK K
    obtain ⟨e1, e2⟩ := rows_set hrow (l' := rl.set E[k].2.1.toNat E[k].2.2) (by simp)
    refine ⟨(k + 1, rs.set E[k].1.toNat (rv, rl.set E[k].2.1.toNat E[k].2.2)), ⟨by simp only; omega, by simp only [List.length_set]; exact hrl, ?_, ?_⟩, by simp only; omega, ?_⟩
    · intro i v l hi
      simp only at hi
      by_cases e : E[k].1.toNat = i
      · subst e
        rw [List.getElem?_set_self hfl] at hi
        cases hi
        rw [List.length_set]; exact hrlen
      · rw [List.getElem?_set_ne e] at hi
        exact hrw i v l hi
    · show (rs.set _ _).map (·.2) = rowsK _ (k + 1)
      have es : rowsK ((Ln : Int), (Sn : Int), E) (k + 1) = setR (rowsK ((Ln : Int), (Sn : Int), E) k) E[k] := by
        unfold rowsK
        simp only
        rw [← List.take_append_getElem hkl, List.foldl_append]
        rfl
      rw [es, ← hrs, List.map_set]
      unfold setR
      congr 2
      rw [List.getD_eq_getElem?_getD, List.getElem?_map, hrow]
      rfl
    · have e3 : IntKind.wrap .i64 ((k : Int) + 1) = ((k + 1 : Nat) : Int) := by rw [w64 (by omega) (by omega)]; omega
      simp only [e1]
      refine ⟨leS_get ⟨rfl, rfl, rfl, rfl, rfl, by rw [← e3]; rfl, trivial⟩, leH_get ⟨by rw [hget_tl (by unfold rid; omega)]; rfl, by rw [hget_tl (by unfold rid; omega)]; rfl, by rw [hget_tl (by unfold rid; omega)]; rfl, leH_rows _ 0 fun i v l hi => ?_⟩⟩
      have h1 := e2 _ _ (hget_rows 0 hi)
      rw [Nat.zero_add] at h1
      show hget ((rid E[k].1.toNat, rv, AObj.arr 1 3 (eInt.E (rl.set E[k].2.1.toNat E[k].2.2))) :: (27009, v9, AObj.arr 3 49 (cFromLabelTo E[k])) :: hpA v2 u7 ov (Ln : Int) (hdr 0 rs).length ov (hdr 0 rs) rs) (rid (0 + i)) = _
      rw [Nat.zero_add]
      by_cases e : i = E[k].1.toNat
      · subst e
        rw [hget_hd] at h1 ⊢
        exact h1
      · rw [hget_tl (fun x => e (rid_inj x))] at h1 ⊢
        rw [hget_tl (by unfold rid; omega), hpA_rid]
        exact h1
  have hc := of_decide_eq_false hc
  have hkE : k = E.length := by omega
  subst hkE
  have hSL : IntKind.wrap .i64 ((Sn : Int) * (Ln : Int)) = (Sn : Int) * (Ln : Int) := by
    have h1 : Sn * Ln ≤ 1000 * 1000 := Nat.mul_le_mul (by omega) (by omega)
    rw [← Int.natCast_mul, w64 (by omega) (by omega)]
  refine AW.exit ?_
  refine AW.seq ?_
  refine AW.rgs rfl fun K hK => ?_
  refine bv rfl (v_fieldAddrF fo24_2 rfl) ?_
  refine bv rfl (v_loadF ty22 rfl (l_lit rfl rfl)) ?_
  refine bv rfl (v_lenF rfl rfl ty22 rfl) ?_
  refine bv rfl (v_fieldAddrF fo24_1 rfl) ?_
  refine bv rfl (v_loadF ty3 rfl (l_lit rfl rfl)) ?_
  refine bv rfl (v_fieldAddrF fo24_0 rfl) ?_
  refine bv rfl (v_loadF ty3 rfl (l_lit rfl rfl)) ?_
  refine bv rfl (v_bin rfl rfl b_mul) ?_
  rw [hSL]
  refine bv rfl (v_bin rfl rfl b_eql) ?_
  refine b_nil (hK _ (AW.to (to_le (s' := ⟨[(1, HV.fptr [HV.int .i64 (Ln : Int), HV.int .i64 (Sn : Int), slE eFromLabelTo E] 0), (2, HV.ptr 27002 v2 0), (7, HV.ptr 27007 u7 0), (68, HV.bool (decide ((E.length : Int) = (Sn : Int) * (Ln : Int))))], hpA v2 u7 ov (Ln : Int) (hdr 0 rs).length ov (hdr 0 rs) rs⟩) ⟨leS_get ⟨rfl, rfl, rfl, rfl, trivial⟩, fun _ _ h => h⟩ ?_)))
  clear hK K
  refine AW.cond rfl (fun hc => ?_) (fun hc => ?_)
  · have hc := of_decide_eq_true hc
    have h := ifT hc h
    refine AW.rgs rfl fun K hK => ?_
    refine bv rfl (v_loadP ty54 rfl rfl (l_litA rfl (Nat.le_of_ble_eq_true rfl) rfl)) ?_
    refine b_op rfl (o_store (cs := [HV.int .i64 (Ln : Int), HV.ar 27038 ov 1 0 (hdr 0 rs).length]) (zs := [HV.int .i64 (Ln : Int), HV.ar 27038 ov 1 0 (hdr 0 rs).length]) rfl rfl rfl ty54 rfl rfl rfl rfl rfl ?_)
    refine mv rfl rfl ?_
    refine mv rfl rfl ?_
    refine b_nil (hK _ (AW.to (to_le (s' := ⟨[(2, HV.ptr 27002 v2 0), (3, HV.v (.slice none 0 0)), (4, HV.int .i64 0)], (27002, v2, .arr 2 54 [HV.int .i64 (Ln : Int), HV.ar 27038 ov 1 0 (hdr 0 rs).length]) :: (27038, ov, .arr 1 30 (hdr 0 rs)) :: rowsO 0 rs⟩) ⟨leS_get ⟨rfl, rfl, rfl, trivial⟩, leH_get ⟨rfl, rfl, leH_tab fun i => by rw [hget_tl (by unfold rid; omega), hpA_rid]⟩⟩ ?_)))
    clear hK K
    refine AW.to (to_weak ⟨[(2, HV.ptr 27002 v2 0), (3, slE eInt ([] : List Int)), (4, HV.int .i64 0)], (27002, v2, .arr 2 54 [HV.int .i64 (Ln : Int), HV.ar 27038 ov 1 0 (hdr 0 rs).length]) :: (27038, ov, .arr 1 30 (hdr 0 rs)) :: rowsO 0 rs⟩ ⟨⟨_, rfl, .refl _⟩, ⟨_, rfl, .nil _⟩, ⟨_, rfl, .refl _⟩, trivial⟩ ⟨rfl, rfl, leH_tab fun i => by rw [hget_tl (by unfold rid; omega), hget_tl (by unfold rid; omega)]⟩ ?_)
    have hfz := frz_tab (D := (27038, ov, .arr 1 30 (hdr 0 rs)) :: rowsO 0 rs) (ov := ov) (rs := rs) hget_hd fun i v l hi => by
      rw [hget_tl (by unfold rid; omega)]
      have := hget_rows 0 hi
      rwa [Nat.zero_add] at this
    refine AW.to (to_fill 3 ((27038, ov, .arr 1 30 (hdr 0 rs)) :: rowsO 0 rs) ⟨[(2, HV.ptr 27002 v2 0), (3, slE eInt ([] : List Int)), (4, HV.int .i64 0)], [(27002, v2, .arr 2 54 [HV.int .i64 (Ln : Int), slE (eSl eInt) (rs.map (·.2))])]⟩ ⟨⟨_, rfl, ?_⟩, ⟨_, rfl, rfl⟩, ⟨_, rfl, rfl⟩, trivial⟩ ⟨.inr ⟨_, _, _, rfl, congrArg (AObj.arr 2 54) (congrArg (fun z : HV => [HV.int .i64 (Ln : Int), z]) hfz.symm)⟩, trivial⟩ ⟨rfl, leH_tab fun i => by rw [hget_tl (by unfold rid; omega), hget_tl (by unfold rid; omega)]⟩ ⟨rfl, noneH_rows _ 0⟩ ?_)
    · rw [frz, hget_tl (by decide), hget_rows_no _ _ (fun i _ => by unfold rid; omega)]
    refine AW.ret ?_
    have h := Option.some.inj h
    subst h
    rw [hrs]
    exact ret_pure (hs := [HV.agg [HV.int .i64 (Ln : Int), slE (eSl eInt) (rowsK ((Ln : Int), (Sn : Int), E) E.length)], slE eInt ([] : List Int), HV.int .i64 0]) (.inr rfl) (resP ty54 rfl rfl (l_litA rfl (Nat.le_of_ble_eq_true rfl) rfl) (resT rfl (resT rfl rfl))) rfl ⟨⟨trivial, (clean_slE fun _ _ => ⟨(clean_slE fun _ _ => ⟨trivial, trivial⟩), trivial⟩), trivial⟩, (clean_slE fun _ _ => ⟨trivial, trivial⟩), trivial, trivial⟩
  have hc := of_decide_eq_false hc
  have h := ifF hc h
  refine AW.skip ?_
  have hfit : fits 24 ((hdr 0 rs).length + [HV.int .i64 0].length) := by rw [hdr_len]; exact ⟨by simp; omega, by simp only [maxLen, List.length_singleton]; omega⟩
  refine AW.dls follows fun K hK F hF => ?_
  refine l_go (L' := []) hF rfl (s' := ⟨[(1, HV.fptr [HV.int .i64 (Ln : Int), HV.int .i64 (Sn : Int), slE eFromLabelTo E] 0), (2, HV.ptr 27002 v2 0), (7, HV.ptr 27007 u7 0)], hpA v2 u7 ov (Ln : Int) (hdr 0 rs).length ov (hdr 0 rs) rs⟩) ?_ ⟨leS_get ⟨rfl, rfl, rfl, trivial⟩, fun _ _ h => h⟩
  have n0_1_2_3_4_5_6_7_8_9_10_11 : ∀ (vr ov2 : Nat), F [0, 1, 2, 3, 4, 5, 6, 7, 8, 9, 10, 11] ⟨[(1, HV.fptr [HV.int .i64 (Ln : Int), HV.int .i64 (Sn : Int), slE eFromLabelTo E] 0), (2, HV.ptr 27002 v2 0), (7, HV.ptr 27007 u7 0), (70, HV.ptr 27007 u7 1), (71, HV.ar 27038 ov 1 0 (hdr 0 rs).length), (72, HV.fptr [HV.int .i64 (Ln : Int), HV.int .i64 (Sn : Int), slE eFromLabelTo E] 1), (73, HV.int .i64 (Sn : Int)), (74, HV.sl 1 1 [HV.int .i64 (Sn : Int)]), (75, HV.fptr [HV.int .i64 (Ln : Int), HV.int .i64 (Sn : Int), slE eFromLabelTo E] 0), (76, HV.int .i64 (Ln : Int)), (77, HV.ar (rid rs.length) vr 1 0 (List.replicate Ln (Sn : Int)).length), (78, HV.sl 1 1 [HV.ar (rid rs.length) vr 1 0 (List.replicate Ln (Sn : Int)).length]), (79, HV.ar 27038 ov2 1 0 (hdr 0 rs ++ [HV.ar (rid rs.length) vr 1 0 (List.replicate Ln (Sn : Int)).length]).length), (80, HV.ptr 27007 u7 1)], hpA v2 u7 ov2 (Ln : Int) (hdr 0 rs ++ [HV.ar (rid rs.length) vr 1 0 (List.replicate Ln (Sn : Int)).length]).length ov2 (hdr 0 rs ++ [HV.ar (rid rs.length) vr 1 0 (List.replicate Ln (Sn : Int)).length]) (rs ++ [(vr, List.replicate Ln (Sn : Int))])⟩ := by
    intro vr ov2
    refine l_done hF rfl rfl (hK _ ?_)
    clear hF F hK K
    have e1 : hdr 0 (rs ++ [(vr, List.replicate Ln (Sn : Int))]) = hdr 0 rs ++ [HV.ar (rid rs.length) vr 1 0 (List.replicate Ln (Sn : Int)).length] := by rw [hdr_app, Nat.zero_add]
    rw [← e1]
    refine AW.dls follows fun K hK F hF => ?_
    refine l_go (L' := []) hF rfl (s' := ⟨[(1, HV.fptr [HV.int .i64 (Ln : Int), HV.int .i64 (Sn : Int), slE eFromLabelTo E] 0), (2, HV.ptr 27002 v2 0), (7, HV.ptr 27007 u7 0)], (27002, v2, .arr 2 54 zA) :: (27007, u7, .arr 2 54 [HV.int .i64 (Ln : Int), HV.ar 27038 ov2 1 0 (hdr 0 (rs ++ [(vr, List.replicate Ln (Sn : Int))])).length]) :: (27038, ov2, .arr 1 30 (hdr 0 (rs ++ [(vr, List.replicate Ln (Sn : Int))]))) :: rowsO 0 (rs ++ [(vr, List.replicate Ln (Sn : Int))])⟩) ?_ ⟨leS_get ⟨rfl, rfl, rfl, trivial⟩, fun _ _ h => h⟩
    have n0_1_2_3_4_5_6 : F [0, 1, 2, 3, 4, 5, 6] ⟨[(1, HV.fptr [HV.int .i64 (Ln : Int), HV.int .i64 (Sn : Int), slE eFromLabelTo E] 0), (2, HV.ptr 27002 v2 0), (7, HV.ptr 27007 u7 0), (81, HV.agg [HV.int .i64 (Ln : Int), HV.ar 27038 ov2 1 0 (hdr 0 (rs ++ [(vr, List.replicate Ln (Sn : Int))])).length]), (82, HV.fptr [HV.int .i64 (Ln : Int), HV.int .i64 (Sn : Int), slE eFromLabelTo E] 1), (83, HV.int .i64 (Sn : Int)), (84, HV.sl 1 1 [HV.int .i64 (Sn : Int)]), (3, HV.sl 1 1 [HV.int .i64 (Sn : Int)]), (4, HV.int .i64 0)], (27002, v2, .arr 2 54 [HV.int .i64 (Ln : Int), HV.ar 27038 ov2 1 0 (hdr 0 (rs ++ [(vr, List.replicate Ln (Sn : Int))])).length]) :: (27007, u7, .arr 2 54 [HV.int .i64 (Ln : Int), HV.ar 27038 ov2 1 0 (hdr 0 (rs ++ [(vr, List.replicate Ln (Sn : Int))])).length]) :: (27038, ov2, .arr 1 30 (hdr 0 (rs ++ [(vr, List.replicate Ln (Sn : Int))]))) :: rowsO 0 (rs ++ [(vr, List.replicate Ln (Sn : Int))])⟩ := by
      refine l_done hF rfl rfl (hK _ ?_)
      clear hF F hK K
      refine AW.to (to_le (s' := ⟨[(2, HV.ptr 27002 v2 0), (3, HV.sl 1 1 [HV.int .i64 (Sn : Int)]), (4, HV.int .i64 0)], (27002, v2, .arr 2 54 [HV.int .i64 (Ln : Int), HV.ar 27038 ov2 1 0 (hdr 0 (rs ++ [(vr, List.replicate Ln (Sn : Int))])).length]) :: (27038, ov2, .arr 1 30 (hdr 0 (rs ++ [(vr, List.replicate Ln (Sn : Int))]))) :: rowsO 0 (rs ++ [(vr, List.replicate Ln (Sn : Int))])⟩) ⟨leS_get ⟨rfl, rfl, rfl, trivial⟩, leH_get ⟨rfl, rfl, leH_tab fun i => by rw [hget_tl (by unfold rid; omega), hget_tl (by unfold rid; omega), hget_tl (by unfold rid; omega)]⟩⟩ ?_)
      have hfz := frz_tab (D := ((27038, ov2, .arr 1 30 (hdr 0 (rs ++ [(vr, List.replicate Ln (Sn : Int))]))) :: rowsO 0 (rs ++ [(vr, List.replicate Ln (Sn : Int))]))) (ov := ov2) (rs := (rs ++ [(vr, List.replicate Ln (Sn : Int))])) hget_hd fun i v l hi => by
        rw [hget_tl (by unfold rid; omega)]
        have := hget_rows 0 hi
        rwa [Nat.zero_add] at this
      refine AW.to (to_fill 3 ((27038, ov2, .arr 1 30 (hdr 0 (rs ++ [(vr, List.replicate Ln (Sn : Int))]))) :: rowsO 0 (rs ++ [(vr, List.replicate Ln (Sn : Int))])) ⟨[(2, HV.ptr 27002 v2 0), (3, HV.sl 1 1 [HV.int .i64 (Sn : Int)]), (4, HV.int .i64 0)], [(27002, v2, .arr 2 54 [HV.int .i64 (Ln : Int), slE (eSl eInt) ((rs ++ [(vr, List.replicate Ln (Sn : Int))]).map (·.2))])]⟩ ⟨⟨_, rfl, ?_⟩, ⟨_, rfl, rfl⟩, ⟨_, rfl, rfl⟩, trivial⟩ ⟨.inr ⟨_, _, _, rfl, congrArg (AObj.arr 2 54) (congrArg (fun z : HV => [HV.int .i64 (Ln : Int), z]) hfz.symm)⟩, trivial⟩ ⟨rfl, leH_tab fun i => by rw [hget_tl (by unfold rid; omega), hget_tl (by unfold rid; omega)]⟩ ⟨rfl, noneH_rows _ 0⟩ ?_)
      · rw [frz, hget_tl (by decide), hget_rows_no _ _ (fun i _ => by unfold rid; omega)]
      refine AW.ret ?_
      have h := Option.some.inj h
      subst h
      rw [List.map_append, hrs]
      exact ret_pure (hs := [HV.agg [HV.int .i64 (Ln : Int), slE (eSl eInt) (rowsK ((Ln : Int), (Sn : Int), E) E.length ++ [List.replicate Ln (Sn : Int)])], slE eInt [(Sn : Int)], HV.int .i64 0]) (.inr rfl) (resP ty54 rfl rfl (l_litA rfl (Nat.le_of_ble_eq_true rfl) rfl) (resT rfl (resT rfl rfl))) rfl ⟨⟨trivial, (clean_slE fun _ _ => ⟨(clean_slE fun _ _ => ⟨trivial, trivial⟩), trivial⟩), trivial⟩, (clean_slE fun _ _ => ⟨trivial, trivial⟩), trivial, trivial⟩
    have n0_1_2_3_4_5 : F [0, 1, 2, 3, 4, 5] ⟨[(1, HV.fptr [HV.int .i64 (Ln : Int), HV.int .i64 (Sn : Int), slE eFromLabelTo E] 0), (2, HV.ptr 27002 v2 0), (7, HV.ptr 27007 u7 0), (81, HV.agg [HV.int .i64 (Ln : Int), HV.ar 27038 ov2 1 0 (hdr 0 (rs ++ [(vr, List.replicate Ln (Sn : Int))])).length]), (82, HV.fptr [HV.int .i64 (Ln : Int), HV.int .i64 (Sn : Int), slE eFromLabelTo E] 1), (83, HV.int .i64 (Sn : Int)), (84, HV.sl 1 1 [HV.int .i64 (Sn : Int)]), (3, HV.sl 1 1 [HV.int .i64 (Sn : Int)])], (27002, v2, .arr 2 54 [HV.int .i64 (Ln : Int), HV.ar 27038 ov2 1 0 (hdr 0 (rs ++ [(vr, List.replicate Ln (Sn : Int))])).length]) :: (27007, u7, .arr 2 54 [HV.int .i64 (Ln : Int), HV.ar 27038 ov2 1 0 (hdr 0 (rs ++ [(vr, List.replicate Ln (Sn : Int))])).length]) :: (27038, ov2, .arr 1 30 (hdr 0 (rs ++ [(vr, List.replicate Ln (Sn : Int))]))) :: rowsO 0 (rs ++ [(vr, List.replicate Ln (Sn : Int))])⟩ := by
      refine l_take (i := 6) hF rfl rfl rfl (mv_val rfl rfl).2 ?_
      exact l_go hF rfl (n0_1_2_3_4_5_6) ⟨leS_get ⟨rfl, rfl, rfl, rfl, rfl, rfl, rfl, rfl, rfl, trivial⟩, fun _ _ h => h⟩
    have n0_1_2_3_4 : F [0, 1, 2, 3, 4] ⟨[(1, HV.fptr [HV.int .i64 (Ln : Int), HV.int .i64 (Sn : Int), slE eFromLabelTo E] 0), (2, HV.ptr 27002 v2 0), (7, HV.ptr 27007 u7 0), (81, HV.agg [HV.int .i64 (Ln : Int), HV.ar 27038 ov2 1 0 (hdr 0 (rs ++ [(vr, List.replicate Ln (Sn : Int))])).length]), (82, HV.fptr [HV.int .i64 (Ln : Int), HV.int .i64 (Sn : Int), slE eFromLabelTo E] 1), (83, HV.int .i64 (Sn : Int)), (84, HV.sl 1 1 [HV.int .i64 (Sn : Int)])], (27002, v2, .arr 2 54 [HV.int .i64 (Ln : Int), HV.ar 27038 ov2 1 0 (hdr 0 (rs ++ [(vr, List.replicate Ln (Sn : Int))])).length]) :: (27007, u7, .arr 2 54 [HV.int .i64 (Ln : Int), HV.ar 27038 ov2 1 0 (hdr 0 (rs ++ [(vr, List.replicate Ln (Sn : Int))])).length]) :: (27038, ov2, .arr 1 30 (hdr 0 (rs ++ [(vr, List.replicate Ln (Sn : Int))]))) :: rowsO 0 (rs ++ [(vr, List.replicate Ln (Sn : Int))])⟩ := by
      refine l_take (i := 5) hF rfl rfl rfl (mv_val rfl rfl).2 ?_
      exact l_go hF rfl (n0_1_2_3_4_5) ⟨leS_get ⟨rfl, rfl, rfl, rfl, rfl, rfl, rfl, rfl, trivial⟩, fun _ _ h => h⟩
    have n0_1_2_3 : F [0, 1, 2, 3] ⟨[(1, HV.fptr [HV.int .i64 (Ln : Int), HV.int .i64 (Sn : Int), slE eFromLabelTo E] 0), (2, HV.ptr 27002 v2 0), (7, HV.ptr 27007 u7 0), (81, HV.agg [HV.int .i64 (Ln : Int), HV.ar 27038 ov2 1 0 (hdr 0 (rs ++ [(vr, List.replicate Ln (Sn : Int))])).length]), (82, HV.fptr [HV.int .i64 (Ln : Int), HV.int .i64 (Sn : Int), slE eFromLabelTo E] 1), (83, HV.int .i64 (Sn : Int)), (84, HV.sl 1 1 [HV.int .i64 (Sn : Int)])], (27002, v2, .arr 2 54 zA) :: (27007, u7, .arr 2 54 [HV.int .i64 (Ln : Int), HV.ar 27038 ov2 1 0 (hdr 0 (rs ++ [(vr, List.replicate Ln (Sn : Int))])).length]) :: (27038, ov2, .arr 1 30 (hdr 0 (rs ++ [(vr, List.replicate Ln (Sn : Int))]))) :: rowsO 0 (rs ++ [(vr, List.replicate Ln (Sn : Int))])⟩ := by
      refine l_step hF rfl [4] rfl rfl ⟨?_, trivial⟩
      · exact l_op rfl rfl rfl (o_store (cs := [HV.int .i64 (Ln : Int), HV.ar 27038 ov2 1 0 (hdr 0 (rs ++ [(vr, List.replicate Ln (Sn : Int))])).length]) (zs := [HV.int .i64 (Ln : Int), HV.ar 27038 ov2 1 0 (hdr 0 (rs ++ [(vr, List.replicate Ln (Sn : Int))])).length]) rfl rfl rfl ty54 rfl rfl rfl rfl rfl (b_nil (l_go hF rfl (n0_1_2_3_4) ⟨leS_get ⟨rfl, rfl, rfl, rfl, rfl, rfl, rfl, trivial⟩, le_shadow⟩)))
    have n0_1_2_4 : F [0, 1, 2, 4] ⟨[(1, HV.fptr [HV.int .i64 (Ln : Int), HV.int .i64 (Sn : Int), slE eFromLabelTo E] 0), (2, HV.ptr 27002 v2 0), (7, HV.ptr 27007 u7 0), (81, HV.agg [HV.int .i64 (Ln : Int), HV.ar 27038 ov2 1 0 (hdr 0 (rs ++ [(vr, List.replicate Ln (Sn : Int))])).length]), (82, HV.fptr [HV.int .i64 (Ln : Int), HV.int .i64 (Sn : Int), slE eFromLabelTo E] 1), (83, HV.int .i64 (Sn : Int))], (27002, v2, .arr 2 54 [HV.int .i64 (Ln : Int), HV.ar 27038 ov2 1 0 (hdr 0 (rs ++ [(vr, List.replicate Ln (Sn : Int))])).length]) :: (27007, u7, .arr 2 54 [HV.int .i64 (Ln : Int), HV.ar 27038 ov2 1 0 (hdr 0 (rs ++ [(vr, List.replicate Ln (Sn : Int))])).length]) :: (27038, ov2, .arr 1 30 (hdr 0 (rs ++ [(vr, List.replicate Ln (Sn : Int))]))) :: rowsO 0 (rs ++ [(vr, List.replicate Ln (Sn : Int))])⟩ := by
      refine l_step hF rfl [3] rfl rfl ⟨?_, trivial⟩
      · exact l_op rfl rfl rfl (o_bsl rfl rfl (as_of (cs := [HV.int .i64 (Sn : Int)]) ty30 ty3 rfl rfl rfl rfl rfl) (b_nil (l_go hF rfl (n0_1_2_3_4) ⟨leS_get ⟨rfl, rfl, rfl, rfl, rfl, rfl, rfl, trivial⟩, fun _ _ h => h⟩)))
    have n1_2_3 : F [1, 2, 3] ⟨[(1, HV.fptr [HV.int .i64 (Ln : Int), HV.int .i64 (Sn : Int), slE eFromLabelTo E] 0), (2, HV.ptr 27002 v2 0), (7, HV.ptr 27007 u7 0), (82, HV.fptr [HV.int .i64 (Ln : Int), HV.int .i64 (Sn : Int), slE eFromLabelTo E] 1), (83, HV.int .i64 (Sn : Int)), (84, HV.sl 1 1 [HV.int .i64 (Sn : Int)])], (27002, v2, .arr 2 54 zA) :: (27007, u7, .arr 2 54 [HV.int .i64 (Ln : Int), HV.ar 27038 ov2 1 0 (hdr 0 (rs ++ [(vr, List.replicate Ln (Sn : Int))])).length]) :: (27038, ov2, .arr 1 30 (hdr 0 (rs ++ [(vr, List.replicate Ln (Sn : Int))]))) :: rowsO 0 (rs ++ [(vr, List.replicate Ln (Sn : Int))])⟩ := by
      refine l_step hF rfl [0] rfl rfl ⟨?_, trivial⟩
      · exact l_ov rfl rfl rfl rfl (v_loadP ty54 rfl rfl (l_litA rfl (Nat.le_of_ble_eq_true rfl) rfl)) (l_go hF rfl (n0_1_2_3) ⟨leS_get ⟨rfl, rfl, rfl, rfl, rfl, rfl, rfl, trivial⟩, fun _ _ h => h⟩)
    have n0_1_2 : F [0, 1, 2] ⟨[(1, HV.fptr [HV.int .i64 (Ln : Int), HV.int .i64 (Sn : Int), slE eFromLabelTo E] 0), (2, HV.ptr 27002 v2 0), (7, HV.ptr 27007 u7 0), (81, HV.agg [HV.int .i64 (Ln : Int), HV.ar 27038 ov2 1 0 (hdr 0 (rs ++ [(vr, List.replicate Ln (Sn : Int))])).length]), (82, HV.fptr [HV.int .i64 (Ln : Int), HV.int .i64 (Sn : Int), slE eFromLabelTo E] 1), (83, HV.int .i64 (Sn : Int))], (27002, v2, .arr 2 54 zA) :: (27007, u7, .arr 2 54 [HV.int .i64 (Ln : Int), HV.ar 27038 ov2 1 0 (hdr 0 (rs ++ [(vr, List.replicate Ln (Sn : Int))])).length]) :: (27038, ov2, .arr 1 30 (hdr 0 (rs ++ [(vr, List.replicate Ln (Sn : Int))]))) :: rowsO 0 (rs ++ [(vr, List.replicate Ln (Sn : Int))])⟩ := by
      refine l_step hF rfl [3, 4] rfl rfl ⟨?_, ?_, trivial⟩
      · exact l_op rfl rfl rfl (o_bsl rfl rfl (as_of (cs := [HV.int .i64 (Sn : Int)]) ty30 ty3 rfl rfl rfl rfl rfl) (b_nil (l_go hF rfl (n0_1_2_3) ⟨leS_get ⟨rfl, rfl, rfl, rfl, rfl, rfl, rfl, trivial⟩, fun _ _ h => h⟩)))
      · exact l_op rfl rfl rfl (o_store (cs := [HV.int .i64 (Ln : Int), HV.ar 27038 ov2 1 0 (hdr 0 (rs ++ [(vr, List.replicate Ln (Sn : Int))])).length]) (zs := [HV.int .i64 (Ln : Int), HV.ar 27038 ov2 1 0 (hdr 0 (rs ++ [(vr, List.replicate Ln (Sn : Int))])).length]) rfl rfl rfl ty54 rfl rfl rfl rfl rfl (b_nil (l_go hF rfl (n0_1_2_4) ⟨leS_get ⟨rfl, rfl, rfl, rfl, rfl, rfl, trivial⟩, le_shadow⟩)))
    have n0_1_4 : F [0, 1, 4] ⟨[(1, HV.fptr [HV.int .i64 (Ln : Int), HV.int .i64 (Sn : Int), slE eFromLabelTo E] 0), (2, HV.ptr 27002 v2 0), (7, HV.ptr 27007 u7 0), (81, HV.agg [HV.int .i64 (Ln : Int), HV.ar 27038 ov2 1 0 (hdr 0 (rs ++ [(vr, List.replicate Ln (Sn : Int))])).length]), (82, HV.fptr [HV.int .i64 (Ln : Int), HV.int .i64 (Sn : Int), slE eFromLabelTo E] 1)], (27002, v2, .arr 2 54 [HV.int .i64 (Ln : Int), HV.ar 27038 ov2 1 0 (hdr 0 (rs ++ [(vr, List.replicate Ln (Sn : Int))])).length]) :: (27007, u7, .arr 2 54 [HV.int .i64 (Ln : Int), HV.ar 27038 ov2 1 0 (hdr 0 (rs ++ [(vr, List.replicate Ln (Sn : Int))])).length]) :: (27038, ov2, .arr 1 30 (hdr 0 (rs ++ [(vr, List.replicate Ln (Sn : Int))]))) :: rowsO 0 (rs ++ [(vr, List.replicate Ln (Sn : Int))])⟩ := by
      refine l_step hF rfl [2] rfl rfl ⟨?_, trivial⟩
      · exact l_ov rfl rfl rfl rfl (v_loadF ty3 rfl (l_lit rfl rfl)) (l_go hF rfl (n0_1_2_4) ⟨leS_get ⟨rfl, rfl, rfl, rfl, rfl, rfl, trivial⟩, fun _ _ h => h⟩)
    have n1_2 : F [1, 2] ⟨[(1, HV.fptr [HV.int .i64 (Ln : Int), HV.int .i64 (Sn : Int), slE eFromLabelTo E] 0), (2, HV.ptr 27002 v2 0), (7, HV.ptr 27007 u7 0), (82, HV.fptr [HV.int .i64 (Ln : Int), HV.int .i64 (Sn : Int), slE eFromLabelTo E] 1), (83, HV.int .i64 (Sn : Int))], (27002, v2, .arr 2 54 zA) :: (27007, u7, .arr 2 54 [HV.int .i64 (Ln : Int), HV.ar 27038 ov2 1 0 (hdr 0 (rs ++ [(vr, List.replicate Ln (Sn : Int))])).length]) :: (27038, ov2, .arr 1 30 (hdr 0 (rs ++ [(vr, List.replicate Ln (Sn : Int))]))) :: rowsO 0 (rs ++ [(vr, List.replicate Ln (Sn : Int))])⟩ := by
      refine l_step hF rfl [0, 3] rfl rfl ⟨?_, ?_, trivial⟩
      · exact l_ov rfl rfl rfl rfl (v_loadP ty54 rfl rfl (l_litA rfl (Nat.le_of_ble_eq_true rfl) rfl)) (l_go hF rfl (n0_1_2) ⟨leS_get ⟨rfl, rfl, rfl, rfl, rfl, rfl, trivial⟩, fun _ _ h => h⟩)
      · exact l_op rfl rfl rfl (o_bsl rfl rfl (as_of (cs := [HV.int .i64 (Sn : Int)]) ty30 ty3 rfl rfl rfl rfl rfl) (b_nil (l_go hF rfl (n1_2_3) ⟨leS_get ⟨rfl, rfl, rfl, rfl, rfl, rfl, trivial⟩, fun _ _ h => h⟩)))
    have n0_1 : F [0, 1] ⟨[(1, HV.fptr [HV.int .i64 (Ln : Int), HV.int .i64 (Sn : Int), slE eFromLabelTo E] 0), (2, HV.ptr 27002 v2 0), (7, HV.ptr 27007 u7 0), (81, HV.agg [HV.int .i64 (Ln : Int), HV.ar 27038 ov2 1 0 (hdr 0 (rs ++ [(vr, List.replicate Ln (Sn : Int))])).length]), (82, HV.fptr [HV.int .i64 (Ln : Int), HV.int .i64 (Sn : Int), slE eFromLabelTo E] 1)], (27002, v2, .arr 2 54 zA) :: (27007, u7, .arr 2 54 [HV.int .i64 (Ln : Int), HV.ar 27038 ov2 1 0 (hdr 0 (rs ++ [(vr, List.replicate Ln (Sn : Int))])).length]) :: (27038, ov2, .arr 1 30 (hdr 0 (rs ++ [(vr, List.replicate Ln (Sn : Int))]))) :: rowsO 0 (rs ++ [(vr, List.replicate Ln (Sn : Int))])⟩ := by
      refine l_step hF rfl [2, 4] rfl rfl ⟨?_, ?_, trivial⟩
      · exact l_ov rfl rfl rfl rfl (v_loadF ty3 rfl (l_lit rfl rfl)) (l_go hF rfl (n0_1_2) ⟨leS_get ⟨rfl, rfl, rfl, rfl, rfl, rfl, trivial⟩, fun _ _ h => h⟩)
      · exact l_op rfl rfl rfl (o_store (cs := [HV.int .i64 (Ln : Int), HV.ar 27038 ov2 1 0 (hdr 0 (rs ++ [(vr, List.replicate Ln (Sn : Int))])).length]) (zs := [HV.int .i64 (Ln : Int), HV.ar 27038 ov2 1 0 (hdr 0 (rs ++ [(vr, List.replicate Ln (Sn : Int))])).length]) rfl rfl rfl ty54 rfl rfl rfl rfl rfl (b_nil (l_go hF rfl (n0_1_4) ⟨leS_get ⟨rfl, rfl, rfl, rfl, rfl, trivial⟩, le_shadow⟩)))
    have n1 : F [1] ⟨[(1, HV.fptr [HV.int .i64 (Ln : Int), HV.int .i64 (Sn : Int), slE eFromLabelTo E] 0), (2, HV.ptr 27002 v2 0), (7, HV.ptr 27007 u7 0), (82, HV.fptr [HV.int .i64 (Ln : Int), HV.int .i64 (Sn : Int), slE eFromLabelTo E] 1)], (27002, v2, .arr 2 54 zA) :: (27007, u7, .arr 2 54 [HV.int .i64 (Ln : Int), HV.ar 27038 ov2 1 0 (hdr 0 (rs ++ [(vr, List.replicate Ln (Sn : Int))])).length]) :: (27038, ov2, .arr 1 30 (hdr 0 (rs ++ [(vr, List.replicate Ln (Sn : Int))]))) :: rowsO 0 (rs ++ [(vr, List.replicate Ln (Sn : Int))])⟩ := by
      refine l_step hF rfl [0, 2] rfl rfl ⟨?_, ?_, trivial⟩
      · exact l_ov rfl rfl rfl rfl (v_loadP ty54 rfl rfl (l_litA rfl (Nat.le_of_ble_eq_true rfl) rfl)) (l_go hF rfl (n0_1) ⟨leS_get ⟨rfl, rfl, rfl, rfl, rfl, trivial⟩, fun _ _ h => h⟩)
      · exact l_ov rfl rfl rfl rfl (v_loadF ty3 rfl (l_lit rfl rfl)) (l_go hF rfl (n1_2) ⟨leS_get ⟨rfl, rfl, rfl, rfl, rfl, trivial⟩, fun _ _ h => h⟩)
    have n : F [] ⟨[(1, HV.fptr [HV.int .i64 (Ln : Int), HV.int .i64 (Sn : Int), slE eFromLabelTo E] 0), (2, HV.ptr 27002 v2 0), (7, HV.ptr 27007 u7 0)], (27002, v2, .arr 2 54 zA) :: (27007, u7, .arr 2 54 [HV.int .i64 (Ln : Int), HV.ar 27038 ov2 1 0 (hdr 0 (rs ++ [(vr, List.replicate Ln (Sn : Int))])).length]) :: (27038, ov2, .arr 1 30 (hdr 0 (rs ++ [(vr, List.replicate Ln (Sn : Int))]))) :: rowsO 0 (rs ++ [(vr, List.replicate Ln (Sn : Int))])⟩ := by
      refine l_take (i := 1) hF rfl rfl rfl (v_fieldAddrF fo24_1 rfl) ?_
      exact l_go hF rfl (n1) ⟨leS_get ⟨rfl, rfl, rfl, rfl, trivial⟩, fun _ _ h => h⟩
    exact n
  have n0_1_2_3_4_5_6_7_8_9_10 : ∀ (vr ov2 : Nat), F [0, 1, 2, 3, 4, 5, 6, 7, 8, 9, 10] ⟨[(1, HV.fptr [HV.int .i64 (Ln : Int), HV.int .i64 (Sn : Int), slE eFromLabelTo E] 0), (2, HV.ptr 27002 v2 0), (7, HV.ptr 27007 u7 0), (70, HV.ptr 27007 u7 1), (71, HV.ar 27038 ov 1 0 (hdr 0 rs).length), (72, HV.fptr [HV.int .i64 (Ln : Int), HV.int .i64 (Sn : Int), slE eFromLabelTo E] 1), (73, HV.int .i64 (Sn : Int)), (74, HV.sl 1 1 [HV.int .i64 (Sn : Int)]), (75, HV.fptr [HV.int .i64 (Ln : Int), HV.int .i64 (Sn : Int), slE eFromLabelTo E] 0), (76, HV.int .i64 (Ln : Int)), (77, HV.ar (rid rs.length) vr 1 0 (List.replicate Ln (Sn : Int)).length), (78, HV.sl 1 1 [HV.ar (rid rs.length) vr 1 0 (List.replicate Ln (Sn : Int)).length]), (79, HV.ar 27038 ov2 1 0 (hdr 0 rs ++ [HV.ar (rid rs.length) vr 1 0 (List.replicate Ln (Sn : Int)).length]).length), (80, HV.ptr 27007 u7 1)], hpA v2 u7 ov (Ln : Int) (hdr 0 rs).length ov2 (hdr 0 rs ++ [HV.ar (rid rs.length) vr 1 0 (List.replicate Ln (Sn : Int)).length]) (rs ++ [(vr, List.replicate Ln (Sn : Int))])⟩ := by
    intro vr ov2
    refine l_step hF rfl [11] rfl rfl ⟨?_, trivial⟩
    · exact l_op rfl rfl rfl (o_store (cs := [HV.ar 27038 ov2 1 0 (hdr 0 rs ++ [HV.ar (rid rs.length) vr 1 0 (List.replicate Ln (Sn : Int)).length]).length]) (zs := [HV.int .i64 (Ln : Int), HV.ar 27038 ov2 1 0 (hdr 0 rs ++ [HV.ar (rid rs.length) vr 1 0 (List.replicate Ln (Sn : Int)).length]).length]) rfl rfl rfl ty39 rfl rfl rfl rfl rfl (b_nil (l_go hF rfl (n0_1_2_3_4_5_6_7_8_9_10_11 vr ov2) ⟨leS_get ⟨rfl, rfl, rfl, rfl, rfl, rfl, rfl, rfl, rfl, rfl, rfl, rfl, rfl, rfl, trivial⟩, hp_sto⟩)))
  have n0_1_2_3_4_5_6_7_8_9 : ∀ (vr ov2 : Nat), F [0, 1, 2, 3, 4, 5, 6, 7, 8, 9] ⟨[(1, HV.fptr [HV.int .i64 (Ln : Int), HV.int .i64 (Sn : Int), slE eFromLabelTo E] 0), (2, HV.ptr 27002 v2 0), (7, HV.ptr 27007 u7 0), (70, HV.ptr 27007 u7 1), (71, HV.ar 27038 ov 1 0 (hdr 0 rs).length), (72, HV.fptr [HV.int .i64 (Ln : Int), HV.int .i64 (Sn : Int), slE eFromLabelTo E] 1), (73, HV.int .i64 (Sn : Int)), (74, HV.sl 1 1 [HV.int .i64 (Sn : Int)]), (75, HV.fptr [HV.int .i64 (Ln : Int), HV.int .i64 (Sn : Int), slE eFromLabelTo E] 0), (76, HV.int .i64 (Ln : Int)), (77, HV.ar (rid rs.length) vr 1 0 (List.replicate Ln (Sn : Int)).length), (78, HV.sl 1 1 [HV.ar (rid rs.length) vr 1 0 (List.replicate Ln (Sn : Int)).length]), (79, HV.ar 27038 ov2 1 0 (hdr 0 rs ++ [HV.ar (rid rs.length) vr 1 0 (List.replicate Ln (Sn : Int)).length]).length)], hpA v2 u7 ov (Ln : Int) (hdr 0 rs).length ov2 (hdr 0 rs ++ [HV.ar (rid rs.length) vr 1 0 (List.replicate Ln (Sn : Int)).length]) (rs ++ [(vr, List.replicate Ln (Sn : Int))])⟩ := by
    intro vr ov2
    refine l_take (i := 10) hF rfl rfl rfl (v_fieldAddrP fo54_1 rfl rfl) ?_
    exact l_go hF rfl (n0_1_2_3_4_5_6_7_8_9_10 vr ov2) ⟨leS_get ⟨rfl, rfl, rfl, rfl, rfl, rfl, rfl, rfl, rfl, rfl, rfl, rfl, rfl, rfl, trivial⟩, fun _ _ h => h⟩
  have n0_1_2_3_4_5_6_7_8 : ∀ (vr : Nat), F [0, 1, 2, 3, 4, 5, 6, 7, 8] ⟨[(1, HV.fptr [HV.int .i64 (Ln : Int), HV.int .i64 (Sn : Int), slE eFromLabelTo E] 0), (2, HV.ptr 27002 v2 0), (7, HV.ptr 27007 u7 0), (70, HV.ptr 27007 u7 1), (71, HV.ar 27038 ov 1 0 (hdr 0 rs).length), (72, HV.fptr [HV.int .i64 (Ln : Int), HV.int .i64 (Sn : Int), slE eFromLabelTo E] 1), (73, HV.int .i64 (Sn : Int)), (74, HV.sl 1 1 [HV.int .i64 (Sn : Int)]), (75, HV.fptr [HV.int .i64 (Ln : Int), HV.int .i64 (Sn : Int), slE eFromLabelTo E] 0), (76, HV.int .i64 (Ln : Int)), (77, HV.ar (rid rs.length) vr 1 0 (List.replicate Ln (Sn : Int)).length), (78, HV.sl 1 1 [HV.ar (rid rs.length) vr 1 0 (List.replicate Ln (Sn : Int)).length])], hpA v2 u7 ov (Ln : Int) (hdr 0 rs).length ov (hdr 0 rs) (rs ++ [(vr, List.replicate Ln (Sn : Int))])⟩ := by
    intro vr
    refine l_step hF rfl [9] rfl rfl ⟨?_, trivial⟩
    · exact l_op rfl rfl rfl (o_appE eHd (l := hdr 0 rs) (m := [HV.ar (rid rs.length) vr 1 0 (List.replicate Ln (Sn : Int)).length]) rfl rfl ty39 ty39 ty30 rfl rfl rfl rfl rfl hfit (fun ov2 => b_nil (l_go hF rfl (n0_1_2_3_4_5_6_7_8_9 vr ov2) ⟨leS_get ⟨rfl, rfl, rfl, rfl, rfl, rfl, rfl, rfl, rfl, rfl, rfl, rfl, rfl, trivial⟩, hp_app⟩)))
  have n0_2_3_4_5_6_7_8 : ∀ (vr : Nat), F [0, 2, 3, 4, 5, 6, 7, 8] ⟨[(1, HV.fptr [HV.int .i64 (Ln : Int), HV.int .i64 (Sn : Int), slE eFromLabelTo E] 0), (2, HV.ptr 27002 v2 0), (7, HV.ptr 27007 u7 0), (70, HV.ptr 27007 u7 1), (72, HV.fptr [HV.int .i64 (Ln : Int), HV.int .i64 (Sn : Int), slE eFromLabelTo E] 1), (73, HV.int .i64 (Sn : Int)), (74, HV.sl 1 1 [HV.int .i64 (Sn : Int)]), (75, HV.fptr [HV.int .i64 (Ln : Int), HV.int .i64 (Sn : Int), slE eFromLabelTo E] 0), (76, HV.int .i64 (Ln : Int)), (77, HV.ar (rid rs.length) vr 1 0 (List.replicate Ln (Sn : Int)).length), (78, HV.sl 1 1 [HV.ar (rid rs.length) vr 1 0 (List.replicate Ln (Sn : Int)).length])], hpA v2 u7 ov (Ln : Int) (hdr 0 rs).length ov (hdr 0 rs) (rs ++ [(vr, List.replicate Ln (Sn : Int))])⟩ := by
    intro vr
    refine l_step hF rfl [1] rfl rfl ⟨?_, trivial⟩
    · exact l_ov rfl rfl rfl rfl (v_loadP ty39 rfl rfl (l_lit rfl rfl)) (l_go hF rfl (n0_1_2_3_4_5_6_7_8 vr) ⟨leS_get ⟨rfl, rfl, rfl, rfl, rfl, rfl, rfl, rfl, rfl, rfl, rfl, rfl, trivial⟩, fun _ _ h => h⟩)
  have n0_1_2_3_4_5_6_7 : ∀ (vr : Nat), F [0, 1, 2, 3, 4, 5, 6, 7] ⟨[(1, HV.fptr [HV.int .i64 (Ln : Int), HV.int .i64 (Sn : Int), slE eFromLabelTo E] 0), (2, HV.ptr 27002 v2 0), (7, HV.ptr 27007 u7 0), (70, HV.ptr 27007 u7 1), (71, HV.ar 27038 ov 1 0 (hdr 0 rs).length), (72, HV.fptr [HV.int .i64 (Ln : Int), HV.int .i64 (Sn : Int), slE eFromLabelTo E] 1), (73, HV.int .i64 (Sn : Int)), (74, HV.sl 1 1 [HV.int .i64 (Sn : Int)]), (75, HV.fptr [HV.int .i64 (Ln : Int), HV.int .i64 (Sn : Int), slE eFromLabelTo E] 0), (76, HV.int .i64 (Ln : Int)), (77, HV.ar (rid rs.length) vr 1 0 (List.replicate Ln (Sn : Int)).length)], hpA v2 u7 ov (Ln : Int) (hdr 0 rs).length ov (hdr 0 rs) (rs ++ [(vr, List.replicate Ln (Sn : Int))])⟩ := by
    intro vr
    refine l_step hF rfl [8] rfl rfl ⟨?_, trivial⟩
    · exact l_op rfl rfl rfl (o_bsl rfl rfl (as_of (cs := [HV.ar (rid rs.length) vr 1 0 (List.replicate Ln (Sn : Int)).length]) ty39 ty30 rfl rfl rfl rfl rfl) (b_nil (l_go hF rfl (n0_1_2_3_4_5_6_7_8 vr) ⟨leS_get ⟨rfl, rfl, rfl, rfl, rfl, rfl, rfl, rfl, rfl, rfl, rfl, rfl, trivial⟩, fun _ _ h => h⟩)))
  have n0_2_3_4_5_6_7 : ∀ (vr : Nat), F [0, 2, 3, 4, 5, 6, 7] ⟨[(1, HV.fptr [HV.int .i64 (Ln : Int), HV.int .i64 (Sn : Int), slE eFromLabelTo E] 0), (2, HV.ptr 27002 v2 0), (7, HV.ptr 27007 u7 0), (70, HV.ptr 27007 u7 1), (72, HV.fptr [HV.int .i64 (Ln : Int), HV.int .i64 (Sn : Int), slE eFromLabelTo E] 1), (73, HV.int .i64 (Sn : Int)), (74, HV.sl 1 1 [HV.int .i64 (Sn : Int)]), (75, HV.fptr [HV.int .i64 (Ln : Int), HV.int .i64 (Sn : Int), slE eFromLabelTo E] 0), (76, HV.int .i64 (Ln : Int)), (77, HV.ar (rid rs.length) vr 1 0 (List.replicate Ln (Sn : Int)).length)], hpA v2 u7 ov (Ln : Int) (hdr 0 rs).length ov (hdr 0 rs) (rs ++ [(vr, List.replicate Ln (Sn : Int))])⟩ := by
    intro vr
    refine l_step hF rfl [1, 8] rfl rfl ⟨?_, ?_, trivial⟩
    · exact l_ov rfl rfl rfl rfl (v_loadP ty39 rfl rfl (l_lit rfl rfl)) (l_go hF rfl (n0_1_2_3_4_5_6_7 vr) ⟨leS_get ⟨rfl, rfl, rfl, rfl, rfl, rfl, rfl, rfl, rfl, rfl, rfl, trivial⟩, fun _ _ h => h⟩)
    · exact l_op rfl rfl rfl (o_bsl rfl rfl (as_of (cs := [HV.ar (rid rs.length) vr 1 0 (List.replicate Ln (Sn : Int)).length]) ty39 ty30 rfl rfl rfl rfl rfl) (b_nil (l_go hF rfl (n0_2_3_4_5_6_7_8 vr) ⟨leS_get ⟨rfl, rfl, rfl, rfl, rfl, rfl, rfl, rfl, rfl, rfl, rfl, trivial⟩, fun _ _ h => h⟩)))
  have n0_1_2_3_4_5_6 : F [0, 1, 2, 3, 4, 5, 6] ⟨[(1, HV.fptr [HV.int .i64 (Ln : Int), HV.int .i64 (Sn : Int), slE eFromLabelTo E] 0), (2, HV.ptr 27002 v2 0), (7, HV.ptr 27007 u7 0), (70, HV.ptr 27007 u7 1), (71, HV.ar 27038 ov 1 0 (hdr 0 rs).length), (72, HV.fptr [HV.int .i64 (Ln : Int), HV.int .i64 (Sn : Int), slE eFromLabelTo E] 1), (73, HV.int .i64 (Sn : Int)), (74, HV.sl 1 1 [HV.int .i64 (Sn : Int)]), (75, HV.fptr [HV.int .i64 (Ln : Int), HV.int .i64 (Sn : Int), slE eFromLabelTo E] 0), (76, HV.int .i64 (Ln : Int))], hpA v2 u7 ov (Ln : Int) (hdr 0 rs).length ov (hdr 0 rs) rs⟩ := by
    refine l_step hF rfl [7] rfl rfl ⟨?_, trivial⟩
    · exact l_op rfl rfl rfl (o_callA rfl rfl rfl rfl (repI_own (Sn : Int) hLn rs.length fun vr => b_nil (l_go hF rfl (n0_1_2_3_4_5_6_7 vr) ⟨leS_get ⟨rfl, rfl, rfl, rfl, rfl, rfl, rfl, rfl, rfl, rfl, rfl, trivial⟩, hp_call⟩)))
  have n0_2_3_4_5_6 : F [0, 2, 3, 4, 5, 6] ⟨[(1, HV.fptr [HV.int .i64 (Ln : Int), HV.int .i64 (Sn : Int), slE eFromLabelTo E] 0), (2, HV.ptr 27002 v2 0), (7, HV.ptr 27007 u7 0), (70, HV.ptr 27007 u7 1), (72, HV.fptr [HV.int .i64 (Ln : Int), HV.int .i64 (Sn : Int), slE eFromLabelTo E] 1), (73, HV.int .i64 (Sn : Int)), (74, HV.sl 1 1 [HV.int .i64 (Sn : Int)]), (75, HV.fptr [HV.int .i64 (Ln : Int), HV.int .i64 (Sn : Int), slE eFromLabelTo E] 0), (76, HV.int .i64 (Ln : Int))], hpA v2 u7 ov (Ln : Int) (hdr 0 rs).length ov (hdr 0 rs) rs⟩ := by
    refine l_step hF rfl [1, 7] rfl rfl ⟨?_, ?_, trivial⟩
    · exact l_ov rfl rfl rfl rfl (v_loadP ty39 rfl rfl (l_lit rfl rfl)) (l_go hF rfl (n0_1_2_3_4_5_6) ⟨leS_get ⟨rfl, rfl, rfl, rfl, rfl, rfl, rfl, rfl, rfl, rfl, trivial⟩, fun _ _ h => h⟩)
    · exact l_op rfl rfl rfl (o_callA rfl rfl rfl rfl (repI_own (Sn : Int) hLn rs.length fun vr => b_nil (l_go hF rfl (n0_2_3_4_5_6_7 vr) ⟨leS_get ⟨rfl, rfl, rfl, rfl, rfl, rfl, rfl, rfl, rfl, rfl, trivial⟩, hp_call⟩)))
  have n0_1_2_3_5_6 : F [0, 1, 2, 3, 5, 6] ⟨[(1, HV.fptr [HV.int .i64 (Ln : Int), HV.int .i64 (Sn : Int), slE eFromLabelTo E] 0), (2, HV.ptr 27002 v2 0), (7, HV.ptr 27007 u7 0), (70, HV.ptr 27007 u7 1), (71, HV.ar 27038 ov 1 0 (hdr 0 rs).length), (72, HV.fptr [HV.int .i64 (Ln : Int), HV.int .i64 (Sn : Int), slE eFromLabelTo E] 1), (73, HV.int .i64 (Sn : Int)), (75, HV.fptr [HV.int .i64 (Ln : Int), HV.int .i64 (Sn : Int), slE eFromLabelTo E] 0), (76, HV.int .i64 (Ln : Int))], hpA v2 u7 ov (Ln : Int) (hdr 0 rs).length ov (hdr 0 rs) rs⟩ := by
    refine l_step hF rfl [4] rfl rfl ⟨?_, trivial⟩
    · exact l_op rfl rfl rfl (o_bsl rfl rfl (as_of (cs := [HV.int .i64 (Sn : Int)]) ty30 ty3 rfl rfl rfl rfl rfl) (b_nil (l_go hF rfl (n0_1_2_3_4_5_6) ⟨leS_get ⟨rfl, rfl, rfl, rfl, rfl, rfl, rfl, rfl, rfl, rfl, trivial⟩, fun _ _ h => h⟩)))
  have n0_1_2_3_4_5 : F [0, 1, 2, 3, 4, 5] ⟨[(1, HV.fptr [HV.int .i64 (Ln : Int), HV.int .i64 (Sn : Int), slE eFromLabelTo E] 0), (2, HV.ptr 27002 v2 0), (7, HV.ptr 27007 u7 0), (70, HV.ptr 27007 u7 1), (71, HV.ar 27038 ov 1 0 (hdr 0 rs).length), (72, HV.fptr [HV.int .i64 (Ln : Int), HV.int .i64 (Sn : Int), slE eFromLabelTo E] 1), (73, HV.int .i64 (Sn : Int)), (74, HV.sl 1 1 [HV.int .i64 (Sn : Int)]), (75, HV.fptr [HV.int .i64 (Ln : Int), HV.int .i64 (Sn : Int), slE eFromLabelTo E] 0)], hpA v2 u7 ov (Ln : Int) (hdr 0 rs).length ov (hdr 0 rs) rs⟩ := by
    refine l_step hF rfl [6] rfl rfl ⟨?_, trivial⟩
    · exact l_ov rfl rfl rfl rfl (v_loadF ty3 rfl (l_lit rfl rfl)) (l_go hF rfl (n0_1_2_3_4_5_6) ⟨leS_get ⟨rfl, rfl, rfl, rfl, rfl, rfl, rfl, rfl, rfl, rfl, trivial⟩, fun _ _ h => h⟩)
  have n0_2_3_5_6 : F [0, 2, 3, 5, 6] ⟨[(1, HV.fptr [HV.int .i64 (Ln : Int), HV.int .i64 (Sn : Int), slE eFromLabelTo E] 0), (2, HV.ptr 27002 v2 0), (7, HV.ptr 27007 u7 0), (70, HV.ptr 27007 u7 1), (72, HV.fptr [HV.int .i64 (Ln : Int), HV.int .i64 (Sn : Int), slE eFromLabelTo E] 1), (73, HV.int .i64 (Sn : Int)), (75, HV.fptr [HV.int .i64 (Ln : Int), HV.int .i64 (Sn : Int), slE eFromLabelTo E] 0), (76, HV.int .i64 (Ln : Int))], hpA v2 u7 ov (Ln : Int) (hdr 0 rs).length ov (hdr 0 rs) rs⟩ := by
    refine l_step hF rfl [1, 4] rfl rfl ⟨?_, ?_, trivial⟩
    · exact l_ov rfl rfl rfl rfl (v_loadP ty39 rfl rfl (l_lit rfl rfl)) (l_go hF rfl (n0_1_2_3_5_6) ⟨leS_get ⟨rfl, rfl, rfl, rfl, rfl, rfl, rfl, rfl, rfl, trivial⟩, fun _ _ h => h⟩)
    · exact l_op rfl rfl rfl (o_bsl rfl rfl (as_of (cs := [HV.int .i64 (Sn : Int)]) ty30 ty3 rfl rfl rfl rfl rfl) (b_nil (l_go hF rfl (n0_2_3_4_5_6) ⟨leS_get ⟨rfl, rfl, rfl, rfl, rfl, rfl, rfl, rfl, rfl, trivial⟩, fun _ _ h => h⟩)))
  have n0_1_2_5_6 : F [0, 1, 2, 5, 6] ⟨[(1, HV.fptr [HV.int .i64 (Ln : Int), HV.int .i64 (Sn : Int), slE eFromLabelTo E] 0), (2, HV.ptr 27002 v2 0), (7, HV.ptr 27007 u7 0), (70, HV.ptr 27007 u7 1), (71, HV.ar 27038 ov 1 0 (hdr 0 rs).length), (72, HV.fptr [HV.int .i64 (Ln : Int), HV.int .i64 (Sn : Int), slE eFromLabelTo E] 1), (75, HV.fptr [HV.int .i64 (Ln : Int), HV.int .i64 (Sn : Int), slE eFromLabelTo E] 0), (76, HV.int .i64 (Ln : Int))], hpA v2 u7 ov (Ln : Int) (hdr 0 rs).length ov (hdr 0 rs) rs⟩ := by
    refine l_step hF rfl [3] rfl rfl ⟨?_, trivial⟩
    · exact l_ov rfl rfl rfl rfl (v_loadF ty3 rfl (l_lit rfl rfl)) (l_go hF rfl (n0_1_2_3_5_6) ⟨leS_get ⟨rfl, rfl, rfl, rfl, rfl, rfl, rfl, rfl, rfl, trivial⟩, fun _ _ h => h⟩)
  have n0_2_3_4_5 : F [0, 2, 3, 4, 5] ⟨[(1, HV.fptr [HV.int .i64 (Ln : Int), HV.int .i64 (Sn : Int), slE eFromLabelTo E] 0), (2, HV.ptr 27002 v2 0), (7, HV.ptr 27007 u7 0), (70, HV.ptr 27007 u7 1), (72, HV.fptr [HV.int .i64 (Ln : Int), HV.int .i64 (Sn : Int), slE eFromLabelTo E] 1), (73, HV.int .i64 (Sn : Int)), (74, HV.sl 1 1 [HV.int .i64 (Sn : Int)]), (75, HV.fptr [HV.int .i64 (Ln : Int), HV.int .i64 (Sn : Int), slE eFromLabelTo E] 0)], hpA v2 u7 ov (Ln : Int) (hdr 0 rs).length ov (hdr 0 rs) rs⟩ := by
    refine l_step hF rfl [1, 6] rfl rfl ⟨?_, ?_, trivial⟩
    · exact l_ov rfl rfl rfl rfl (v_loadP ty39 rfl rfl (l_lit rfl rfl)) (l_go hF rfl (n0_1_2_3_4_5) ⟨leS_get ⟨rfl, rfl, rfl, rfl, rfl, rfl, rfl, rfl, rfl, trivial⟩, fun _ _ h => h⟩)
    · exact l_ov rfl rfl rfl rfl (v_loadF ty3 rfl (l_lit rfl rfl)) (l_go hF rfl (n0_2_3_4_5_6) ⟨leS_get ⟨rfl, rfl, rfl, rfl, rfl, rfl, rfl, rfl, rfl, trivial⟩, fun _ _ h => h⟩)
  have n0_1_2_3_5 : F [0, 1, 2, 3, 5] ⟨[(1, HV.fptr [HV.int .i64 (Ln : Int), HV.int .i64 (Sn : Int), slE eFromLabelTo E] 0), (2, HV.ptr 27002 v2 0), (7, HV.ptr 27007 u7 0), (70, HV.ptr 27007 u7 1), (71, HV.ar 27038 ov 1 0 (hdr 0 rs).length), (72, HV.fptr [HV.int .i64 (Ln : Int), HV.int .i64 (Sn : Int), slE eFromLabelTo E] 1), (73, HV.int .i64 (Sn : Int)), (75, HV.fptr [HV.int .i64 (Ln : Int), HV.int .i64 (Sn : Int), slE eFromLabelTo E] 0)], hpA v2 u7 ov (Ln : Int) (hdr 0 rs).length ov (hdr 0 rs) rs⟩ := by
    refine l_step hF rfl [4, 6] rfl rfl ⟨?_, ?_, trivial⟩
    · exact l_op rfl rfl rfl (o_bsl rfl rfl (as_of (cs := [HV.int .i64 (Sn : Int)]) ty30 ty3 rfl rfl rfl rfl rfl) (b_nil (l_go hF rfl (n0_1_2_3_4_5) ⟨leS_get ⟨rfl, rfl, rfl, rfl, rfl, rfl, rfl, rfl, rfl, trivial⟩, fun _ _ h => h⟩)))
    · exact l_ov rfl rfl rfl rfl (v_loadF ty3 rfl (l_lit rfl rfl)) (l_go hF rfl (n0_1_2_3_5_6) ⟨leS_get ⟨rfl, rfl, rfl, rfl, rfl, rfl, rfl, rfl, rfl, trivial⟩, fun _ _ h => h⟩)
  have n0_2_5_6 : F [0, 2, 5, 6] ⟨[(1, HV.fptr [HV.int .i64 (Ln : Int), HV.int .i64 (Sn : Int), slE eFromLabelTo E] 0), (2, HV.ptr 27002 v2 0), (7, HV.ptr 27007 u7 0), (70, HV.ptr 27007 u7 1), (72, HV.fptr [HV.int .i64 (Ln : Int), HV.int .i64 (Sn : Int), slE eFromLabelTo E] 1), (75, HV.fptr [HV.int .i64 (Ln : Int), HV.int .i64 (Sn : Int), slE eFromLabelTo E] 0), (76, HV.int .i64 (Ln : Int))], hpA v2 u7 ov (Ln : Int) (hdr 0 rs).length ov (hdr 0 rs) rs⟩ := by
    refine l_step hF rfl [1, 3] rfl rfl ⟨?_, ?_, trivial⟩
    · exact l_ov rfl rfl rfl rfl (v_loadP ty39 rfl rfl (l_lit rfl rfl)) (l_go hF rfl (n0_1_2_5_6) ⟨leS_get ⟨rfl, rfl, rfl, rfl, rfl, rfl, rfl, rfl, trivial⟩, fun _ _ h => h⟩)
    · exact l_ov rfl rfl rfl rfl (v_loadF ty3 rfl (l_lit rfl rfl)) (l_go hF rfl (n0_2_3_5_6) ⟨leS_get ⟨rfl, rfl, rfl, rfl, rfl, rfl, rfl, rfl, trivial⟩, fun _ _ h => h⟩)
  have n0_2_3_5 : F [0, 2, 3, 5] ⟨[(1, HV.fptr [HV.int .i64 (Ln : Int), HV.int .i64 (Sn : Int), slE eFromLabelTo E] 0), (2, HV.ptr 27002 v2 0), (7, HV.ptr 27007 u7 0), (70, HV.ptr 27007 u7 1), (72, HV.fptr [HV.int .i64 (Ln : Int), HV.int .i64 (Sn : Int), slE eFromLabelTo E] 1), (73, HV.int .i64 (Sn : Int)), (75, HV.fptr [HV.int .i64 (Ln : Int), HV.int .i64 (Sn : Int), slE eFromLabelTo E] 0)], hpA v2 u7 ov (Ln : Int) (hdr 0 rs).length ov (hdr 0 rs) rs⟩ := by
    refine l_step hF rfl [1, 4, 6] rfl rfl ⟨?_, ?_, ?_, trivial⟩
    · exact l_ov rfl rfl rfl rfl (v_loadP ty39 rfl rfl (l_lit rfl rfl)) (l_go hF rfl (n0_1_2_3_5) ⟨leS_get ⟨rfl, rfl, rfl, rfl, rfl, rfl, rfl, rfl, trivial⟩, fun _ _ h => h⟩)
    · exact l_op rfl rfl rfl (o_bsl rfl rfl (as_of (cs := [HV.int .i64 (Sn : Int)]) ty30 ty3 rfl rfl rfl rfl rfl) (b_nil (l_go hF rfl (n0_2_3_4_5) ⟨leS_get ⟨rfl, rfl, rfl, rfl, rfl, rfl, rfl, rfl, trivial⟩, fun _ _ h => h⟩)))
    · exact l_ov rfl rfl rfl rfl (v_loadF ty3 rfl (l_lit rfl rfl)) (l_go hF rfl (n0_2_3_5_6) ⟨leS_get ⟨rfl, rfl, rfl, rfl, rfl, rfl, rfl, rfl, trivial⟩, fun _ _ h => h⟩)
  have n0_1_2_5 : F [0, 1, 2, 5] ⟨[(1, HV.fptr [HV.int .i64 (Ln : Int), HV.int .i64 (Sn : Int), slE eFromLabelTo E] 0), (2, HV.ptr 27002 v2 0), (7, HV.ptr 27007 u7 0), (70, HV.ptr 27007 u7 1), (71, HV.ar 27038 ov 1 0 (hdr 0 rs).length), (72, HV.fptr [HV.int .i64 (Ln : Int), HV.int .i64 (Sn : Int), slE eFromLabelTo E] 1), (75, HV.fptr [HV.int .i64 (Ln : Int), HV.int .i64 (Sn : Int), slE eFromLabelTo E] 0)], hpA v2 u7 ov (Ln : Int) (hdr 0 rs).length ov (hdr 0 rs) rs⟩ := by
    refine l_step hF rfl [3, 6] rfl rfl ⟨?_, ?_, trivial⟩
    · exact l_ov rfl rfl rfl rfl (v_loadF ty3 rfl (l_lit rfl rfl)) (l_go hF rfl (n0_1_2_3_5) ⟨leS_get ⟨rfl, rfl, rfl, rfl, rfl, rfl, rfl, rfl, trivial⟩, fun _ _ h => h⟩)
    · exact l_ov rfl rfl rfl rfl (v_loadF ty3 rfl (l_lit rfl rfl)) (l_go hF rfl (n0_1_2_5_6) ⟨leS_get ⟨rfl, rfl, rfl, rfl, rfl, rfl, rfl, rfl, trivial⟩, fun _ _ h => h⟩)
  have n0_2_5 : F [0, 2, 5] ⟨[(1, HV.fptr [HV.int .i64 (Ln : Int), HV.int .i64 (Sn : Int), slE eFromLabelTo E] 0), (2, HV.ptr 27002 v2 0), (7, HV.ptr 27007 u7 0), (70, HV.ptr 27007 u7 1), (72, HV.fptr [HV.int .i64 (Ln : Int), HV.int .i64 (Sn : Int), slE eFromLabelTo E] 1), (75, HV.fptr [HV.int .i64 (Ln : Int), HV.int .i64 (Sn : Int), slE eFromLabelTo E] 0)], hpA v2 u7 ov (Ln : Int) (hdr 0 rs).length ov (hdr 0 rs) rs⟩ := by
    refine l_step hF rfl [1, 3, 6] rfl rfl ⟨?_, ?_, ?_, trivial⟩
    · exact l_ov rfl rfl rfl rfl (v_loadP ty39 rfl rfl (l_lit rfl rfl)) (l_go hF rfl (n0_1_2_5) ⟨leS_get ⟨rfl, rfl, rfl, rfl, rfl, rfl, rfl, trivial⟩, fun _ _ h => h⟩)
    · exact l_ov rfl rfl rfl rfl (v_loadF ty3 rfl (l_lit rfl rfl)) (l_go hF rfl (n0_2_3_5) ⟨leS_get ⟨rfl, rfl, rfl, rfl, rfl, rfl, rfl, trivial⟩, fun _ _ h => h⟩)
    · exact l_ov rfl rfl rfl rfl (v_loadF ty3 rfl (l_lit rfl rfl)) (l_go hF rfl (n0_2_5_6) ⟨leS_get ⟨rfl, rfl, rfl, rfl, rfl, rfl, rfl, trivial⟩, fun _ _ h => h⟩)
  have n0_2 : F [0, 2] ⟨[(1, HV.fptr [HV.int .i64 (Ln : Int), HV.int .i64 (Sn : Int), slE eFromLabelTo E] 0), (2, HV.ptr 27002 v2 0), (7, HV.ptr 27007 u7 0), (70, HV.ptr 27007 u7 1), (72, HV.fptr [HV.int .i64 (Ln : Int), HV.int .i64 (Sn : Int), slE eFromLabelTo E] 1)], hpA v2 u7 ov (Ln : Int) (hdr 0 rs).length ov (hdr 0 rs) rs⟩ := by
    refine l_take (i := 5) hF rfl rfl rfl (v_fieldAddrF fo24_0 rfl) ?_
    exact l_go hF rfl (n0_2_5) ⟨leS_get ⟨rfl, rfl, rfl, rfl, rfl, rfl, trivial⟩, fun _ _ h => h⟩
  have n0 : F [0] ⟨[(1, HV.fptr [HV.int .i64 (Ln : Int), HV.int .i64 (Sn : Int), slE eFromLabelTo E] 0), (2, HV.ptr 27002 v2 0), (7, HV.ptr 27007 u7 0), (70, HV.ptr 27007 u7 1)], hpA v2 u7 ov (Ln : Int) (hdr 0 rs).length ov (hdr 0 rs) rs⟩ := by
    refine l_take (i := 2) hF rfl rfl rfl (v_fieldAddrF fo24_1 rfl) ?_
    exact l_go hF rfl (n0_2) ⟨leS_get ⟨rfl, rfl, rfl, rfl, rfl, trivial⟩, fun _ _ h => h⟩
  have n : F [] ⟨[(1, HV.fptr [HV.int .i64 (Ln : Int), HV.int .i64 (Sn : Int), slE eFromLabelTo E] 0), (2, HV.ptr 27002 v2 0), (7, HV.ptr 27007 u7 0)], hpA v2 u7 ov (Ln : Int) (hdr 0 rs).length ov (hdr 0 rs) rs⟩ := by
    refine l_take (i := 0) hF rfl rfl rfl (v_fieldAddrP fo54_1 rfl rfl) ?_
    exact l_go hF rfl (n0) ⟨leS_get ⟨rfl, rfl, rfl, rfl, trivial⟩, fun _ _ h => h⟩
  exact n
end Go.AW

/- Models, printed by lk.py. -/
namespace Go.AW
open Go
set_option linter.unusedVariables false
noncomputable def m_law12_SubsetCompleted (p0 : TLabelsStatesEdges) (p1 : Int) (p2 : List (Int)) : Option (Bool) :=
 jp (fun (a1 : Bool) =>
   if a1 = true then
    (m_law12_awake).bind fun x4 =>
    some x4
   else
    (m_subset_Complete p0).bind fun x6 =>
    (m_graph_Deterministic p0).bind fun x9 =>
    jp (fun (a11 : Bool) =>
      if a11 = true then
       some false
      else
       if x6.2.2 ≠ 0 then
        jp (fun (a14 : Bool) =>
          some a14)
          fun k16 =>
         if x6.2.2 = 8 then
          if ((x6.1.2).length : Int) = 0 then
           (m_law12_awake).bind fun x17 =>
           k16 x17
          else
           k16 false
         else
          k16 false
       else
        jp (fun (a21 : Bool) =>
          if a21 = true then
           some false
          else
           if p0.2.1 ≠ 0 then
            if p0.2.1 ≠ 0 then
             if 0 ≤ (0 : Int) ∧ (0 : Int) ≤ min ((p2).length : Int) 8 ∧ min ((p2).length : Int) 8 ≤ (p2.length : Int) then
              lpO (loopW (S := Int × (List Int) × Int) (X := Ou (Unit) (Bool)) (fun a27 =>
                  if a27.2.2 < (((p2.take (min ((p2).length : Int) 8).toNat).drop (0 : Int).toNat).length : Int) then
                   (idx ((p2.take (min ((p2).length : Int) 8).toNat).drop (0 : Int).toNat) a27.2.2).bind fun x31 =>
                   if p0.1 ≠ 0 then
                    (m_graph_Step p0 a27.2.1 (Int.tmod (IntKind.wrap .i64 x31) p0.1)).bind fun x34 =>
                    jp (fun (a36 : Bool) =>
                      if a36 = true then
                       some (Stp.exit (Ou.ret false))
                      else
                       (idx x6.1.2 a27.1).bind fun x39 =>
                       (idx x39 (Int.tmod (IntKind.wrap .i64 x31) p0.1)).bind fun x41 =>
                       jp (fun (a43 : Bool) =>
                         if a43 = true then
                          some (Stp.exit (Ou.ret false))
                         else
                          some (Stp.next (x41, x34.1, IntKind.wrap .i64 (a27.2.2 + 1))))
                         fun k45 =>
                        if ((x34.1).length : Int) = 1 then
                         (idx x34.1 0).bind fun x46 =>
                         if x41 ≠ x46 then
                          k45 true
                         else
                          if ((x34.1).length : Int) = 0 then
                           if ((x6.2.1).length : Int) = 0 then
                            k45 true
                           else
                            (idx x6.2.1 0).bind fun x48 =>
                            if x41 ≠ x48 then
                             k45 true
                            else
                             if x41 ≠ p0.2.1 then
                              k45 true
                             else
                              k45 (decide (1 < ((x34.1).length : Int)))
                          else
                           k45 (decide (1 < ((x34.1).length : Int)))
                        else
                         if ((x34.1).length : Int) = 0 then
                          if ((x6.2.1).length : Int) = 0 then
                           k45 true
                          else
                           (idx x6.2.1 0).bind fun x55 =>
                           if x41 ≠ x55 then
                            k45 true
                           else
                            if x41 ≠ p0.2.1 then
                             k45 true
                            else
                             k45 (decide (1 < ((x34.1).length : Int)))
                         else
                          k45 (decide (1 < ((x34.1).length : Int))))
                      fun k38 =>
                     if x34.2 ≠ 0 then
                      k38 true
                     else
                      if a27.1 < 0 then
                       k38 true
                      else
                       if ((x6.1.2).length : Int) ≤ a27.1 then
                        k38 true
                       else
                        (idx x6.1.2 a27.1).bind fun x62 =>
                        k38 (decide (((x62).length : Int) ≠ p0.1))
                   else none
                  else
                   some (Stp.exit (Ou.go ()))) (Int.tmod (IntKind.wrap .i64 p1) p0.2.1, [Int.tmod (IntKind.wrap .i64 p1) p0.2.1], 0)) (fun a67 =>
                  (m_law12_awake).bind fun x69 =>
                  some x69) some
             else none
            else none
           else none)
          fun k23 =>
         if ((x6.1.2).length : Int) ≠ (IntKind.wrap .i64 (p0.2.1 + ((x6.2.1).length : Int))) then
          k23 true
         else
          if 1 < ((x6.2.1).length : Int) then
           k23 true
          else
           k23 (decide (x6.1.1 ≠ p0.1)))
      fun k13 =>
     if x9.2 ≠ 0 then
      k13 true
     else
      k13 (!((decide (x6.2.2 = 0)) == x9.1)))
   fun k3 =>
  (m_law12_great p0).bind fun x74 =>
  if x74 = true then
   k3 true
  else
   (m_graph_Check p0).bind fun x76 =>
   if x76 ≠ 0 then
    k3 true
   else
    k3 (decide (p0.2.1 = 0))

end Go.AW

namespace Go.AW
open Go Go.Proofs
set_option linter.unusedVariables false
set_option maxHeartbeats 1600000 in
set_option maxRecDepth 100000 in
theorem w_ref09_Great {p0 : TLabelsStatesEdges} {r : Bool} (h : m_ref09_Great p0 = some r) : Pure Tryd.prog 28 [HV.agg [HV.int .i64 p0.1, HV.int .i64 p0.2.1, slE eFromLabelTo p0.2.2]] (· = HV.bool r) := by
 unfold m_ref09_Great at h
 refine Pure.of_body Tryd.func28 rfl rfl (Nat.le_of_ble_eq_true rfl) fun hf => ?_
 unfold Tryd.f28
 dsimp only [enumS, Nat.reduceAdd]
 refine AW.rgs rfl fun K hK => ?_
 refine b_op rfl (o_box rfl rfl rfl ?_)
 refine mv rfl rfl ?_
 refine b_fin hK (s' := ⟨[(1, HV.fptr [HV.int .i64 p0.1, HV.int .i64 p0.2.1, slE eFromLabelTo p0.2.2] 0)], []⟩) (le_q rfl rfl) ?_
 clear hK K
 refine AW.seqJ h (S := Bool) (V := Unit) (fun a v => ⟨[(2, HV.bool a)], []⟩) (fun a1 w2 h => ?_) (fun k3 h => ?_)
 ·refine AW.ret ?_
  have h := Option.some.inj h
  subst h
  exact ret_pure (hs := [HV.bool a1]) (q := HV.bool a1) (.inr rfl) (resT rfl rfl) rfl trivial
 refine AW.rg rfl fun K hK => ?_
 refine bv rfl (v_fieldAddrF fo24_2 rfl) ?_
 refine bv rfl (v_loadF ty22 rfl (l_lit rfl rfl)) ?_
 refine bv rfl (v_lenF rfl rfl ty22 rfl) ?_
 refine bv rfl (v_bin rfl rfl b_gtr) ?_
 refine mv rfl rfl ?_
 by_cases hg5 : 30 < ((p0.2.2).length : Int)
 ·have h := ifT hg5 h
  refine b_F rfl rfl rfl rfl rfl (decide_eq_true hg5) ?_
  refine b_F rfl rfl rfl rfl rfl rfl ?_
  refine b_F rfl rfl rfl rfl rfl rfl ?_
  refine b_F rfl rfl rfl rfl rfl rfl ?_
  refine b_U rfl rfl rfl rfl rfl ?_
  refine b_U rfl rfl rfl rfl rfl ?_
  refine b_U rfl rfl rfl rfl rfl ?_
  refine b_F rfl rfl rfl rfl rfl rfl ?_
  refine bv rfl (v_pickT rfl rfl rfl) ?_
  refine mv rfl rfl ?_
  refine b_nil (hK _ ?_)
  clear hK K
  exact to_le (s' := ⟨[(2, HV.bool true)], []⟩) (AS.le_of ⟨rfl, trivial⟩ trivial) ⟨true, (), h, rfl⟩
 have h := ifF hg5 h
 refine b_T rfl rfl rfl rfl (decide_eq_false hg5) (o_val rfl (v_fieldAddrF fo24_1 rfl) ?_)
 refine b_T rfl rfl rfl rfl rfl (o_val rfl (v_loadF ty3 rfl (l_lit rfl rfl)) ?_)
 refine b_T rfl rfl rfl rfl rfl (o_val rfl (v_bin rfl rfl b_gtr) ?_)
 refine b_T rfl rfl rfl rfl rfl (o_val rfl (mv_val rfl rfl).2 ?_)
 by_cases hg4 : 10 < p0.2.1
 ·have h := ifT hg4 h
  refine b_T rfl rfl rfl rfl (decide_eq_true hg4) (o_val rfl (v_fieldAddrF fo24_1 rfl) ?_)
  refine b_T rfl rfl rfl rfl rfl (o_val rfl (v_loadF ty3 rfl (l_lit rfl rfl)) ?_)
  refine b_T rfl rfl rfl rfl rfl (o_val rfl (v_bin rfl rfl b_leq) ?_)
  refine b_T rfl rfl rfl rfl rfl (o_val rfl (v_pickT rfl rfl rfl) ?_)
  refine bv rfl (v_pickF rfl rfl rfl) ?_
  refine mv rfl rfl ?_
  refine b_nil (hK _ ?_)
  clear hK K
  exact to_le (s' := ⟨[(2, HV.bool (decide (p0.2.1 ≤ 64)))], []⟩) (AS.le_of ⟨rfl, trivial⟩ trivial) ⟨decide (p0.2.1 ≤ 64), (), h, rfl⟩
 have h := ifF hg4 h
 refine b_F rfl rfl rfl rfl rfl (decide_eq_false hg4) ?_
 refine b_F rfl rfl rfl rfl rfl rfl ?_
 refine b_F rfl rfl rfl rfl rfl rfl ?_
 refine b_T rfl rfl rfl rfl rfl (o_val rfl (v_pickF rfl rfl rfl) ?_)
 refine bv rfl (v_pickF rfl rfl rfl) ?_
 refine mv rfl rfl ?_
 refine b_nil (hK _ ?_)
 clear hK K
 exact to_le (s' := ⟨[(2, HV.bool false)], []⟩) (AS.le_of ⟨rfl, trivial⟩ trivial) ⟨false, (), h, rfl⟩

set_option maxHeartbeats 1600000 in
set_option maxRecDepth 100000 in
theorem w_law12_great {p0 : TLabelsStatesEdges} {r : Bool} (h : m_law12_great p0 = some r) : Pure Tryd.prog 8 [HV.agg [HV.int .i64 p0.1, HV.int .i64 p0.2.1, slE eFromLabelTo p0.2.2]] (· = HV.bool r) := by
 unfold m_law12_great at h
 refine Pure.of_body Tryd.func8 rfl rfl (Nat.le_of_ble_eq_true rfl) fun hf => ?_
 unfold Tryd.f8
 dsimp only [enumS, Nat.reduceAdd]
 refine AW.rgs rfl fun K hK => ?_
 refine b_op rfl (o_box rfl rfl rfl ?_)
 refine mv rfl rfl ?_
 refine b_fin hK (s' := ⟨[(1, HV.fptr [HV.int .i64 p0.1, HV.int .i64 p0.2.1, slE eFromLabelTo p0.2.2] 0)], []⟩) (le_q rfl rfl) ?_
 clear hK K
 refine AW.rgs rfl fun K hK => ?_
 refine bv rfl (v_loadF ty24 rfl (l_litA rfl (Nat.le_of_ble_eq_true rfl) rfl)) ?_
 obtain ⟨x1, h2, h⟩ := bS h
 refine b_op rfl (o_call rfl rfl rfl rfl (ACallD.pure0 (w_ref09_Great h2)) ?_)
 refine mv rfl rfl ?_
 refine b_fin hK (s' := ⟨[(2, HV.bool x1)], []⟩) (le_q rfl rfl) ?_
 clear hK K
 refine AW.ret ?_
 have h := Option.some.inj h
 subst h
 exact ret_pure (hs := [HV.bool x1]) (q := HV.bool x1) (.inr rfl) (resT rfl rfl) rfl trivial

set_option maxHeartbeats 1600000 in
set_option maxRecDepth 100000 in
theorem w_law12_SubsetCompleted {p0 : TLabelsStatesEdges} {p1 : Int} {p2 : List (Int)} {r : Bool} (h : m_law12_SubsetCompleted p0 p1 p2 = some r) : Pure Tryd.prog 7 [HV.agg [HV.int .i64 p0.1, HV.int .i64 p0.2.1, slE eFromLabelTo p0.2.2], HV.int .u8 p1, slE eU8 p2] (· = HV.bool r) := by
 unfold m_law12_SubsetCompleted at h
 refine Pure.of_body Tryd.func7 rfl rfl (Nat.le_of_ble_eq_true rfl) fun hf => ?_
 unfold Tryd.f7
 dsimp only [enumS, Nat.reduceAdd]
 refine AW.rgs rfl fun K hK => ?_
 refine b_op rfl (o_box rfl rfl rfl ?_)
 refine mv rfl rfl ?_
 refine b_fin hK (s' := ⟨[(1, HV.int .u8 p1), (2, slE eU8 p2), (3, HV.fptr [HV.int .i64 p0.1, HV.int .i64 p0.2.1, slE eFromLabelTo p0.2.2] 0)], []⟩) (le_q rfl rfl) ?_
 clear hK K
 refine AW.seq ?_
 refine AW.seqJ h (S := Bool) (V := Unit) (fun a v => ⟨[(1, HV.int .u8 p1), (2, slE eU8 p2), (3, HV.fptr [HV.int .i64 p0.1, HV.int .i64 p0.2.1, slE eFromLabelTo p0.2.2] 0), (30, HV.bool a)], []⟩) (fun a1 w2 h => ?_) (fun k3 h => ?_)
 ·refine AW.cond rfl (fun hc => ?_) (fun hc => ?_)
  ·have h := ifT hc h
   refine AW.rgs rfl fun K hK => ?_
   obtain ⟨x4, h5, h⟩ := bS h
   refine b_op rfl (o_call rfl rfl rfl rfl (ACallD.pure0 (w_law12_awake h5)) ?_)
   refine mv rfl rfl ?_
   refine b_fin hK (s' := ⟨[(6, HV.bool x4)], []⟩) (le_q rfl rfl) ?_
   clear hK K
   refine AW.ret ?_
   have h := Option.some.inj h
   subst h
   exact ret_pure (hs := [HV.bool x4]) (q := HV.bool x4) (.inr rfl) (resT rfl rfl) rfl trivial
  have h := ifF (bF' hc) h
  refine AW.skip ?_
  refine AW.rgs rfl fun K hK => ?_
  refine bv rfl (v_loadF ty24 rfl (l_litA rfl (Nat.le_of_ble_eq_true rfl) rfl)) ?_
  obtain ⟨x6, h7, h⟩ := bS h
  refine b_op rfl (o_call rfl rfl rfl rfl (ACallD.pure0 (w_subset_Complete h7)) ?_)
  refine mv rfl rfl ?_
  refine bv rfl (v_extract rfl rfl) ?_
  refine bv rfl (v_extract rfl rfl) ?_
  refine bv rfl (v_extract rfl rfl) ?_
  refine b_op rfl (o_alloc (fid := 7) (zs := [HV.int .i64 0, HV.v (.slice none 0 0)]) 7007 rfl rfl ty54 rfl (fun v8 => ?_))
  refine b_op rfl (o_store (cs := [HV.int .i64 x6.1.1, slE (eSl eInt) x6.1.2]) (zs := [HV.int .i64 x6.1.1, slE (eSl eInt) x6.1.2]) rfl rfl rfl ty54 rfl rfl rfl rfl rfl ?_)
  refine mv rfl rfl ?_
  refine mv rfl rfl ?_
  refine b_fin hK (s' := ⟨[(1, HV.int .u8 p1), (2, slE eU8 p2), (3, HV.fptr [HV.int .i64 p0.1, HV.int .i64 p0.2.1, slE eFromLabelTo p0.2.2] 0), (7, HV.ptr 7007 v8 0), (8, slE eInt x6.2.1), (9, HV.int .i64 x6.2.2)], [(7007, v8, .arr 2 54 [HV.int .i64 x6.1.1, slE (eSl eInt) x6.1.2])]⟩) (le_q rfl rfl) ?_
  clear hK K
  refine AW.rgs rfl fun K hK => ?_
  refine bv rfl (v_loadF ty24 rfl (l_litA rfl (Nat.le_of_ble_eq_true rfl) rfl)) ?_
  obtain ⟨x9, h10, h⟩ := bS h
  refine b_op rfl (o_call rfl rfl rfl rfl (ACallD.pure0 (w_graph_Deterministic h10)) ?_)
  refine mv rfl rfl ?_
  refine bv rfl (v_extract rfl rfl) ?_
  refine bv rfl (v_extract rfl rfl) ?_
  refine mv rfl rfl ?_
  refine mv rfl rfl ?_
  refine b_fin hK (s' := ⟨[(1, HV.int .u8 p1), (2, slE eU8 p2), (3, HV.fptr [HV.int .i64 p0.1, HV.int .i64 p0.2.1, slE eFromLabelTo p0.2.2] 0), (7, HV.ptr 7007 v8 0), (8, slE eInt x6.2.1), (9, HV.int .i64 x6.2.2), (10, HV.bool x9.1), (11, HV.int .i64 x9.2)], [(7007, v8, .arr 2 54 [HV.int .i64 x6.1.1, slE (eSl eInt) x6.1.2])]⟩) (le_q rfl rfl) ?_
  clear hK K
  refine AW.seq ?_
  refine AW.seqJ h (S := Bool) (V := Unit) (fun a v => ⟨[(1, HV.int .u8 p1), (2, slE eU8 p2), (3, HV.fptr [HV.int .i64 p0.1, HV.int .i64 p0.2.1, slE eFromLabelTo p0.2.2] 0), (7, HV.ptr 7007 v8 0), (8, slE eInt x6.2.1), (9, HV.int .i64 x6.2.2), (50, HV.bool a)], [(7007, v8, .arr 2 54 [HV.int .i64 x6.1.1, slE (eSl eInt) x6.1.2])]⟩) (fun a11 w12 h => ?_) (fun k13 h => ?_)
  ·refine AW.cond rfl (fun hc => ?_) (fun hc => ?_)
   ·have h := ifT hc h
    refine AW.rgs rfl fun K hK => ?_
    refine mv rfl rfl ?_
    refine b_fin hK (s' := ⟨[(6, HV.bool false)], []⟩) (le_q rfl rfl) ?_
    clear hK K
    refine AW.ret ?_
    have h := Option.some.inj h
    subst h
    exact ret_pure (hs := [HV.bool false]) (q := HV.bool false) (.inr rfl) (resT rfl rfl) rfl trivial
   have h := ifF (bF' hc) h
   refine AW.skip ?_
   refine AW.seq ?_
   refine AW.rgs rfl fun K hK => ?_
   refine mv rfl rfl ?_
   refine bv rfl (v_bin rfl rfl b_neq) ?_
   refine b_fin hK (s' := ⟨[(1, HV.int .u8 p1), (2, slE eU8 p2), (3, HV.fptr [HV.int .i64 p0.1, HV.int .i64 p0.2.1, slE eFromLabelTo p0.2.2] 0), (7, HV.ptr 7007 v8 0), (8, slE eInt x6.2.1), (9, HV.int .i64 x6.2.2), (52, HV.bool (decide (x6.2.2 ≠ 0)))], [(7007, v8, .arr 2 54 [HV.int .i64 x6.1.1, slE (eSl eInt) x6.1.2])]⟩) (le_q rfl rfl) ?_
   clear hK K
   refine AW.cond rfl (fun hc => ?_) (fun hc => ?_)
   ·have hc := of_decide_eq_true hc
    have h := ifT hc h
    refine AW.seqJ h (S := Bool) (V := Unit) (fun a v => ⟨[(6, HV.bool a)], []⟩) (fun a14 w15 h => ?_) (fun k16 h => ?_)
    ·refine AW.ret ?_
     have h := Option.some.inj h
     subst h
     exact ret_pure (hs := [HV.bool a14]) (q := HV.bool a14) (.inr rfl) (resT rfl rfl) rfl trivial
    refine AW.rg rfl fun K hK => ?_
    refine mv rfl rfl ?_
    refine bv rfl (v_bin rfl rfl b_eql) ?_
    refine mv rfl rfl ?_
    by_cases hg20 : x6.2.2 = 8
    ·have h := ifT hg20 h
     refine b_T rfl rfl rfl rfl (decide_eq_true hg20) (o_val rfl (v_fieldAddrP fo54_1 rfl rfl) ?_)
     refine b_T rfl rfl rfl rfl rfl (o_val rfl (v_loadP ty39 rfl rfl (l_lit rfl rfl)) ?_)
     refine b_T rfl rfl rfl rfl rfl (o_val rfl (v_lenF rfl rfl ty39 rfl) ?_)
     refine b_T rfl rfl rfl rfl rfl (o_val rfl (v_bin rfl rfl b_eql) ?_)
     refine bv rfl (v_pickT rfl rfl rfl) ?_
     refine mv rfl rfl ?_
     by_cases hg19 : ((x6.1.2).length : Int) = 0
     ·have h := ifT hg19 h
      obtain ⟨x17, h18, h⟩ := bS h
      refine b_T rfl rfl rfl rfl (decide_eq_true hg19) (o_call rfl rfl rfl rfl (ACallD.pure0 (w_law12_awake h18)) ?_)
      refine bv rfl (v_pickT rfl rfl rfl) ?_
      refine mv rfl rfl ?_
      refine b_nil (hK _ ?_)
      clear hK K
      exact to_le (s' := ⟨[(6, HV.bool x17)], []⟩) (AS.le_of ⟨rfl, trivial⟩ trivial) ⟨x17, (), h, rfl⟩
     have h := ifF hg19 h
     refine b_F rfl rfl rfl rfl rfl (decide_eq_false hg19) ?_
     refine bv rfl (v_pickF rfl rfl rfl) ?_
     refine mv rfl rfl ?_
     refine b_nil (hK _ ?_)
     clear hK K
     exact to_le (s' := ⟨[(6, HV.bool false)], []⟩) (AS.le_of ⟨rfl, trivial⟩ trivial) ⟨false, (), h, rfl⟩
    have h := ifF hg20 h
    refine b_F rfl rfl rfl rfl rfl (decide_eq_false hg20) ?_
    refine b_F rfl rfl rfl rfl rfl rfl ?_
    refine b_F rfl rfl rfl rfl rfl rfl ?_
    refine b_F rfl rfl rfl rfl rfl rfl ?_
    refine bv rfl (v_pickF rfl rfl rfl) ?_
    refine mv rfl rfl ?_
    refine b_F rfl rfl rfl rfl rfl rfl ?_
    refine bv rfl (v_pickF rfl rfl rfl) ?_
    refine mv rfl rfl ?_
    refine b_nil (hK _ ?_)
    clear hK K
    exact to_le (s' := ⟨[(6, HV.bool false)], []⟩) (AS.le_of ⟨rfl, trivial⟩ trivial) ⟨false, (), h, rfl⟩
   have hc := of_decide_eq_false hc
   have h := ifF hc h
   refine AW.skip ?_
   refine AW.seq ?_
   refine AW.seqJ h (S := Bool) (V := Unit) (fun a v => ⟨[(1, HV.int .u8 p1), (2, slE eU8 p2), (3, HV.fptr [HV.int .i64 p0.1, HV.int .i64 p0.2.1, slE eFromLabelTo p0.2.2] 0), (7, HV.ptr 7007 v8 0), (8, slE eInt x6.2.1), (84, HV.bool a)], [(7007, v8, .arr 2 54 [HV.int .i64 x6.1.1, slE (eSl eInt) x6.1.2])]⟩) (fun a21 w22 h => ?_) (fun k23 h => ?_)
   ·refine AW.cond rfl (fun hc => ?_) (fun hc => ?_)
    ·have h := ifT hc h
     refine AW.rgs rfl fun K hK => ?_
     refine mv rfl rfl ?_
     refine b_fin hK (s' := ⟨[(6, HV.bool false)], []⟩) (le_q rfl rfl) ?_
     clear hK K
     refine AW.ret ?_
     have h := Option.some.inj h
     subst h
     exact ret_pure (hs := [HV.bool false]) (q := HV.bool false) (.inr rfl) (resT rfl rfl) rfl trivial
    have h := ifF (bF' hc) h
    refine AW.skip ?_
    refine AW.dgs 13 follows rfl rfl fun K hK => ?_
    refine sm rfl rfl ?_
    refine sv rfl (v_convI ty5 ty3 rfl) ?_
    refine sv rfl (v_fieldAddrF fo24_1 rfl) ?_
    refine sv rfl (v_loadF ty3 rfl (l_lit rfl rfl)) ?_
    obtain ⟨h24, h⟩ := ifN h
    refine sv rfl (v_bin rfl rfl (b_rem h24)) ?_
    refine sm rfl rfl ?_
    refine sv rfl (v_convI ty5 ty3 rfl) ?_
    refine sv rfl (v_fieldAddrF fo24_1 rfl) ?_
    refine sv rfl (v_loadF ty3 rfl (l_lit rfl rfl)) ?_
    obtain ⟨h25, h⟩ := ifN h
    refine sv rfl (v_bin rfl rfl (b_rem h25)) ?_
    refine s_op rfl rfl (ops_bsl rfl rfl (as_of (cs := [HV.int .i64 (Int.tmod (IntKind.wrap .i64 p1) p0.2.1)]) ty30 ty3 rfl rfl rfl rfl rfl) ?_)
    refine sm rfl rfl ?_
    refine sm rfl rfl ?_
    refine s_nil ?_
    refine b_fin hK (s' := ⟨[(2, slE eU8 p2), (3, HV.fptr [HV.int .i64 p0.1, HV.int .i64 p0.2.1, slE eFromLabelTo p0.2.2] 0), (7, HV.ptr 7007 v8 0), (8, slE eInt x6.2.1), (12, HV.int .i64 (Int.tmod (IntKind.wrap .i64 p1) p0.2.1)), (13, slE eInt [Int.tmod (IntKind.wrap .i64 p1) p0.2.1])], [(7007, v8, .arr 2 54 [HV.int .i64 x6.1.1, slE (eSl eInt) x6.1.2])]⟩) (le_q rfl rfl) ?_
    clear hK K
    refine AW.seq ?_
    refine AW.rgs rfl fun K hK => ?_
    refine mv rfl rfl ?_
    refine mv rfl rfl ?_
    refine bv rfl (v_lenF rfl rfl ty25 rfl) ?_
    refine bv rfl (v_min rfl rfl rfl) ?_
    obtain ⟨h26, h⟩ := ifN h
    refine bv rfl (v_sliceF eU8 ty25 es25 rfl rfl rfl h26) ?_
    refine bv rfl (v_lenF rfl rfl ty25 rfl) ?_
    refine mv rfl rfl ?_
    refine b_fin hK (s' := ⟨[(3, HV.fptr [HV.int .i64 p0.1, HV.int .i64 p0.2.1, slE eFromLabelTo p0.2.2] 0), (7, HV.ptr 7007 v8 0), (8, slE eInt x6.2.1), (12, HV.int .i64 (Int.tmod (IntKind.wrap .i64 p1) p0.2.1)), (13, slE eInt [Int.tmod (IntKind.wrap .i64 p1) p0.2.1]), (100, slE eU8 ((p2.take (min ((p2).length : Int) 8).toNat).drop (0 : Int).toNat)), (101, HV.int .i64 (((p2.take (min ((p2).length : Int) 8).toNat).drop (0 : Int).toNat).length : Int)), (102, HV.int .i64 0)], [(7007, v8, .arr 2 54 [HV.int .i64 x6.1.1, slE (eSl eInt) x6.1.2])]⟩) (le_q rfl rfl) ?_
    clear hK K
    refine AW.lpR h (by first | exact up_then | exact up_to) (S := Int × (List Int) × Int) (V := Unit) (fun a v => ⟨[(3, HV.fptr [HV.int .i64 p0.1, HV.int .i64 p0.2.1, slE eFromLabelTo p0.2.2] 0), (7, HV.ptr 7007 v8 0), (8, slE eInt x6.2.1), (12, HV.int .i64 a.1), (13, slE eInt a.2.1), (100, slE eU8 ((p2.take (min ((p2).length : Int) 8).toNat).drop (0 : Int).toNat)), (101, HV.int .i64 (((p2.take (min ((p2).length : Int) 8).toNat).drop (0 : Int).toNat).length : Int)), (102, HV.int .i64 a.2.2)], [(7007, v8, .arr 2 54 [HV.int .i64 x6.1.1, slE (eSl eInt) x6.1.2])]⟩) ?_ (X := Unit) (W := Unit) (fun a v => ⟨[], []⟩) (fun a67 w68 h => ?_) (fun a27 w28 st29 h hr30=> ?_)
    ·exact to_le (s' := ⟨[(3, HV.fptr [HV.int .i64 p0.1, HV.int .i64 p0.2.1, slE eFromLabelTo p0.2.2] 0), (7, HV.ptr 7007 v8 0), (8, slE eInt x6.2.1), (12, HV.int .i64 (Int.tmod (IntKind.wrap .i64 p1) p0.2.1)), (13, slE eInt [Int.tmod (IntKind.wrap .i64 p1) p0.2.1]), (100, slE eU8 ((p2.take (min ((p2).length : Int) 8).toNat).drop (0 : Int).toNat)), (101, HV.int .i64 (((p2.take (min ((p2).length : Int) 8).toNat).drop (0 : Int).toNat).length : Int)), (102, HV.int .i64 0)], [(7007, v8, .arr 2 54 [HV.int .i64 x6.1.1, slE (eSl eInt) x6.1.2])]⟩) (AS.le_of ⟨rfl, rfl, rfl, rfl, rfl, rfl, rfl, rfl, trivial⟩ ⟨rfl, trivial⟩) ⟨(), rfl⟩
    ·refine AW.rgs rfl fun K hK => ?_
     obtain ⟨x69, h70, h⟩ := bS h
     refine b_op rfl (o_call rfl rfl rfl rfl (ACallD.pure0 (w_law12_awake h70)) ?_)
     refine mv rfl rfl ?_
     refine b_fin hK (s' := ⟨[(6, HV.bool x69)], []⟩) (le_q rfl rfl) ?_
     clear hK K
     refine AW.ret ?_
     have h := Option.some.inj h
     subst h
     exact ret_pure (hs := [HV.bool x69]) (q := HV.bool x69) (.inr rfl) (resT rfl rfl) rfl trivial
    refine AW.rgs rfl fun K hK => ?_
    refine bv rfl (v_bin rfl rfl b_lss) ?_
    refine b_fin hK (s' := ⟨[(3, HV.fptr [HV.int .i64 p0.1, HV.int .i64 p0.2.1, slE eFromLabelTo p0.2.2] 0), (7, HV.ptr 7007 v8 0), (8, slE eInt x6.2.1), (12, HV.int .i64 a27.1), (13, slE eInt a27.2.1), (100, slE eU8 ((p2.take (min ((p2).length : Int) 8).toNat).drop (0 : Int).toNat)), (101, HV.int .i64 (((p2.take (min ((p2).length : Int) 8).toNat).drop (0 : Int).toNat).length : Int)), (102, HV.int .i64 a27.2.2), (103, HV.bool (decide (a27.2.2 < (((p2.take (min ((p2).length : Int) 8).toNat).drop (0 : Int).toNat).length : Int))))], [(7007, v8, .arr 2 54 [HV.int .i64 x6.1.1, slE (eSl eInt) x6.1.2])]⟩) (le_q rfl rfl) ?_
    clear hK K
    refine AW.cseq rfl (fun hc => ?_) (fun hc => ?_)
    ·have hc := of_decide_eq_true hc
     have h := ifT hc h
     refine AW.skip ?_
     refine AW.seq (AW.block ?_)
     refine AW.rgs rfl fun K hK => ?_
     obtain ⟨x31, h32, h⟩ := bS h
     refine bv rfl (v_idxF ty25 es25 rfl rfl (idx_lt h32)) ?_
     refine bv rfl (v_loadF ty5 rfl (l_cell eU8 h32 (o := 0) rfl rfl)) ?_
     refine mv rfl rfl ?_
     refine b_fin hK (s' := ⟨[(3, HV.fptr [HV.int .i64 p0.1, HV.int .i64 p0.2.1, slE eFromLabelTo p0.2.2] 0), (7, HV.ptr 7007 v8 0), (8, slE eInt x6.2.1), (12, HV.int .i64 a27.1), (13, slE eInt a27.2.1), (15, HV.int .u8 x31), (100, slE eU8 ((p2.take (min ((p2).length : Int) 8).toNat).drop (0 : Int).toNat)), (101, HV.int .i64 (((p2.take (min ((p2).length : Int) 8).toNat).drop (0 : Int).toNat).length : Int)), (102, HV.int .i64 a27.2.2)], [(7007, v8, .arr 2 54 [HV.int .i64 x6.1.1, slE (eSl eInt) x6.1.2])]⟩) (le_q rfl rfl) ?_
     clear hK K
     refine AW.rgs rfl fun K hK => ?_
     refine mv rfl rfl ?_
     refine bv rfl (v_convI ty5 ty3 rfl) ?_
     refine bv rfl (v_fieldAddrF fo24_0 rfl) ?_
     refine bv rfl (v_loadF ty3 rfl (l_lit rfl rfl)) ?_
     obtain ⟨h33, h⟩ := ifN h
     refine bv rfl (v_bin rfl rfl (b_rem h33)) ?_
     refine mv rfl rfl ?_
     refine b_fin hK (s' := ⟨[(3, HV.fptr [HV.int .i64 p0.1, HV.int .i64 p0.2.1, slE eFromLabelTo p0.2.2] 0), (7, HV.ptr 7007 v8 0), (8, slE eInt x6.2.1), (12, HV.int .i64 a27.1), (13, slE eInt a27.2.1), (16, HV.int .i64 (Int.tmod (IntKind.wrap .i64 x31) p0.1)), (100, slE eU8 ((p2.take (min ((p2).length : Int) 8).toNat).drop (0 : Int).toNat)), (101, HV.int .i64 (((p2.take (min ((p2).length : Int) 8).toNat).drop (0 : Int).toNat).length : Int)), (102, HV.int .i64 a27.2.2)], [(7007, v8, .arr 2 54 [HV.int .i64 x6.1.1, slE (eSl eInt) x6.1.2])]⟩) (le_q rfl rfl) ?_
     clear hK K
     refine AW.rgs rfl fun K hK => ?_
     refine bv rfl (v_loadF ty24 rfl (l_litA rfl (Nat.le_of_ble_eq_true rfl) rfl)) ?_
     refine mv rfl rfl ?_
     refine mv rfl rfl ?_
     obtain ⟨x34, h35, h⟩ := bS h
     refine b_op rfl (o_call rfl rfl rfl rfl (ACallD.pure0 (w_graph_Step h35)) ?_)
     refine mv rfl rfl ?_
     refine bv rfl (v_extract rfl rfl) ?_
     refine bv rfl (v_extract rfl rfl) ?_
     refine mv rfl rfl ?_
     refine mv rfl rfl ?_
     refine b_fin hK (s' := ⟨[(3, HV.fptr [HV.int .i64 p0.1, HV.int .i64 p0.2.1, slE eFromLabelTo p0.2.2] 0), (7, HV.ptr 7007 v8 0), (8, slE eInt x6.2.1), (12, HV.int .i64 a27.1), (16, HV.int .i64 (Int.tmod (IntKind.wrap .i64 x31) p0.1)), (17, slE eInt x34.1), (18, HV.int .i64 x34.2), (100, slE eU8 ((p2.take (min ((p2).length : Int) 8).toNat).drop (0 : Int).toNat)), (101, HV.int .i64 (((p2.take (min ((p2).length : Int) 8).toNat).drop (0 : Int).toNat).length : Int)), (102, HV.int .i64 a27.2.2)], [(7007, v8, .arr 2 54 [HV.int .i64 x6.1.1, slE (eSl eInt) x6.1.2])]⟩) (le_q rfl rfl) ?_
     clear hK K
     refine AW.seq ?_
     refine AW.seqJ h (S := Bool) (V := Unit) (fun a v => ⟨[(3, HV.fptr [HV.int .i64 p0.1, HV.int .i64 p0.2.1, slE eFromLabelTo p0.2.2] 0), (7, HV.ptr 7007 v8 0), (8, slE eInt x6.2.1), (12, HV.int .i64 a27.1), (16, HV.int .i64 (Int.tmod (IntKind.wrap .i64 x31) p0.1)), (17, slE eInt x34.1), (100, slE eU8 ((p2.take (min ((p2).length : Int) 8).toNat).drop (0 : Int).toNat)), (101, HV.int .i64 (((p2.take (min ((p2).length : Int) 8).toNat).drop (0 : Int).toNat).length : Int)), (102, HV.int .i64 a27.2.2), (141, HV.bool a)], [(7007, v8, .arr 2 54 [HV.int .i64 x6.1.1, slE (eSl eInt) x6.1.2])]⟩) (fun a36 w37 h => ?_) (fun k38 h => ?_)
     ·refine AW.cond rfl (fun hc => ?_) (fun hc => ?_)
      ·have h := ifT hc h
       refine AW.rgs rfl fun K hK => ?_
       refine mv rfl rfl ?_
       refine b_fin hK (s' := ⟨[(6, HV.bool false)], []⟩) (le_q rfl rfl) ?_
       clear hK K
       have h := hr30 _ h
       refine AW.ret ?_
       have h := Option.some.inj h
       subst h
       exact ret_pure (hs := [HV.bool false]) (q := HV.bool false) (.inr rfl) (resT rfl rfl) rfl trivial
      have h := ifF (bF' hc) h
      refine AW.skip ?_
      refine AW.rgs rfl fun K hK => ?_
      refine bv rfl (v_fieldAddrP fo54_1 rfl rfl) ?_
      refine bv rfl (v_loadP ty39 rfl rfl (l_lit rfl rfl)) ?_
      refine mv rfl rfl ?_
      obtain ⟨x39, h40, h⟩ := bS h
      refine bv rfl (v_idxF ty39 es39 rfl rfl (idx_lt h40)) ?_
      refine bv rfl (v_loadF ty30 rfl (l_cell (eSl eInt) h40 (o := 0) rfl rfl)) ?_
      refine mv rfl rfl ?_
      obtain ⟨x41, h42, h⟩ := bS h
      refine bv rfl (v_idxF ty30 es30 rfl rfl (idx_lt h42)) ?_
      refine bv rfl (v_loadF ty3 rfl (l_cell eInt h42 (o := 0) rfl rfl)) ?_
      refine mv rfl rfl ?_
      refine mv rfl rfl ?_
      refine mv rfl rfl ?_
      refine b_fin hK (s' := ⟨[(3, HV.fptr [HV.int .i64 p0.1, HV.int .i64 p0.2.1, slE eFromLabelTo p0.2.2] 0), (7, HV.ptr 7007 v8 0), (8, slE eInt x6.2.1), (12, HV.int .i64 x41), (13, slE eInt x34.1), (100, slE eU8 ((p2.take (min ((p2).length : Int) 8).toNat).drop (0 : Int).toNat)), (101, HV.int .i64 (((p2.take (min ((p2).length : Int) 8).toNat).drop (0 : Int).toNat).length : Int)), (102, HV.int .i64 a27.2.2)], [(7007, v8, .arr 2 54 [HV.int .i64 x6.1.1, slE (eSl eInt) x6.1.2])]⟩) (le_q rfl rfl) ?_
      clear hK K
      refine AW.seqJ h (S := Bool) (V := Unit) (fun a v => ⟨[(3, HV.fptr [HV.int .i64 p0.1, HV.int .i64 p0.2.1, slE eFromLabelTo p0.2.2] 0), (7, HV.ptr 7007 v8 0), (8, slE eInt x6.2.1), (12, HV.int .i64 x41), (13, slE eInt x34.1), (100, slE eU8 ((p2.take (min ((p2).length : Int) 8).toNat).drop (0 : Int).toNat)), (101, HV.int .i64 (((p2.take (min ((p2).length : Int) 8).toNat).drop (0 : Int).toNat).length : Int)), (102, HV.int .i64 a27.2.2), (188, HV.bool a)], [(7007, v8, .arr 2 54 [HV.int .i64 x6.1.1, slE (eSl eInt) x6.1.2])]⟩) (fun a43 w44 h => ?_) (fun k45 h => ?_)
      ·refine AW.cond rfl (fun hc => ?_) (fun hc => ?_)
       ·have h := ifT hc h
        refine AW.rgs rfl fun K hK => ?_
        refine mv rfl rfl ?_
        refine b_fin hK (s' := ⟨[(6, HV.bool false)], []⟩) (le_q rfl rfl) ?_
        clear hK K
        have h := hr30 _ h
        refine AW.ret ?_
        have h := Option.some.inj h
        subst h
        exact ret_pure (hs := [HV.bool false]) (q := HV.bool false) (.inr rfl) (resT rfl rfl) rfl trivial
       have h := ifF (bF' hc) h
       refine AW.skip ?_
       refine AW.rg rfl fun K hK => ?_
       refine bv rfl (v_bin rfl rfl b_add) ?_
       refine mv rfl rfl ?_
       refine b_nil (hK _ ?_)
       clear hK K
       exact to_le (s' := ⟨[(3, HV.fptr [HV.int .i64 p0.1, HV.int .i64 p0.2.1, slE eFromLabelTo p0.2.2] 0), (7, HV.ptr 7007 v8 0), (8, slE eInt x6.2.1), (12, HV.int .i64 x41), (13, slE eInt x34.1), (100, slE eU8 ((p2.take (min ((p2).length : Int) 8).toNat).drop (0 : Int).toNat)), (101, HV.int .i64 (((p2.take (min ((p2).length : Int) 8).toNat).drop (0 : Int).toNat).length : Int)), (102, HV.int .i64 (IntKind.wrap .i64 (a27.2.2 + 1)))], [(7007, v8, .arr 2 54 [HV.int .i64 x6.1.1, slE (eSl eInt) x6.1.2])]⟩) (AS.le_of ⟨rfl, rfl, rfl, rfl, rfl, rfl, rfl, rfl, trivial⟩ ⟨rfl, trivial⟩) ⟨(x41, x34.1, IntKind.wrap .i64 (a27.2.2 + 1)), (), h, rfl⟩
      refine AW.rg rfl fun K hK => ?_
      refine mv rfl rfl ?_
      refine bv rfl (v_lenF rfl rfl ty30 rfl) ?_
      refine bv rfl (v_bin rfl rfl b_eql) ?_
      refine mv rfl rfl ?_
      by_cases hg61 : ((x34.1).length : Int) = 1
      ·have h := ifT hg61 h
       refine b_T rfl rfl rfl rfl (decide_eq_true hg61) (o_val rfl (mv_val rfl rfl).2 ?_)
       refine b_T rfl rfl rfl rfl rfl (o_val rfl (mv_val rfl rfl).2 ?_)
       obtain ⟨x46, h47, h⟩ := bS h
       refine b_T rfl rfl rfl rfl rfl (o_val rfl (v_idxF ty30 es30 rfl rfl (idx_lt h47)) ?_)
       refine b_T rfl rfl rfl rfl rfl (o_val rfl (v_loadF ty3 rfl (l_cell eInt h47 (o := 0) rfl rfl)) ?_)
       refine b_T rfl rfl rfl rfl rfl (o_val rfl (v_bin rfl rfl b_neq) ?_)
       refine bv rfl (v_pickT rfl rfl rfl) ?_
       refine mv rfl rfl ?_
       by_cases hg54 : x41 ≠ x46
       ·have h := ifT hg54 h
        refine b_F rfl rfl rfl rfl rfl (decide_eq_true hg54) ?_
        refine b_F rfl rfl rfl rfl rfl rfl ?_
        refine b_F rfl rfl rfl rfl rfl rfl ?_
        refine b_F rfl rfl rfl rfl rfl rfl ?_
        refine b_U rfl rfl rfl rfl rfl ?_
        refine b_U rfl rfl rfl rfl rfl ?_
        refine b_U rfl rfl rfl rfl rfl ?_
        refine b_U rfl rfl rfl rfl rfl ?_
        refine b_U rfl rfl rfl rfl rfl ?_
        refine b_U rfl rfl rfl rfl rfl ?_
        refine b_U rfl rfl rfl rfl rfl ?_
        refine b_U rfl rfl rfl rfl rfl ?_
        refine b_U rfl rfl rfl rfl rfl ?_
        refine b_U rfl rfl rfl rfl rfl ?_
        refine b_U rfl rfl rfl rfl rfl ?_
        refine b_U rfl rfl rfl rfl rfl ?_
        refine b_U rfl rfl rfl rfl rfl ?_
        refine b_U rfl rfl rfl rfl rfl ?_
        refine b_U rfl rfl rfl rfl rfl ?_
        refine b_U rfl rfl rfl rfl rfl ?_
        refine b_F rfl rfl rfl rfl rfl rfl ?_
        refine bv rfl (v_pickT rfl rfl rfl) ?_
        refine mv rfl rfl ?_
        refine b_F rfl rfl rfl rfl rfl rfl ?_
        refine b_F rfl rfl rfl rfl rfl rfl ?_
        refine b_F rfl rfl rfl rfl rfl rfl ?_
        refine bv rfl (v_pickT rfl rfl rfl) ?_
        refine b_nil (hK _ ?_)
        clear hK K
        exact to_le (s' := ⟨[(3, HV.fptr [HV.int .i64 p0.1, HV.int .i64 p0.2.1, slE eFromLabelTo p0.2.2] 0), (7, HV.ptr 7007 v8 0), (8, slE eInt x6.2.1), (12, HV.int .i64 x41), (13, slE eInt x34.1), (100, slE eU8 ((p2.take (min ((p2).length : Int) 8).toNat).drop (0 : Int).toNat)), (101, HV.int .i64 (((p2.take (min ((p2).length : Int) 8).toNat).drop (0 : Int).toNat).length : Int)), (102, HV.int .i64 a27.2.2), (188, HV.bool true)], [(7007, v8, .arr 2 54 [HV.int .i64 x6.1.1, slE (eSl eInt) x6.1.2])]⟩) (AS.le_of ⟨rfl, rfl, rfl, rfl, rfl, rfl, rfl, rfl, rfl, trivial⟩ ⟨rfl, trivial⟩) ⟨true, (), h, rfl⟩
       have h := ifF hg54 h
       refine b_T rfl rfl rfl rfl (decide_eq_false hg54) (o_val rfl (mv_val rfl rfl).2 ?_)
       refine b_T rfl rfl rfl rfl rfl (o_val rfl (v_lenF rfl rfl ty30 rfl) ?_)
       refine b_T rfl rfl rfl rfl rfl (o_val rfl (v_bin rfl rfl b_eql) ?_)
       refine b_T rfl rfl rfl rfl rfl (o_val rfl (mv_val rfl rfl).2 ?_)
       by_cases hg53 : ((x34.1).length : Int) = 0
       ·have h := ifT hg53 h
        refine b_T rfl rfl rfl rfl (decide_eq_true hg53) (o_val rfl (mv_val rfl rfl).2 ?_)
        refine b_T rfl rfl rfl rfl rfl (o_val rfl (v_lenF rfl rfl ty30 rfl) ?_)
        refine b_T rfl rfl rfl rfl rfl (o_val rfl (v_bin rfl rfl b_eql) ?_)
        refine b_T rfl rfl rfl rfl rfl (o_val rfl (mv_val rfl rfl).2 ?_)
        by_cases hg52 : ((x6.2.1).length : Int) = 0
        ·have h := ifT hg52 h
         refine b_F rfl rfl rfl rfl rfl (decide_eq_true hg52) ?_
         refine b_F rfl rfl rfl rfl rfl rfl ?_
         refine b_F rfl rfl rfl rfl rfl rfl ?_
         refine b_F rfl rfl rfl rfl rfl rfl ?_
         refine b_F rfl rfl rfl rfl rfl rfl ?_
         refine b_T rfl rfl rfl rfl rfl (o_val rfl (v_pickT rfl rfl rfl) ?_)
         refine b_T rfl rfl rfl rfl rfl (o_val rfl (mv_val rfl rfl).2 ?_)
         refine b_F rfl rfl rfl rfl rfl rfl ?_
         refine b_F rfl rfl rfl rfl rfl rfl ?_
         refine b_F rfl rfl rfl rfl rfl rfl ?_
         refine b_F rfl rfl rfl rfl rfl rfl ?_
         refine b_T rfl rfl rfl rfl rfl (o_val rfl (v_pickT rfl rfl rfl) ?_)
         refine b_T rfl rfl rfl rfl rfl (o_val rfl (v_pickT rfl rfl rfl) ?_)
         refine bv rfl (v_pickF rfl rfl rfl) ?_
         refine mv rfl rfl ?_
         refine b_F rfl rfl rfl rfl rfl rfl ?_
         refine b_F rfl rfl rfl rfl rfl rfl ?_
         refine b_F rfl rfl rfl rfl rfl rfl ?_
         refine bv rfl (v_pickT rfl rfl rfl) ?_
         refine b_nil (hK _ ?_)
         clear hK K
         exact to_le (s' := ⟨[(3, HV.fptr [HV.int .i64 p0.1, HV.int .i64 p0.2.1, slE eFromLabelTo p0.2.2] 0), (7, HV.ptr 7007 v8 0), (8, slE eInt x6.2.1), (12, HV.int .i64 x41), (13, slE eInt x34.1), (100, slE eU8 ((p2.take (min ((p2).length : Int) 8).toNat).drop (0 : Int).toNat)), (101, HV.int .i64 (((p2.take (min ((p2).length : Int) 8).toNat).drop (0 : Int).toNat).length : Int)), (102, HV.int .i64 a27.2.2), (188, HV.bool true)], [(7007, v8, .arr 2 54 [HV.int .i64 x6.1.1, slE (eSl eInt) x6.1.2])]⟩) (AS.le_of ⟨rfl, rfl, rfl, rfl, rfl, rfl, rfl, rfl, rfl, trivial⟩ ⟨rfl, trivial⟩) ⟨true, (), h, rfl⟩
        have h := ifF hg52 h
        refine b_T rfl rfl rfl rfl (decide_eq_false hg52) (o_val rfl (mv_val rfl rfl).2 ?_)
        refine b_T rfl rfl rfl rfl rfl (o_val rfl (mv_val rfl rfl).2 ?_)
        obtain ⟨x48, h49, h⟩ := bS h
        refine b_T rfl rfl rfl rfl rfl (o_val rfl (v_idxF ty30 es30 rfl rfl (idx_lt h49)) ?_)
        refine b_T rfl rfl rfl rfl rfl (o_val rfl (v_loadF ty3 rfl (l_cell eInt h49 (o := 0) rfl rfl)) ?_)
        refine b_T rfl rfl rfl rfl rfl (o_val rfl (v_bin rfl rfl b_neq) ?_)
        refine b_T rfl rfl rfl rfl rfl (o_val rfl (v_pickF rfl rfl rfl) ?_)
        refine b_T rfl rfl rfl rfl rfl (o_val rfl (mv_val rfl rfl).2 ?_)
        by_cases hg51 : x41 ≠ x48
        ·have h := ifT hg51 h
         refine b_F rfl rfl rfl rfl rfl (decide_eq_true hg51) ?_
         refine b_F rfl rfl rfl rfl rfl rfl ?_
         refine b_F rfl rfl rfl rfl rfl rfl ?_
         refine b_F rfl rfl rfl rfl rfl rfl ?_
         refine b_T rfl rfl rfl rfl rfl (o_val rfl (v_pickT rfl rfl rfl) ?_)
         refine b_T rfl rfl rfl rfl rfl (o_val rfl (v_pickT rfl rfl rfl) ?_)
         refine bv rfl (v_pickF rfl rfl rfl) ?_
         refine mv rfl rfl ?_
         refine b_F rfl rfl rfl rfl rfl rfl ?_
         refine b_F rfl rfl rfl rfl rfl rfl ?_
         refine b_F rfl rfl rfl rfl rfl rfl ?_
         refine bv rfl (v_pickT rfl rfl rfl) ?_
         refine b_nil (hK _ ?_)
         clear hK K
         exact to_le (s' := ⟨[(3, HV.fptr [HV.int .i64 p0.1, HV.int .i64 p0.2.1, slE eFromLabelTo p0.2.2] 0), (7, HV.ptr 7007 v8 0), (8, slE eInt x6.2.1), (12, HV.int .i64 x41), (13, slE eInt x34.1), (100, slE eU8 ((p2.take (min ((p2).length : Int) 8).toNat).drop (0 : Int).toNat)), (101, HV.int .i64 (((p2.take (min ((p2).length : Int) 8).toNat).drop (0 : Int).toNat).length : Int)), (102, HV.int .i64 a27.2.2), (188, HV.bool true)], [(7007, v8, .arr 2 54 [HV.int .i64 x6.1.1, slE (eSl eInt) x6.1.2])]⟩) (AS.le_of ⟨rfl, rfl, rfl, rfl, rfl, rfl, rfl, rfl, rfl, trivial⟩ ⟨rfl, trivial⟩) ⟨true, (), h, rfl⟩
        have h := ifF hg51 h
        refine b_T rfl rfl rfl rfl (decide_eq_false hg51) (o_val rfl (mv_val rfl rfl).2 ?_)
        refine b_T rfl rfl rfl rfl rfl (o_val rfl (v_fieldAddrF fo24_1 rfl) ?_)
        refine b_T rfl rfl rfl rfl rfl (o_val rfl (v_loadF ty3 rfl (l_lit rfl rfl)) ?_)
        refine b_T rfl rfl rfl rfl rfl (o_val rfl (v_bin rfl rfl b_neq) ?_)
        refine b_T rfl rfl rfl rfl rfl (o_val rfl (v_pickF rfl rfl rfl) ?_)
        refine b_T rfl rfl rfl rfl rfl (o_val rfl (v_pickT rfl rfl rfl) ?_)
        refine bv rfl (v_pickF rfl rfl rfl) ?_
        refine mv rfl rfl ?_
        by_cases hg50 : x41 ≠ p0.2.1
        ·have h := ifT hg50 h
         refine b_F rfl rfl rfl rfl rfl (decide_eq_true hg50) ?_
         refine b_F rfl rfl rfl rfl rfl rfl ?_
         refine b_F rfl rfl rfl rfl rfl rfl ?_
         refine bv rfl (v_pickT rfl rfl rfl) ?_
         refine b_nil (hK _ ?_)
         clear hK K
         exact to_le (s' := ⟨[(3, HV.fptr [HV.int .i64 p0.1, HV.int .i64 p0.2.1, slE eFromLabelTo p0.2.2] 0), (7, HV.ptr 7007 v8 0), (8, slE eInt x6.2.1), (12, HV.int .i64 x41), (13, slE eInt x34.1), (100, slE eU8 ((p2.take (min ((p2).length : Int) 8).toNat).drop (0 : Int).toNat)), (101, HV.int .i64 (((p2.take (min ((p2).length : Int) 8).toNat).drop (0 : Int).toNat).length : Int)), (102, HV.int .i64 a27.2.2), (188, HV.bool true)], [(7007, v8, .arr 2 54 [HV.int .i64 x6.1.1, slE (eSl eInt) x6.1.2])]⟩) (AS.le_of ⟨rfl, rfl, rfl, rfl, rfl, rfl, rfl, rfl, rfl, trivial⟩ ⟨rfl, trivial⟩) ⟨true, (), h, rfl⟩
        have h := ifF hg50 h
        refine b_T rfl rfl rfl rfl (decide_eq_false hg50) (o_val rfl (mv_val rfl rfl).2 ?_)
        refine b_T rfl rfl rfl rfl rfl (o_val rfl (v_lenF rfl rfl ty30 rfl) ?_)
        refine b_T rfl rfl rfl rfl rfl (o_val rfl (v_bin rfl rfl b_gtr) ?_)
        refine bv rfl (v_pickF rfl rfl rfl) ?_
        refine b_nil (hK _ ?_)
        clear hK K
        exact to_le (s' := ⟨[(3, HV.fptr [HV.int .i64 p0.1, HV.int .i64 p0.2.1, slE eFromLabelTo p0.2.2] 0), (7, HV.ptr 7007 v8 0), (8, slE eInt x6.2.1), (12, HV.int .i64 x41), (13, slE eInt x34.1), (100, slE eU8 ((p2.take (min ((p2).length : Int) 8).toNat).drop (0 : Int).toNat)), (101, HV.int .i64 (((p2.take (min ((p2).length : Int) 8).toNat).drop (0 : Int).toNat).length : Int)), (102, HV.int .i64 a27.2.2), (188, HV.bool (decide (1 < ((x34.1).length : Int))))], [(7007, v8, .arr 2 54 [HV.int .i64 x6.1.1, slE (eSl eInt) x6.1.2])]⟩) (AS.le_of ⟨rfl, rfl, rfl, rfl, rfl, rfl, rfl, rfl, rfl, trivial⟩ ⟨rfl, trivial⟩) ⟨decide (1 < ((x34.1).length : Int)), (), h, rfl⟩
       have h := ifF hg53 h
       refine b_F rfl rfl rfl rfl rfl (decide_eq_false hg53) ?_
       refine b_F rfl rfl rfl rfl rfl rfl ?_
       refine b_F rfl rfl rfl rfl rfl rfl ?_
       refine b_F rfl rfl rfl rfl rfl rfl ?_
       refine b_U rfl rfl rfl rfl rfl ?_
       refine b_U rfl rfl rfl rfl rfl ?_
       refine b_U rfl rfl rfl rfl rfl ?_
       refine b_U rfl rfl rfl rfl rfl ?_
       refine b_U rfl rfl rfl rfl rfl ?_
       refine b_F rfl rfl rfl rfl rfl rfl ?_
       refine b_F rfl rfl rfl rfl rfl rfl ?_
       refine b_U rfl rfl rfl rfl rfl ?_
       refine b_U rfl rfl rfl rfl rfl ?_
       refine b_U rfl rfl rfl rfl rfl ?_
       refine b_U rfl rfl rfl rfl rfl ?_
       refine b_F rfl rfl rfl rfl rfl rfl ?_
       refine b_T rfl rfl rfl rfl rfl (o_val rfl (v_pickF rfl rfl rfl) ?_)
       refine bv rfl (v_pickF rfl rfl rfl) ?_
       refine mv rfl rfl ?_
       refine b_T rfl rfl rfl rfl rfl (o_val rfl (mv_val rfl rfl).2 ?_)
       refine b_T rfl rfl rfl rfl rfl (o_val rfl (v_lenF rfl rfl ty30 rfl) ?_)
       refine b_T rfl rfl rfl rfl rfl (o_val rfl (v_bin rfl rfl b_gtr) ?_)
       refine bv rfl (v_pickF rfl rfl rfl) ?_
       refine b_nil (hK _ ?_)
       clear hK K
       exact to_le (s' := ⟨[(3, HV.fptr [HV.int .i64 p0.1, HV.int .i64 p0.2.1, slE eFromLabelTo p0.2.2] 0), (7, HV.ptr 7007 v8 0), (8, slE eInt x6.2.1), (12, HV.int .i64 x41), (13, slE eInt x34.1), (100, slE eU8 ((p2.take (min ((p2).length : Int) 8).toNat).drop (0 : Int).toNat)), (101, HV.int .i64 (((p2.take (min ((p2).length : Int) 8).toNat).drop (0 : Int).toNat).length : Int)), (102, HV.int .i64 a27.2.2), (188, HV.bool (decide (1 < ((x34.1).length : Int))))], [(7007, v8, .arr 2 54 [HV.int .i64 x6.1.1, slE (eSl eInt) x6.1.2])]⟩) (AS.le_of ⟨rfl, rfl, rfl, rfl, rfl, rfl, rfl, rfl, rfl, trivial⟩ ⟨rfl, trivial⟩) ⟨decide (1 < ((x34.1).length : Int)), (), h, rfl⟩
      have h := ifF hg61 h
      refine b_F rfl rfl rfl rfl rfl (decide_eq_false hg61) ?_
      refine b_F rfl rfl rfl rfl rfl rfl ?_
      refine b_F rfl rfl rfl rfl rfl rfl ?_
      refine b_F rfl rfl rfl rfl rfl rfl ?_
      refine b_F rfl rfl rfl rfl rfl rfl ?_
      refine bv rfl (v_pickF rfl rfl rfl) ?_
      refine mv rfl rfl ?_
      refine b_T rfl rfl rfl rfl rfl (o_val rfl (mv_val rfl rfl).2 ?_)
      refine b_T rfl rfl rfl rfl rfl (o_val rfl (v_lenF rfl rfl ty30 rfl) ?_)
      refine b_T rfl rfl rfl rfl rfl (o_val rfl (v_bin rfl rfl b_eql) ?_)
      refine b_T rfl rfl rfl rfl rfl (o_val rfl (mv_val rfl rfl).2 ?_)
      by_cases hg60 : ((x34.1).length : Int) = 0
      ·have h := ifT hg60 h
       refine b_T rfl rfl rfl rfl (decide_eq_true hg60) (o_val rfl (mv_val rfl rfl).2 ?_)
       refine b_T rfl rfl rfl rfl rfl (o_val rfl (v_lenF rfl rfl ty30 rfl) ?_)
       refine b_T rfl rfl rfl rfl rfl (o_val rfl (v_bin rfl rfl b_eql) ?_)
       refine b_T rfl rfl rfl rfl rfl (o_val rfl (mv_val rfl rfl).2 ?_)
       by_cases hg59 : ((x6.2.1).length : Int) = 0
       ·have h := ifT hg59 h
        refine b_F rfl rfl rfl rfl rfl (decide_eq_true hg59) ?_
        refine b_F rfl rfl rfl rfl rfl rfl ?_
        refine b_F rfl rfl rfl rfl rfl rfl ?_
        refine b_F rfl rfl rfl rfl rfl rfl ?_
        refine b_F rfl rfl rfl rfl rfl rfl ?_
        refine b_T rfl rfl rfl rfl rfl (o_val rfl (v_pickT rfl rfl rfl) ?_)
        refine b_T rfl rfl rfl rfl rfl (o_val rfl (mv_val rfl rfl).2 ?_)
        refine b_F rfl rfl rfl rfl rfl rfl ?_
        refine b_F rfl rfl rfl rfl rfl rfl ?_
        refine b_F rfl rfl rfl rfl rfl rfl ?_
        refine b_F rfl rfl rfl rfl rfl rfl ?_
        refine b_T rfl rfl rfl rfl rfl (o_val rfl (v_pickT rfl rfl rfl) ?_)
        refine b_T rfl rfl rfl rfl rfl (o_val rfl (v_pickT rfl rfl rfl) ?_)
        refine bv rfl (v_pickF rfl rfl rfl) ?_
        refine mv rfl rfl ?_
        refine b_F rfl rfl rfl rfl rfl rfl ?_
        refine b_F rfl rfl rfl rfl rfl rfl ?_
        refine b_F rfl rfl rfl rfl rfl rfl ?_
        refine bv rfl (v_pickT rfl rfl rfl) ?_
        refine b_nil (hK _ ?_)
        clear hK K
        exact to_le (s' := ⟨[(3, HV.fptr [HV.int .i64 p0.1, HV.int .i64 p0.2.1, slE eFromLabelTo p0.2.2] 0), (7, HV.ptr 7007 v8 0), (8, slE eInt x6.2.1), (12, HV.int .i64 x41), (13, slE eInt x34.1), (100, slE eU8 ((p2.take (min ((p2).length : Int) 8).toNat).drop (0 : Int).toNat)), (101, HV.int .i64 (((p2.take (min ((p2).length : Int) 8).toNat).drop (0 : Int).toNat).length : Int)), (102, HV.int .i64 a27.2.2), (188, HV.bool true)], [(7007, v8, .arr 2 54 [HV.int .i64 x6.1.1, slE (eSl eInt) x6.1.2])]⟩) (AS.le_of ⟨rfl, rfl, rfl, rfl, rfl, rfl, rfl, rfl, rfl, trivial⟩ ⟨rfl, trivial⟩) ⟨true, (), h, rfl⟩
       have h := ifF hg59 h
       refine b_T rfl rfl rfl rfl (decide_eq_false hg59) (o_val rfl (mv_val rfl rfl).2 ?_)
       refine b_T rfl rfl rfl rfl rfl (o_val rfl (mv_val rfl rfl).2 ?_)
       obtain ⟨x55, h56, h⟩ := bS h
       refine b_T rfl rfl rfl rfl rfl (o_val rfl (v_idxF ty30 es30 rfl rfl (idx_lt h56)) ?_)
       refine b_T rfl rfl rfl rfl rfl (o_val rfl (v_loadF ty3 rfl (l_cell eInt h56 (o := 0) rfl rfl)) ?_)
       refine b_T rfl rfl rfl rfl rfl (o_val rfl (v_bin rfl rfl b_neq) ?_)
       refine b_T rfl rfl rfl rfl rfl (o_val rfl (v_pickF rfl rfl rfl) ?_)
       refine b_T rfl rfl rfl rfl rfl (o_val rfl (mv_val rfl rfl).2 ?_)
       by_cases hg58 : x41 ≠ x55
       ·have h := ifT hg58 h
        refine b_F rfl rfl rfl rfl rfl (decide_eq_true hg58) ?_
        refine b_F rfl rfl rfl rfl rfl rfl ?_
        refine b_F rfl rfl rfl rfl rfl rfl ?_
        refine b_F rfl rfl rfl rfl rfl rfl ?_
        refine b_T rfl rfl rfl rfl rfl (o_val rfl (v_pickT rfl rfl rfl) ?_)
        refine b_T rfl rfl rfl rfl rfl (o_val rfl (v_pickT rfl rfl rfl) ?_)
        refine bv rfl (v_pickF rfl rfl rfl) ?_
        refine mv rfl rfl ?_
        refine b_F rfl rfl rfl rfl rfl rfl ?_
        refine b_F rfl rfl rfl rfl rfl rfl ?_
        refine b_F rfl rfl rfl rfl rfl rfl ?_
        refine bv rfl (v_pickT rfl rfl rfl) ?_
        refine b_nil (hK _ ?_)
        clear hK K
        exact to_le (s' := ⟨[(3, HV.fptr [HV.int .i64 p0.1, HV.int .i64 p0.2.1, slE eFromLabelTo p0.2.2] 0), (7, HV.ptr 7007 v8 0), (8, slE eInt x6.2.1), (12, HV.int .i64 x41), (13, slE eInt x34.1), (100, slE eU8 ((p2.take (min ((p2).length : Int) 8).toNat).drop (0 : Int).toNat)), (101, HV.int .i64 (((p2.take (min ((p2).length : Int) 8).toNat).drop (0 : Int).toNat).length : Int)), (102, HV.int .i64 a27.2.2), (188, HV.bool true)], [(7007, v8, .arr 2 54 [HV.int .i64 x6.1.1, slE (eSl eInt) x6.1.2])]⟩) (AS.le_of ⟨rfl, rfl, rfl, rfl, rfl, rfl, rfl, rfl, rfl, trivial⟩ ⟨rfl, trivial⟩) ⟨true, (), h, rfl⟩
       have h := ifF hg58 h
       refine b_T rfl rfl rfl rfl (decide_eq_false hg58) (o_val rfl (mv_val rfl rfl).2 ?_)
       refine b_T rfl rfl rfl rfl rfl (o_val rfl (v_fieldAddrF fo24_1 rfl) ?_)
       refine b_T rfl rfl rfl rfl rfl (o_val rfl (v_loadF ty3 rfl (l_lit rfl rfl)) ?_)
       refine b_T rfl rfl rfl rfl rfl (o_val rfl (v_bin rfl rfl b_neq) ?_)
       refine b_T rfl rfl rfl rfl rfl (o_val rfl (v_pickF rfl rfl rfl) ?_)
       refine b_T rfl rfl rfl rfl rfl (o_val rfl (v_pickT rfl rfl rfl) ?_)
       refine bv rfl (v_pickF rfl rfl rfl) ?_
       refine mv rfl rfl ?_
       by_cases hg57 : x41 ≠ p0.2.1
       ·have h := ifT hg57 h
        refine b_F rfl rfl rfl rfl rfl (decide_eq_true hg57) ?_
        refine b_F rfl rfl rfl rfl rfl rfl ?_
        refine b_F rfl rfl rfl rfl rfl rfl ?_
        refine bv rfl (v_pickT rfl rfl rfl) ?_
        refine b_nil (hK _ ?_)
        clear hK K
        exact to_le (s' := ⟨[(3, HV.fptr [HV.int .i64 p0.1, HV.int .i64 p0.2.1, slE eFromLabelTo p0.2.2] 0), (7, HV.ptr 7007 v8 0), (8, slE eInt x6.2.1), (12, HV.int .i64 x41), (13, slE eInt x34.1), (100, slE eU8 ((p2.take (min ((p2).length : Int) 8).toNat).drop (0 : Int).toNat)), (101, HV.int .i64 (((p2.take (min ((p2).length : Int) 8).toNat).drop (0 : Int).toNat).length : Int)), (102, HV.int .i64 a27.2.2), (188, HV.bool true)], [(7007, v8, .arr 2 54 [HV.int .i64 x6.1.1, slE (eSl eInt) x6.1.2])]⟩) (AS.le_of ⟨rfl, rfl, rfl, rfl, rfl, rfl, rfl, rfl, rfl, trivial⟩ ⟨rfl, trivial⟩) ⟨true, (), h, rfl⟩
       have h := ifF hg57 h
       refine b_T rfl rfl rfl rfl (decide_eq_false hg57) (o_val rfl (mv_val rfl rfl).2 ?_)
       refine b_T rfl rfl rfl rfl rfl (o_val rfl (v_lenF rfl rfl ty30 rfl) ?_)
       refine b_T rfl rfl rfl rfl rfl (o_val rfl (v_bin rfl rfl b_gtr) ?_)
       refine bv rfl (v_pickF rfl rfl rfl) ?_
       refine b_nil (hK _ ?_)
       clear hK K
       exact to_le (s' := ⟨[(3, HV.fptr [HV.int .i64 p0.1, HV.int .i64 p0.2.1, slE eFromLabelTo p0.2.2] 0), (7, HV.ptr 7007 v8 0), (8, slE eInt x6.2.1), (12, HV.int .i64 x41), (13, slE eInt x34.1), (100, slE eU8 ((p2.take (min ((p2).length : Int) 8).toNat).drop (0 : Int).toNat)), (101, HV.int .i64 (((p2.take (min ((p2).length : Int) 8).toNat).drop (0 : Int).toNat).length : Int)), (102, HV.int .i64 a27.2.2), (188, HV.bool (decide (1 < ((x34.1).length : Int))))], [(7007, v8, .arr 2 54 [HV.int .i64 x6.1.1, slE (eSl eInt) x6.1.2])]⟩) (AS.le_of ⟨rfl, rfl, rfl, rfl, rfl, rfl, rfl, rfl, rfl, trivial⟩ ⟨rfl, trivial⟩) ⟨decide (1 < ((x34.1).length : Int)), (), h, rfl⟩
      have h := ifF hg60 h
      refine b_F rfl rfl rfl rfl rfl (decide_eq_false hg60) ?_
      refine b_F rfl rfl rfl rfl rfl rfl ?_
      refine b_F rfl rfl rfl rfl rfl rfl ?_
      refine b_F rfl rfl rfl rfl rfl rfl ?_
      refine b_U rfl rfl rfl rfl rfl ?_
      refine b_U rfl rfl rfl rfl rfl ?_
      refine b_U rfl rfl rfl rfl rfl ?_
      refine b_U rfl rfl rfl rfl rfl ?_
      refine b_U rfl rfl rfl rfl rfl ?_
      refine b_F rfl rfl rfl rfl rfl rfl ?_
      refine b_F rfl rfl rfl rfl rfl rfl ?_
      refine b_U rfl rfl rfl rfl rfl ?_
      refine b_U rfl rfl rfl rfl rfl ?_
      refine b_U rfl rfl rfl rfl rfl ?_
      refine b_U rfl rfl rfl rfl rfl ?_
      refine b_F rfl rfl rfl rfl rfl rfl ?_
      refine b_T rfl rfl rfl rfl rfl (o_val rfl (v_pickF rfl rfl rfl) ?_)
      refine bv rfl (v_pickF rfl rfl rfl) ?_
      refine mv rfl rfl ?_
      refine b_T rfl rfl rfl rfl rfl (o_val rfl (mv_val rfl rfl).2 ?_)
      refine b_T rfl rfl rfl rfl rfl (o_val rfl (v_lenF rfl rfl ty30 rfl) ?_)
      refine b_T rfl rfl rfl rfl rfl (o_val rfl (v_bin rfl rfl b_gtr) ?_)
      refine bv rfl (v_pickF rfl rfl rfl) ?_
      refine b_nil (hK _ ?_)
      clear hK K
      exact to_le (s' := ⟨[(3, HV.fptr [HV.int .i64 p0.1, HV.int .i64 p0.2.1, slE eFromLabelTo p0.2.2] 0), (7, HV.ptr 7007 v8 0), (8, slE eInt x6.2.1), (12, HV.int .i64 x41), (13, slE eInt x34.1), (100, slE eU8 ((p2.take (min ((p2).length : Int) 8).toNat).drop (0 : Int).toNat)), (101, HV.int .i64 (((p2.take (min ((p2).length : Int) 8).toNat).drop (0 : Int).toNat).length : Int)), (102, HV.int .i64 a27.2.2), (188, HV.bool (decide (1 < ((x34.1).length : Int))))], [(7007, v8, .arr 2 54 [HV.int .i64 x6.1.1, slE (eSl eInt) x6.1.2])]⟩) (AS.le_of ⟨rfl, rfl, rfl, rfl, rfl, rfl, rfl, rfl, rfl, trivial⟩ ⟨rfl, trivial⟩) ⟨decide (1 < ((x34.1).length : Int)), (), h, rfl⟩
     refine AW.dg 24 follows rfl rfl fun K hK => ?_
     refine sm rfl rfl ?_
     refine sv rfl (v_bin rfl rfl b_neq) ?_
     refine sm rfl rfl ?_
     by_cases hg66 : x34.2 ≠ 0
     ·have h := ifT hg66 h
      refine s_F rfl rfl rfl rfl rfl (decide_eq_true hg66) ?_
      refine s_F rfl rfl rfl rfl rfl rfl ?_
      refine sv rfl (v_pickT rfl rfl rfl) ?_
      refine sm rfl rfl ?_
      refine s_F rfl rfl rfl rfl rfl rfl ?_
      refine s_F rfl rfl rfl rfl rfl rfl ?_
      refine s_F rfl rfl rfl rfl rfl rfl ?_
      refine s_F rfl rfl rfl rfl rfl rfl ?_
      refine s_F rfl rfl rfl rfl rfl rfl ?_
      refine sv rfl (v_pickT rfl rfl rfl) ?_
      refine sm rfl rfl ?_
      refine s_F rfl rfl rfl rfl rfl rfl ?_
      refine s_F rfl rfl rfl rfl rfl rfl ?_
      refine s_F rfl rfl rfl rfl rfl rfl ?_
      refine s_F rfl rfl rfl rfl rfl rfl ?_
      refine s_F rfl rfl rfl rfl rfl rfl ?_
      refine s_F rfl rfl rfl rfl rfl rfl ?_
      refine s_F rfl rfl rfl rfl rfl rfl ?_
      refine s_F rfl rfl rfl rfl rfl rfl ?_
      refine s_F rfl rfl rfl rfl rfl rfl ?_
      refine sv rfl (v_pickT rfl rfl rfl) ?_
      refine s_nil ?_
      refine b_nil (hK _ ?_)
      clear hK K
      exact to_le (s' := ⟨[(3, HV.fptr [HV.int .i64 p0.1, HV.int .i64 p0.2.1, slE eFromLabelTo p0.2.2] 0), (7, HV.ptr 7007 v8 0), (8, slE eInt x6.2.1), (12, HV.int .i64 a27.1), (16, HV.int .i64 (Int.tmod (IntKind.wrap .i64 x31) p0.1)), (17, slE eInt x34.1), (100, slE eU8 ((p2.take (min ((p2).length : Int) 8).toNat).drop (0 : Int).toNat)), (101, HV.int .i64 (((p2.take (min ((p2).length : Int) 8).toNat).drop (0 : Int).toNat).length : Int)), (102, HV.int .i64 a27.2.2), (141, HV.bool true)], [(7007, v8, .arr 2 54 [HV.int .i64 x6.1.1, slE (eSl eInt) x6.1.2])]⟩) (AS.le_of ⟨rfl, rfl, rfl, rfl, rfl, rfl, rfl, rfl, rfl, rfl, trivial⟩ ⟨rfl, trivial⟩) ⟨true, (), h, rfl⟩
     have h := ifF hg66 h
     refine s_T rfl rfl rfl rfl rfl (decide_eq_false hg66) (ops_val rfl (mv_val rfl rfl).2 ?_)
     refine s_T rfl rfl rfl rfl rfl rfl (ops_val rfl (v_bin rfl rfl b_lss) ?_)
     refine sv rfl (v_pickF rfl rfl rfl) ?_
     refine sm rfl rfl ?_
     by_cases hg65 : a27.1 < 0
     ·have h := ifT hg65 h
      refine s_F rfl rfl rfl rfl rfl (decide_eq_true hg65) ?_
      refine s_F rfl rfl rfl rfl rfl rfl ?_
      refine s_F rfl rfl rfl rfl rfl rfl ?_
      refine s_F rfl rfl rfl rfl rfl rfl ?_
      refine s_F rfl rfl rfl rfl rfl rfl ?_
      refine sv rfl (v_pickT rfl rfl rfl) ?_
      refine sm rfl rfl ?_
      refine s_F rfl rfl rfl rfl rfl rfl ?_
      refine s_F rfl rfl rfl rfl rfl rfl ?_
      refine s_F rfl rfl rfl rfl rfl rfl ?_
      refine s_F rfl rfl rfl rfl rfl rfl ?_
      refine s_F rfl rfl rfl rfl rfl rfl ?_
      refine s_F rfl rfl rfl rfl rfl rfl ?_
      refine s_F rfl rfl rfl rfl rfl rfl ?_
      refine s_F rfl rfl rfl rfl rfl rfl ?_
      refine s_F rfl rfl rfl rfl rfl rfl ?_
      refine sv rfl (v_pickT rfl rfl rfl) ?_
      refine s_nil ?_
      refine b_nil (hK _ ?_)
      clear hK K
      exact to_le (s' := ⟨[(3, HV.fptr [HV.int .i64 p0.1, HV.int .i64 p0.2.1, slE eFromLabelTo p0.2.2] 0), (7, HV.ptr 7007 v8 0), (8, slE eInt x6.2.1), (12, HV.int .i64 a27.1), (16, HV.int .i64 (Int.tmod (IntKind.wrap .i64 x31) p0.1)), (17, slE eInt x34.1), (100, slE eU8 ((p2.take (min ((p2).length : Int) 8).toNat).drop (0 : Int).toNat)), (101, HV.int .i64 (((p2.take (min ((p2).length : Int) 8).toNat).drop (0 : Int).toNat).length : Int)), (102, HV.int .i64 a27.2.2), (141, HV.bool true)], [(7007, v8, .arr 2 54 [HV.int .i64 x6.1.1, slE (eSl eInt) x6.1.2])]⟩) (AS.le_of ⟨rfl, rfl, rfl, rfl, rfl, rfl, rfl, rfl, rfl, rfl, trivial⟩ ⟨rfl, trivial⟩) ⟨true, (), h, rfl⟩
     have h := ifF hg65 h
     refine s_T rfl rfl rfl rfl rfl (decide_eq_false hg65) (ops_val rfl (mv_val rfl rfl).2 ?_)
     refine s_T rfl rfl rfl rfl rfl rfl (ops_val rfl (v_fieldAddrP fo54_1 rfl rfl) ?_)
     refine s_T rfl rfl rfl rfl rfl rfl (ops_val rfl (v_loadP ty39 rfl rfl (l_lit rfl rfl)) ?_)
     refine s_T rfl rfl rfl rfl rfl rfl (ops_val rfl (v_lenF rfl rfl ty39 rfl) ?_)
     refine s_T rfl rfl rfl rfl rfl rfl (ops_val rfl (v_bin rfl rfl b_geq) ?_)
     refine sv rfl (v_pickF rfl rfl rfl) ?_
     refine sm rfl rfl ?_
     by_cases hg64 : ((x6.1.2).length : Int) ≤ a27.1
     ·have h := ifT hg64 h
      refine s_F rfl rfl rfl rfl rfl (decide_eq_true hg64) ?_
      refine s_F rfl rfl rfl rfl rfl rfl ?_
      refine s_F rfl rfl rfl rfl rfl rfl ?_
      refine s_F rfl rfl rfl rfl rfl rfl ?_
      refine s_F rfl rfl rfl rfl rfl rfl ?_
      refine s_F rfl rfl rfl rfl rfl rfl ?_
      refine s_F rfl rfl rfl rfl rfl rfl ?_
      refine s_F rfl rfl rfl rfl rfl rfl ?_
      refine s_F rfl rfl rfl rfl rfl rfl ?_
      refine sv rfl (v_pickT rfl rfl rfl) ?_
      refine s_nil ?_
      refine b_nil (hK _ ?_)
      clear hK K
      exact to_le (s' := ⟨[(3, HV.fptr [HV.int .i64 p0.1, HV.int .i64 p0.2.1, slE eFromLabelTo p0.2.2] 0), (7, HV.ptr 7007 v8 0), (8, slE eInt x6.2.1), (12, HV.int .i64 a27.1), (16, HV.int .i64 (Int.tmod (IntKind.wrap .i64 x31) p0.1)), (17, slE eInt x34.1), (100, slE eU8 ((p2.take (min ((p2).length : Int) 8).toNat).drop (0 : Int).toNat)), (101, HV.int .i64 (((p2.take (min ((p2).length : Int) 8).toNat).drop (0 : Int).toNat).length : Int)), (102, HV.int .i64 a27.2.2), (141, HV.bool true)], [(7007, v8, .arr 2 54 [HV.int .i64 x6.1.1, slE (eSl eInt) x6.1.2])]⟩) (AS.le_of ⟨rfl, rfl, rfl, rfl, rfl, rfl, rfl, rfl, rfl, rfl, trivial⟩ ⟨rfl, trivial⟩) ⟨true, (), h, rfl⟩
     have h := ifF hg64 h
     refine s_T rfl rfl rfl rfl rfl (decide_eq_false hg64) (ops_val rfl (v_fieldAddrP fo54_1 rfl rfl) ?_)
     refine s_T rfl rfl rfl rfl rfl rfl (ops_val rfl (v_loadP ty39 rfl rfl (l_lit rfl rfl)) ?_)
     refine s_T rfl rfl rfl rfl rfl rfl (ops_val rfl (mv_val rfl rfl).2 ?_)
     obtain ⟨x62, h63, h⟩ := bS h
     refine s_T rfl rfl rfl rfl rfl rfl (ops_val rfl (v_idxF ty39 es39 rfl rfl (idx_lt h63)) ?_)
     refine s_T rfl rfl rfl rfl rfl rfl (ops_val rfl (v_loadF ty30 rfl (l_cell (eSl eInt) h63 (o := 0) rfl rfl)) ?_)
     refine s_T rfl rfl rfl rfl rfl rfl (ops_val rfl (v_lenF rfl rfl ty30 rfl) ?_)
     refine s_T rfl rfl rfl rfl rfl rfl (ops_val rfl (v_fieldAddrF fo24_0 rfl) ?_)
     refine s_T rfl rfl rfl rfl rfl rfl (ops_val rfl (v_loadF ty3 rfl (l_lit rfl rfl)) ?_)
     refine s_T rfl rfl rfl rfl rfl rfl (ops_val rfl (v_bin rfl rfl b_neq) ?_)
     refine sv rfl (v_pickF rfl rfl rfl) ?_
     refine s_nil ?_
     refine b_nil (hK _ ?_)
     clear hK K
     exact to_le (s' := ⟨[(3, HV.fptr [HV.int .i64 p0.1, HV.int .i64 p0.2.1, slE eFromLabelTo p0.2.2] 0), (7, HV.ptr 7007 v8 0), (8, slE eInt x6.2.1), (12, HV.int .i64 a27.1), (16, HV.int .i64 (Int.tmod (IntKind.wrap .i64 x31) p0.1)), (17, slE eInt x34.1), (100, slE eU8 ((p2.take (min ((p2).length : Int) 8).toNat).drop (0 : Int).toNat)), (101, HV.int .i64 (((p2.take (min ((p2).length : Int) 8).toNat).drop (0 : Int).toNat).length : Int)), (102, HV.int .i64 a27.2.2), (141, HV.bool (decide (((x62).length : Int) ≠ p0.1)))], [(7007, v8, .arr 2 54 [HV.int .i64 x6.1.1, slE (eSl eInt) x6.1.2])]⟩) (AS.le_of ⟨rfl, rfl, rfl, rfl, rfl, rfl, rfl, rfl, rfl, rfl, trivial⟩ ⟨rfl, trivial⟩) ⟨decide (((x62).length : Int) ≠ p0.1), (), h, rfl⟩
    have hc := of_decide_eq_false hc
    have h := ifF hc h
    refine AW.exit ?_
    exact to_le (s' := ⟨[], []⟩) (AS.le_of trivial trivial) ⟨(), (), h, rfl⟩
   refine AW.rg rfl fun K hK => ?_
   refine bv rfl (v_fieldAddrP fo54_1 rfl rfl) ?_
   refine bv rfl (v_loadP ty39 rfl rfl (l_lit rfl rfl)) ?_
   refine bv rfl (v_lenF rfl rfl ty39 rfl) ?_
   refine bv rfl (v_fieldAddrF fo24_1 rfl) ?_
   refine bv rfl (v_loadF ty3 rfl (l_lit rfl rfl)) ?_
   refine mv rfl rfl ?_
   refine bv rfl (v_lenF rfl rfl ty30 rfl) ?_
   refine bv rfl (v_bin rfl rfl b_add) ?_
   refine bv rfl (v_bin rfl rfl b_neq) ?_
   refine mv rfl rfl ?_
   by_cases hg72 : ((x6.1.2).length : Int) ≠ (IntKind.wrap .i64 (p0.2.1 + ((x6.2.1).length : Int)))
   ·have h := ifT hg72 h
    refine b_F rfl rfl rfl rfl rfl (decide_eq_true hg72) ?_
    refine b_F rfl rfl rfl rfl rfl rfl ?_
    refine b_F rfl rfl rfl rfl rfl rfl ?_
    refine bv rfl (v_pickT rfl rfl rfl) ?_
    refine mv rfl rfl ?_
    refine b_F rfl rfl rfl rfl rfl rfl ?_
    refine b_F rfl rfl rfl rfl rfl rfl ?_
    refine b_F rfl rfl rfl rfl rfl rfl ?_
    refine b_F rfl rfl rfl rfl rfl rfl ?_
    refine b_F rfl rfl rfl rfl rfl rfl ?_
    refine bv rfl (v_pickT rfl rfl rfl) ?_
    refine b_nil (hK _ ?_)
    clear hK K
    exact to_le (s' := ⟨[(1, HV.int .u8 p1), (2, slE eU8 p2), (3, HV.fptr [HV.int .i64 p0.1, HV.int .i64 p0.2.1, slE eFromLabelTo p0.2.2] 0), (7, HV.ptr 7007 v8 0), (8, slE eInt x6.2.1), (84, HV.bool true)], [(7007, v8, .arr 2 54 [HV.int .i64 x6.1.1, slE (eSl eInt) x6.1.2])]⟩) (AS.le_of ⟨rfl, rfl, rfl, rfl, rfl, rfl, trivial⟩ ⟨rfl, trivial⟩) ⟨true, (), h, rfl⟩
   have h := ifF hg72 h
   refine b_T rfl rfl rfl rfl (decide_eq_false hg72) (o_val rfl (mv_val rfl rfl).2 ?_)
   refine b_T rfl rfl rfl rfl rfl (o_val rfl (v_lenF rfl rfl ty30 rfl) ?_)
   refine b_T rfl rfl rfl rfl rfl (o_val rfl (v_bin rfl rfl b_gtr) ?_)
   refine bv rfl (v_pickF rfl rfl rfl) ?_
   refine mv rfl rfl ?_
   by_cases hg71 : 1 < ((x6.2.1).length : Int)
   ·have h := ifT hg71 h
    refine b_F rfl rfl rfl rfl rfl (decide_eq_true hg71) ?_
    refine b_F rfl rfl rfl rfl rfl rfl ?_
    refine b_F rfl rfl rfl rfl rfl rfl ?_
    refine b_F rfl rfl rfl rfl rfl rfl ?_
    refine b_F rfl rfl rfl rfl rfl rfl ?_
    refine bv rfl (v_pickT rfl rfl rfl) ?_
    refine b_nil (hK _ ?_)
    clear hK K
    exact to_le (s' := ⟨[(1, HV.int .u8 p1), (2, slE eU8 p2), (3, HV.fptr [HV.int .i64 p0.1, HV.int .i64 p0.2.1, slE eFromLabelTo p0.2.2] 0), (7, HV.ptr 7007 v8 0), (8, slE eInt x6.2.1), (84, HV.bool true)], [(7007, v8, .arr 2 54 [HV.int .i64 x6.1.1, slE (eSl eInt) x6.1.2])]⟩) (AS.le_of ⟨rfl, rfl, rfl, rfl, rfl, rfl, trivial⟩ ⟨rfl, trivial⟩) ⟨true, (), h, rfl⟩
   have h := ifF hg71 h
   refine b_T rfl rfl rfl rfl (decide_eq_false hg71) (o_val rfl (v_fieldAddrP fo54_0 rfl rfl) ?_)
   refine b_T rfl rfl rfl rfl rfl (o_val rfl (v_loadP ty3 rfl rfl (l_lit rfl rfl)) ?_)
   refine b_T rfl rfl rfl rfl rfl (o_val rfl (v_fieldAddrF fo24_0 rfl) ?_)
   refine b_T rfl rfl rfl rfl rfl (o_val rfl (v_loadF ty3 rfl (l_lit rfl rfl)) ?_)
   refine b_T rfl rfl rfl rfl rfl (o_val rfl (v_bin rfl rfl b_neq) ?_)
   refine bv rfl (v_pickF rfl rfl rfl) ?_
   refine b_nil (hK _ ?_)
   clear hK K
   exact to_le (s' := ⟨[(1, HV.int .u8 p1), (2, slE eU8 p2), (3, HV.fptr [HV.int .i64 p0.1, HV.int .i64 p0.2.1, slE eFromLabelTo p0.2.2] 0), (7, HV.ptr 7007 v8 0), (8, slE eInt x6.2.1), (84, HV.bool (decide (x6.1.1 ≠ p0.1)))], [(7007, v8, .arr 2 54 [HV.int .i64 x6.1.1, slE (eSl eInt) x6.1.2])]⟩) (AS.le_of ⟨rfl, rfl, rfl, rfl, rfl, rfl, trivial⟩ ⟨rfl, trivial⟩) ⟨decide (x6.1.1 ≠ p0.1), (), h, rfl⟩
  refine AW.rg rfl fun K hK => ?_
  refine mv rfl rfl ?_
  refine bv rfl (v_bin rfl rfl b_neq) ?_
  refine mv rfl rfl ?_
  by_cases hg73 : x9.2 ≠ 0
  ·have h := ifT hg73 h
   refine b_F rfl rfl rfl rfl rfl (decide_eq_true hg73) ?_
   refine b_F rfl rfl rfl rfl rfl rfl ?_
   refine b_F rfl rfl rfl rfl rfl rfl ?_
   refine b_F rfl rfl rfl rfl rfl rfl ?_
   refine bv rfl (v_pickT rfl rfl rfl) ?_
   refine b_nil (hK _ ?_)
   clear hK K
   exact to_le (s' := ⟨[(1, HV.int .u8 p1), (2, slE eU8 p2), (3, HV.fptr [HV.int .i64 p0.1, HV.int .i64 p0.2.1, slE eFromLabelTo p0.2.2] 0), (7, HV.ptr 7007 v8 0), (8, slE eInt x6.2.1), (9, HV.int .i64 x6.2.2), (50, HV.bool true)], [(7007, v8, .arr 2 54 [HV.int .i64 x6.1.1, slE (eSl eInt) x6.1.2])]⟩) (AS.le_of ⟨rfl, rfl, rfl, rfl, rfl, rfl, rfl, trivial⟩ ⟨rfl, trivial⟩) ⟨true, (), h, rfl⟩
  have h := ifF hg73 h
  refine b_T rfl rfl rfl rfl (decide_eq_false hg73) (o_val rfl (mv_val rfl rfl).2 ?_)
  refine b_T rfl rfl rfl rfl rfl (o_val rfl (v_bin rfl rfl b_eql) ?_)
  refine b_T rfl rfl rfl rfl rfl (o_val rfl (mv_val rfl rfl).2 ?_)
  refine b_T rfl rfl rfl rfl rfl (o_val rfl (v_bin rfl rfl (b_neB ty4)) ?_)
  refine bv rfl (v_pickF rfl rfl rfl) ?_
  refine b_nil (hK _ ?_)
  clear hK K
  exact to_le (s' := ⟨[(1, HV.int .u8 p1), (2, slE eU8 p2), (3, HV.fptr [HV.int .i64 p0.1, HV.int .i64 p0.2.1, slE eFromLabelTo p0.2.2] 0), (7, HV.ptr 7007 v8 0), (8, slE eInt x6.2.1), (9, HV.int .i64 x6.2.2), (50, HV.bool (!((decide (x6.2.2 = 0)) == x9.1)))], [(7007, v8, .arr 2 54 [HV.int .i64 x6.1.1, slE (eSl eInt) x6.1.2])]⟩) (AS.le_of ⟨rfl, rfl, rfl, rfl, rfl, rfl, rfl, trivial⟩ ⟨rfl, trivial⟩) ⟨!((decide (x6.2.2 = 0)) == x9.1), (), h, rfl⟩
 refine AW.rg rfl fun K hK => ?_
 refine bv rfl (v_loadF ty24 rfl (l_litA rfl (Nat.le_of_ble_eq_true rfl) rfl)) ?_
 obtain ⟨x74, h75, h⟩ := bS h
 refine b_op rfl (o_call rfl rfl rfl rfl (ACallD.pure0 (w_law12_great h75)) ?_)
 refine mv rfl rfl ?_
 by_cases hg79 : x74 = true
 ·have h := ifT hg79 h
  refine b_F rfl rfl rfl rfl rfl hg79 ?_
  refine b_F rfl rfl rfl rfl rfl rfl ?_
  refine b_F rfl rfl rfl rfl rfl rfl ?_
  refine bv rfl (v_pickT rfl rfl rfl) ?_
  refine mv rfl rfl ?_
  refine b_F rfl rfl rfl rfl rfl rfl ?_
  refine b_F rfl rfl rfl rfl rfl rfl ?_
  refine b_F rfl rfl rfl rfl rfl rfl ?_
  refine bv rfl (v_pickT rfl rfl rfl) ?_
  refine b_nil (hK _ ?_)
  clear hK K
  exact to_le (s' := ⟨[(1, HV.int .u8 p1), (2, slE eU8 p2), (3, HV.fptr [HV.int .i64 p0.1, HV.int .i64 p0.2.1, slE eFromLabelTo p0.2.2] 0), (30, HV.bool true)], []⟩) (AS.le_of ⟨rfl, rfl, rfl, rfl, trivial⟩ trivial) ⟨true, (), h, rfl⟩
 have h := ifF hg79 h
 refine b_T rfl rfl rfl rfl (bF hg79) (o_val rfl (v_loadF ty24 rfl (l_litA rfl (Nat.le_of_ble_eq_true rfl) rfl)) ?_)
 obtain ⟨x76, h77, h⟩ := bS h
 refine b_T rfl rfl rfl rfl rfl (o_call rfl rfl rfl rfl (ACallD.pure0 (w_graph_Check h77)) ?_)
 refine b_T rfl rfl rfl rfl rfl (o_val rfl (v_bin rfl rfl b_neq) ?_)
 refine bv rfl (v_pickF rfl rfl rfl) ?_
 refine mv rfl rfl ?_
 by_cases hg78 : x76 ≠ 0
 ·have h := ifT hg78 h
  refine b_F rfl rfl rfl rfl rfl (decide_eq_true hg78) ?_
  refine b_F rfl rfl rfl rfl rfl rfl ?_
  refine b_F rfl rfl rfl rfl rfl rfl ?_
  refine bv rfl (v_pickT rfl rfl rfl) ?_
  refine b_nil (hK _ ?_)
  clear hK K
  exact to_le (s' := ⟨[(1, HV.int .u8 p1), (2, slE eU8 p2), (3, HV.fptr [HV.int .i64 p0.1, HV.int .i64 p0.2.1, slE eFromLabelTo p0.2.2] 0), (30, HV.bool true)], []⟩) (AS.le_of ⟨rfl, rfl, rfl, rfl, trivial⟩ trivial) ⟨true, (), h, rfl⟩
 have h := ifF hg78 h
 refine b_T rfl rfl rfl rfl (decide_eq_false hg78) (o_val rfl (v_fieldAddrF fo24_1 rfl) ?_)
 refine b_T rfl rfl rfl rfl rfl (o_val rfl (v_loadF ty3 rfl (l_lit rfl rfl)) ?_)
 refine b_T rfl rfl rfl rfl rfl (o_val rfl (v_bin rfl rfl b_eql) ?_)
 refine bv rfl (v_pickF rfl rfl rfl) ?_
 refine b_nil (hK _ ?_)
 clear hK K
 exact to_le (s' := ⟨[(1, HV.int .u8 p1), (2, slE eU8 p2), (3, HV.fptr [HV.int .i64 p0.1, HV.int .i64 p0.2.1, slE eFromLabelTo p0.2.2] 0), (30, HV.bool (decide (p0.2.1 = 0)))], []⟩) (AS.le_of ⟨rfl, rfl, rfl, rfl, trivial⟩ trivial) ⟨decide (p0.2.1 = 0), (), h, rfl⟩

end Go.AW



/- SubsetSets. -/
namespace Go.AW
open Go
set_option linter.unusedSimpArgs false
set_option linter.unusedVariables false

def twinB (E : List Ed) (i : Nat) : Bool := decide ((E.getD i (0, 0, 0)).1 = (E.getD (i + 1) (0, 0, 0)).1) && decide ((E.getD i (0, 0, 0)).2.1 = (E.getD (i + 1) (0, 0, 0)).2.1)
def detB (E : List Ed) : Bool := !(List.range (E.length - 1)).any (twinB E)

theorem Det_eq {g : Gr} {e : Int} (he : m_ref09_Check g = some e) (hz : e = 0 ↔ VG g) : m_graph_Deterministic g = some (if e ≠ 0 then (false, 1) else (detB g.2.2, 0)) := by
  unfold m_graph_Deterministic
  rw [Check_ref, he, Option.bind_some]
  by_cases h0 : e = 0
  case neg => rw [if_pos h0, if_pos h0]
  rw [if_neg (show ¬ e ≠ 0 from fun h => h h0), if_neg (show ¬ e ≠ 0 from fun h => h h0)]
  have hel := (hz.1 h0).el
  refine lpL (loop_any (fun i => ((i + 1 : Nat) : Int)) (g.2.2.length - 1) (twinB g.2.2) (Ou.ret (false, 0)) (Ou.go ()) (fun i hi => ?_) (by rw [if_neg (by omega)]) rfl) ?_
  · have hi1 : i + 1 < g.2.2.length := by omega
    have e3 : IntKind.wrap .i64 (((i + 1 : Nat) : Int) - 1) = (i : Int) := by rw [w64 (by omega) (by omega)]; omega
    simp only [jp]
    rw [if_pos (by omega), e3, ix (by omega : i < g.2.2.length), ix hi1, Option.bind_some, Option.bind_some]
    unfold twinB
    rw [getD_lt (show i < g.2.2.length by omega), getD_lt hi1, nx (by omega : g.2.2.length ≤ _) hi1]
    by_cases c1 : (g.2.2[i]'(by omega)).1 = g.2.2[i + 1].1
    · rw [if_pos c1]
      simp [c1]
    · rw [if_neg c1]
      simp [c1]
  · unfold detB
    cases (List.range (g.2.2.length - 1)).any (twinB g.2.2) <;> rfl

theorem Det_ok {g : Gr} (he : m_ref09_Check g = some 0) (hv : VG g) : m_graph_Deterministic g = some (detB g.2.2, 0) := by
  rw [Det_eq he ⟨fun _ => hv, fun _ => rfl⟩, if_neg (by decide)]
theorem no0 : ¬ (0 : Int) ≠ 0 := fun h => h rfl

section
variable {g : Gr} {a : List Int} {E : List Ed} {L : List (List Int)}
theorem Sets.inj (h : Sets g a E L) {i k : Nat} (hi : i < L.length) (hk : k < L.length) (e : L[i] = L[k]) : i = k := by
  have h1 := h.idx_at hi
  have h2 := h.idx_at hk
  rw [getD_lt hi] at h1
  rw [getD_lt hk] at h2
  rw [← h1, ← h2, e]

end
end Go.AW

/- SubsetAgain. -/
namespace Go.AW
open Go
set_option linter.unusedSimpArgs false
set_option linter.unusedVariables false

section
variable {g : Gr}
def partE (g : Gr) (m : Nat) (L : List (List Int)) : List Ed := (List.range m).flatMap fun j => rowE g j (L.getD j []) L g.1.toNat
def oneL (n : Nat) : List (List Int) := (List.range n).map fun (j : Nat) => [(j : Int)]
theorem oneL_len (n : Nat) : (oneL n).length = n := by simp [oneL]
theorem oneL_succ (n : Nat) : oneL (n + 1) = oneL n ++ [[(n : Int)]] := by simp [oneL, List.range_succ]
theorem oneL_mem {n t : Nat} : [(t : Int)] ∈ oneL n ↔ t < n := by
  simp only [oneL, List.mem_map, List.mem_range]
  constructor
  · rintro ⟨j, hj, h⟩
    have : (j : Int) = (t : Int) := by simpa using h
    omega
  · intro h; exact ⟨t, h, rfl⟩
theorem oneL_at {n i : Nat} (h : i < (oneL n).length) : (oneL n)[i] = [(i : Int)] := by simp [oneL]
theorem oneL_idx {n t : Nat} (h : t < n) : (oneL n).idxOf [(t : Int)] = t := by
  refine idxOf_at (by rw [oneL_len]; exact h) (oneL_at _) fun hm => ?_
  obtain ⟨k, hk, he⟩ := List.getElem_of_mem hm
  rw [List.getElem_take, oneL_at] at he
  have : (k : Int) = (t : Int) := by simpa using he
  simp at hk
  omega

variable {a : List Int} {E : List Ed} {L : List (List Int)}
theorem Sets.step (hv : VG g) (h : Sets g a E L) {j lab : Nat} (hj : j < L.length) (hlab : lab < g.1.toNat) :
    stepL (g.1, (L.length : Int), E) [(j : Int)] (lab : Int) = if stepL g (L.getD j []) (lab : Int) = [] then [] else [((L.idxOf (stepL g (L.getD j []) (lab : Int)) : Nat) : Int)] := by
  refine asc_uniq (stepL_ok _ _ _).1 (by split <;> simp) fun t => ?_
  rw [mem_stepL (h.vg hv)]
  constructor
  · rintro ⟨e, he, e1, e2, e3⟩
    obtain ⟨j', lab', hj', hlab', hz, rfl⟩ := h.mem.1 he
    have e3 := List.mem_singleton.1 e3
    dsimp only at e1 e2 e3
    have ej : j' = j := by omega
    have el : lab' = lab := by omega
    subst ej; subst el
    rw [if_neg hz, ← e1]
    simp
  · intro ht
    split at ht
    · cases ht
    · rename_i hz
      exact ⟨((j : Int), (lab : Int), t), h.mem.2 ⟨j, lab, hj, hlab, hz, by rw [List.mem_singleton.1 ht]⟩, rfl, rfl, by simp⟩

theorem Sets.beside_step (hv : VG g) (h : Sets g a E L) {st : BS} {i lab : Nat} (hi : i < st.2.length) (hlab : lab < g.1.toNat) (hp : (bstep g i (L.getD i []) st lab).2 <+: L) (hp0 : st.2 <+: L) :
    bstep (g.1, (L.length : Int), E) i [(i : Int)] (st.1, oneL st.2.length) lab = ((bstep g i (L.getD i []) st lab).1, oneL (bstep g i (L.getD i []) st lab).2.length) := by
  have hle := hp0.length_le
  have hst := h.step hv (j := i) (lab := lab) (by omega) hlab
  unfold bstep at hp ⊢
  rw [hst]
  by_cases hz : stepL g (L.getD i []) (lab : Int) = []
  · rw [if_pos hz, if_pos rfl, if_pos hz]
  · rw [if_neg hz] at hp
    rw [if_neg hz, if_neg hz, if_neg (by simp)]
    dsimp only at hp ⊢
    by_cases hm : stepL g (L.getD i []) (lab : Int) ∈ st.2
    · have hlt := idxOf_lt hm
      rw [if_pos hm, idxOf_pre hp0 hm, if_pos (oneL_mem.2 hlt), oneL_idx hlt]
    · rw [if_neg hm] at hp
      have e : L.idxOf (stepL g (L.getD i []) (lab : Int)) = st.2.length := by
        rw [idxOf_pre hp (by simp), List.idxOf_append, if_neg hm, List.idxOf_cons_self]
        simp
      have hno : [((st.2.length : Nat) : Int)] ∉ oneL st.2.length := fun hx => Nat.lt_irrefl _ (oneL_mem.1 hx)
      rw [if_neg hm, e, if_neg hno, idxOf_no hno, idxOf_no hm, oneL_len, List.length_append, List.length_singleton, oneL_succ]
theorem Sets.beside_row (hv : VG g) (h : Sets g a E L) {st : BS} {i : Nat} (hi : i < st.2.length) : ∀ n, n ≤ g.1.toNat → (browN g i (L.getD i []) n st).2 <+: L → browN (g.1, (L.length : Int), E) i [(i : Int)] n (st.1, oneL st.2.length) = ((browN g i (L.getD i []) n st).1, oneL (browN g i (L.getD i []) n st).2.length)
  | 0, _, _ => rfl
  | n + 1, hn, hp => by
    rw [browN_succ] at hp
    rw [browN_succ, browN_succ]
    have hg1 := (bstep_grow (g := g) i (L.getD i []) (browN g i (L.getD i []) n st) n).2.1
    have hp0 := hg1.trans hp
    have hg2 := (browN_grow (g := g) i (L.getD i []) st n).2.1.length_le
    rw [h.beside_row hv hi n (by omega) hp0]
    exact h.beside_step hv (by omega) (by omega) hp hp0

theorem brun_pre : ∀ f i (st st' : BS), brun g f i st = some st' → st.2 <+: st'.2
  | 0, _, _, _, h => by cases h
  | f + 1, i, st, st', h => by
    unfold brun at h
    by_cases hlt : i < st.2.length
    · rw [if_pos hlt] at h
      by_cases hsm : small (brow g i st)
      · rw [if_pos hsm] at h
        exact (browN_grow (g := g) i (st.2.getD i []) st g.1.toNat).2.1.trans (brun_pre f (i + 1) _ _ h)
      · rw [if_neg hsm] at h; cases h
    · rw [if_neg hlt] at h
      cases h
      exact List.prefix_refl _
theorem Sets.beside (hv : VG g) (h : Sets g a E L) : ∀ f i (st : BS), brun g f i st = some (E, L) → brun (g.1, (L.length : Int), E) f i (st.1, oneL st.2.length) = some (E, oneL L.length)
  | 0, _, _, hr => by cases hr
  | f + 1, i, st, hr => by
    unfold brun at hr ⊢
    dsimp only
    rw [oneL_len]
    by_cases hlt : i < st.2.length
    · rw [if_pos hlt] at hr ⊢
      by_cases hsm : small (brow g i st)
      · rw [if_pos hsm] at hr
        have hp := brun_pre _ _ _ _ hr
        have hp2 := (browN_grow (g := g) i (st.2.getD i []) st g.1.toNat).2.1.trans hp
        have hgd := pre_getD hp2 hlt
        have hrow : brow (g.1, (L.length : Int), E) i (st.1, oneL st.2.length) = ((brow g i st).1, oneL (brow g i st).2.length) := by
          unfold brow at hp ⊢
          dsimp only
          rw [getD_lt (by rw [oneL_len]; exact hlt), oneL_at, ← hgd]
          rw [← hgd] at hp
          exact h.beside_row hv hlt _ (Nat.le_refl _) hp
        have hsm2 : small ((brow g i st).1, oneL (brow g i st).2.length) := ⟨by dsimp only; rw [oneL_len]; exact hsm.1, hsm.2⟩
        rw [hrow, if_pos hsm2]
        exact h.beside hv f (i + 1) _ hr
      · rw [if_neg hsm] at hr; cases hr
    · rw [if_neg hlt] at hr ⊢
      cases hr
      rfl

end
end Go.AW

/- The law of paths. -/
namespace Go.AW
open Go
set_option linter.unusedSimpArgs false
set_option linter.unusedVariables false
section
variable {g : Gr}

end
end Go.AW

/- The letters that can follow, and the least path, in the reference; the law of reading. -/
namespace Go.AW
open Go
set_option linter.unusedSimpArgs false
set_option linter.unusedVariables false

section
variable {g : Gr}
end

end Go.AW

/- Entries of a map that a predicate names are deleted. -/
namespace Go.AW
open Go
end Go.AW

/- Models, printed by lk.py. -/
namespace Go.AW
open Go
set_option linter.unusedVariables false
end Go.AW

/- Lists of words from a state, between states, and the first missing word: the program and the reference agree. -/
namespace Go.AW
open Go
set_option linter.unusedSimpArgs false
set_option linter.unusedVariables false

section
variable {g : Gr}
end

end Go.AW

/- Compaction of lists of texts. -/
namespace Go.AW
open Go
end Go.AW

/- Models, printed by lk.py. -/
namespace Go.AW
open Go
set_option linter.unusedVariables false
end Go.AW

/- The law of parts: words from all states, between all pairs of states. -/
namespace Go.AW
open Go
set_option linter.unusedSimpArgs false
set_option linter.unusedVariables false

section
variable {g : Gr}
end

end Go.AW

/- Models, printed by lk.py. -/
namespace Go.AW
open Go
set_option linter.unusedVariables false
end Go.AW

/- SubsetWords. -/
namespace Go.AW
open Go
set_option linter.unusedSimpArgs false
set_option linter.unusedVariables false

theorem lets_lab : ∀ m, m < 17 → (letters.take m).map lab = (List.range m).map Int.ofNat := by decide +kernel

def Sm (c : List Nat) (f : Nat → Nat) (m : Nat) : Nat := ((List.range m).map fun j => c.getD j 0 * f j).sum
theorem Sm_succ (c : List Nat) (f : Nat → Nat) (m : Nat) : Sm c f (m + 1) = Sm c f m + c.getD m 0 * f m := by simp [Sm, List.range_succ]
theorem getD_set {c : List Nat} {t m v : Nat} (h : t < c.length) : (c.set t v).getD m 0 = if t = m then v else c.getD m 0 := by
  simp only [List.getD, List.getElem?_set]
  by_cases e : t = m
  · rw [if_pos e, if_pos e, if_pos (by omega)]; rfl
  · rw [if_neg e, if_neg e]
theorem Sm_set {c : List Nat} {t : Nat} (d : Nat) (f : Nat → Nat) (h : t < c.length) : ∀ m, Sm (c.set t (c.getD t 0 + d)) f m = Sm c f m + if t < m then d * f t else 0
  | 0 => by simp [Sm]
  | m + 1 => by
    rw [Sm_succ, Sm_succ, Sm_set d f h m, getD_set h]
    by_cases e : t = m
    · subst e
      rw [if_pos rfl, if_neg (by omega), if_pos (by omega), Nat.add_mul]
      omega
    · rw [if_neg e]
      by_cases hlt : t < m
      · rw [if_pos hlt, if_pos (by omega)]; omega
      · rw [if_neg hlt, if_neg (by omega)]; omega
theorem Sm_zero (n : Nat) (f : Nat → Nat) : ∀ m, Sm (List.replicate n 0) f m = 0
  | 0 => by simp [Sm]
  | m + 1 => by
    rw [Sm_succ, Sm_zero n f m]
    have : (List.replicate n 0).getD m 0 = 0 := by
      simp only [List.getD, List.getElem?_replicate]
      split <;> rfl
    rw [this]
    simp
theorem Sm_fold (c : List Nat) (f : Nat → Nat) : ∀ (E : List Ed) (nxt : List Nat), (∀ x ∈ E, x.2.2.toNat < nxt.length) → Sm (E.foldl (addE c) nxt) f nxt.length = Sm nxt f nxt.length + (E.map fun x => c.getD x.1.toNat 0 * f x.2.2.toNat).sum
  | [], nxt, _ => by simp
  | x :: E, nxt, h => by
    have hx := h x (List.mem_cons_self ..)
    have ih := Sm_fold c f E (addE c nxt x) fun y hy => by rw [addE_len]; exact h y (List.mem_cons_of_mem _ hy)
    rw [addE_len] at ih
    rw [List.foldl_cons, ih, List.map_cons, List.sum_cons]
    unfold addE
    rw [Sm_set _ f hx, if_pos hx]
    omega
theorem sum_mul {α : Type} (a : Nat) (h : α → Nat) : ∀ l : List α, (l.map fun x => a * h x).sum = a * (l.map h).sum
  | [] => by simp
  | x :: l => by simp only [List.map_cons, List.sum_cons, sum_mul a h l, Nat.mul_add]
theorem csum_take (c : List Nat) : ∀ m, m ≤ c.length → csum (c.take m) = Sm c (fun _ => 1) m
  | 0, _ => by simp [csum, Sm]
  | m + 1, h => by
    rw [List.take_add_one, List.getElem?_eq_getElem (by omega), Sm_succ, ← csum_take c m (by omega), getD_lt (by omega : m < c.length)]
    simp only [Option.toList_some]
    rw [csum_snoc]
    omega
theorem csum_Sm (c : List Nat) : csum c = Sm c (fun _ => 1) c.length := by
  rw [← csum_take c c.length (Nat.le_refl _), List.take_length]

section
variable {g : Gr} {a : List Int} {E : List Ed} {L : List (List Int)}
theorem sum_rows (g : Gr) (L : List (List Int)) (c : List Nat) (f : Nat → Nat) : ∀ m, ((partE g m L).map fun x => c.getD x.1.toNat 0 * f x.2.2.toNat).sum = Sm c (fun j => ((rowE g j (L.getD j []) L g.1.toNat).map fun x => f x.2.2.toNat).sum) m
  | 0 => by simp [partE, Sm]
  | m + 1 => by
    unfold partE
    rw [List.range_succ, List.flatMap_append, List.map_append, List.sum_append, Sm_succ]
    have ih := sum_rows g L c f m
    unfold partE at ih
    rw [ih]
    simp only [List.flatMap_cons, List.flatMap_nil, List.append_nil]
    congr 1
    rw [← sum_mul]
    congr 1
    refine List.map_congr_left fun x hx => ?_
    rw [rowE_from hx]
    rfl

def lvN (g : Gr) (L : List (List Int)) (a : List Int) (n : Nat) : List Nat := (lvl (stpL g) (lets g) a n).map fun x => L.idxOf x.2
theorem Sets.lvl_in (h : Sets g a E L) (hv : VG g) (h16 : g.1 ≤ 16) : ∀ n, ∀ x ∈ lvl (stpL g) (lets g) a n, x.2 ∈ L
  | 0, x, hx => by
    have h0 := h.hd.subset (List.mem_singleton_self a)
    simp only [lvl] at hx
    rw [if_neg (h.ne a h0)] at hx
    rw [List.mem_singleton.1 hx]
    exact h0
  | n + 1, x, hx => by
    simp only [lvl] at hx
    obtain ⟨y, hy, hxy⟩ := List.mem_flatMap.1 hx
    obtain ⟨c, hc, hcx⟩ := List.mem_filterMap.1 hxy
    have hyL := h.lvl_in hv h16 n y hy
    split at hcx
    · cases hcx
    · rename_i hz
      cases hcx
      obtain ⟨i, hi, hig, hil, hlab⟩ := lab_mem hc
      have hat := h.at_idx hyL
      have := h.clo _ (idxOf_lt hyL) i (by omega)
      rw [hat] at this
      unfold stpL at hz ⊢
      rw [hlab] at hz ⊢
      exact this.resolve_left hz
theorem Sets.row_letters (h : Sets g a E L) (h16 : g.1 ≤ 16) (h1 : 1 ≤ g.1) {x : WS} (hx : x.2 ∈ L) : (ext1 (stpL g) (lets g) x).map (fun y => L.idxOf y.2) = (rowE g (L.idxOf x.2) (L.getD (L.idxOf x.2) []) L g.1.toNat).map fun e => e.2.2.toNat := by
  rw [h.at_idx hx]
  let G : Int → Option Nat := fun l => if stepL g x.2 l = [] then none else some (L.idxOf (stepL g x.2 l))
  have e1 : (ext1 (stpL g) (lets g) x).map (fun y => L.idxOf y.2) = ((lets g).map lab).filterMap G := by
    unfold ext1
    rw [List.map_filterMap, List.filterMap_map]
    congr 1
    funext c
    show Option.map _ (if stpL g x.2 c = [] then none else some (x.1 ++ [c], stpL g x.2 c)) = if stepL g x.2 (lab c) = [] then none else some (L.idxOf (stepL g x.2 (lab c)))
    by_cases hz : stepL g x.2 (lab c) = []
    · have hz2 : stpL g x.2 c = [] := hz
      rw [if_pos hz, if_pos hz2]; rfl
    · have hz2 : ¬ stpL g x.2 c = [] := hz
      rw [if_neg hz, if_neg hz2]; rfl
  have e2 : (rowE g (L.idxOf x.2) x.2 L g.1.toNat).map (fun e => e.2.2.toNat) = ((List.range g.1.toNat).map Int.ofNat).filterMap G := by
    unfold rowE
    rw [List.map_filterMap, List.filterMap_map]
    congr 1
    funext c
    simp only [Function.comp, G, Int.ofNat_eq_natCast]
    by_cases hz : stepL g x.2 (c : Int) = []
    · rw [if_pos hz, if_pos hz]; rfl
    · rw [if_neg hz, if_neg hz]; rfl
  rw [e1, e2]
  unfold lets
  rw [lets_lab _ (by omega)]

theorem Sets.sum_lvl (h : Sets g a E L) (hv : VG g) (h16 : g.1 ≤ 16) : ∀ n (f : Nat → Nat), Sm (crun E L.length n) f L.length = ((lvN g L a n).map f).sum
  | 0, f => by
    have h0 := h.hd.subset (List.mem_singleton_self a)
    have hz := h.idx_at h.len_pos
    rw [h.zero] at hz
    unfold lvN crun cinit
    simp only [lvl]
    rw [if_neg (h.ne a h0)]
    have hlp := h.len_pos
    have hs := Sm_set (c := List.replicate L.length 0) (t := 0) 1 f (by simpa using hlp) L.length
    have hg0 : (List.replicate L.length 0).getD 0 0 = 0 := by
      simp only [List.getD, List.getElem?_replicate]
      split <;> rfl
    rw [hg0, Sm_zero, if_pos hlp] at hs
    rw [hs]
    simp [hz]
  | n + 1, f => by
    have hto : ∀ x ∈ E, x.2.2.toNat < (List.replicate L.length 0).length := fun x hx => by
      obtain ⟨j, lab, hj, hlab, hnz, rfl⟩ := h.mem.1 hx
      have := h.to_lt hj hlab hnz
      simp only [List.length_replicate, Int.toNat_natCast]
      exact this
    unfold crun cstep
    have hf := Sm_fold (crun E L.length n) f E (List.replicate L.length 0) hto
    rw [List.length_replicate, Sm_zero, Nat.zero_add] at hf
    rw [hf]
    have hp : E = partE g L.length L := h.ed
    conv => lhs; rw [hp]
    rw [sum_rows, ← hp, h.sum_lvl hv h16 n]
    unfold lvN
    simp only [lvl]
    rw [List.map_map, List.map_map, List.map_flatMap]
    have hin := h.lvl_in hv h16 n
    generalize lvl (stpL g) (lets g) a n = l at hin
    induction l with
    | nil => rfl
    | cons x l ih =>
      rw [List.map_cons, List.sum_cons, List.flatMap_cons, List.sum_append, ih fun y hy => hin y (List.mem_cons_of_mem _ hy)]
      congr 1
      have hr := h.row_letters h16 hv.l1 (hin x (List.mem_cons_self ..))
      simp only [Function.comp]
      rw [show (ext1 (stpL g) (lets g) x).map (f ∘ fun y => L.idxOf y.2) = ((ext1 (stpL g) (lets g) x).map fun y => L.idxOf y.2).map f by rw [List.map_map], hr, List.map_map]
      rfl
theorem Sets.count (h : Sets g a E L) (hv : VG g) (h16 : g.1 ≤ 16) (n : Nat) : csum (crun E L.length n) = (lvl (stpL g) (lets g) a n).length := by
  rw [csum_Sm, crun_len, h.sum_lvl hv h16]
  unfold lvN
  rw [List.map_map]
  induction lvl (stpL g) (lets g) a n with
  | nil => rfl
  | cons x l ih => rw [List.map_cons, List.sum_cons, ih, List.length_cons]; simp only [Function.comp]; omega

end
end Go.AW
