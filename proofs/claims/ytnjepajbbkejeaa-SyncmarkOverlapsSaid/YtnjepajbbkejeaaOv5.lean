/- SyncmarkOverlaps: for every input the law's function returns true, and the input reads as it did. -/
import Derived.Test.YtnjepajbbkejeaaOv4
import Derived.ChangeMaps5
import Derived.HandedShaped
import Derived.OpenShut
import Derived.ProofKit
import Derived.SliceStrings
import Derived.Test.YtnjepajbbkejeaaRows
import Derived.WalkKit
import Derived.WideKeyArgs
namespace Go.AW
open Go Go.Proofs
set_option linter.unusedVariables false
set_option maxHeartbeats 1600000 in
set_option maxRecDepth 100000 in
theorem w_language_check {p0 : TLabelsStatesEdges} {r : Int} (h : m_language_check p0 = some r) : Pure Try.prog 67 [HV.agg [HV.int .i64 p0.1, HV.int .i64 p0.2.1, slE eFromLabelTo p0.2.2]] (· = HV.int .i64 r) := by
 unfold m_language_check at h
 refine Pure.of_body Try.func67 rfl rfl (Nat.le_of_ble_eq_true rfl) fun hf => ?_
 unfold Try.f67
 dsimp only [enumS, Nat.reduceAdd]
 refine AW.rgs rfl fun K hK => ?_
 refine b_op rfl (o_box rfl rfl rfl ?_)
 refine mv rfl rfl ?_
 refine b_fin hK (s' := ⟨[(1, HV.fptr [HV.int .i64 p0.1, HV.int .i64 p0.2.1, slE eFromLabelTo p0.2.2] 0)], []⟩) (le_q rfl rfl) ?_
 clear hK K
 refine AW.seq (AW.block ?_)
 refine AW.rgs rfl fun K hK => ?_
 refine bv rfl (v_loadF ty24 rfl (l_litA rfl (Nat.le_of_ble_eq_true rfl) rfl)) ?_
 obtain ⟨x1, h2, h⟩ := bS h
 refine b_op rfl (o_call rfl rfl rfl rfl (ACallD.pure0 (w_graph_Check h2)) ?_)
 refine bv rfl (v_bin rfl rfl b_neq) ?_
 refine mv rfl rfl ?_
 refine b_fin hK (s' := ⟨[(1, HV.fptr [HV.int .i64 p0.1, HV.int .i64 p0.2.1, slE eFromLabelTo p0.2.2] 0), (3, HV.bool (decide (x1 ≠ 0)))], []⟩) (le_q rfl rfl) ?_
 clear hK K
 refine AW.cond rfl (fun hc => ?_) (fun hc => ?_)
 ·have hc := of_decide_eq_true hc
  have h := ifT hc h
  refine AW.rgs rfl fun K hK => ?_
  refine mv rfl rfl ?_
  refine b_fin hK (s' := ⟨[(2, HV.int .i64 1)], []⟩) (le_q rfl rfl) ?_
  clear hK K
  refine AW.ret ?_
  have h := Option.some.inj h
  subst h
  exact ret_pure (hs := [HV.int .i64 1]) (q := HV.int .i64 1) (.inr rfl) (resT rfl rfl) rfl trivial
 have hc := of_decide_eq_false hc
 have h := ifF hc h
 refine AW.rgs rfl fun K hK => ?_
 refine bv rfl (v_fieldAddrF fo24_0 rfl) ?_
 refine bv rfl (v_loadF ty3 rfl (l_lit rfl rfl)) ?_
 refine bv rfl (v_bin rfl rfl b_gtr) ?_
 refine mv rfl rfl ?_
 refine b_fin hK (s' := ⟨[(7, HV.bool (decide (16 < p0.1)))], []⟩) (le_q rfl rfl) ?_
 clear hK K
 refine AW.cond rfl (fun hc => ?_) (fun hc => ?_)
 ·have hc := of_decide_eq_true hc
  have h := ifT hc h
  refine AW.rgs rfl fun K hK => ?_
  refine mv rfl rfl ?_
  refine b_fin hK (s' := ⟨[(2, HV.int .i64 12)], []⟩) (le_q rfl rfl) ?_
  clear hK K
  refine AW.ret ?_
  have h := Option.some.inj h
  subst h
  exact ret_pure (hs := [HV.int .i64 12]) (q := HV.int .i64 12) (.inr rfl) (resT rfl rfl) rfl trivial
 have hc := of_decide_eq_false hc
 have h := ifF hc h
 refine AW.skip ?_
 refine AW.rgs rfl fun K hK => ?_
 refine mv rfl rfl ?_
 refine b_fin hK (s' := ⟨[(2, HV.int .i64 0)], []⟩) (le_q rfl rfl) ?_
 clear hK K
 refine AW.ret ?_
 have h := Option.some.inj h
 subst h
 exact ret_pure (hs := [HV.int .i64 0]) (q := HV.int .i64 0) (.inr rfl) (resT rfl rfl) rfl trivial

set_option maxHeartbeats 1600000 in
set_option maxRecDepth 100000 in
theorem w_language_spells {p0 : TLabelsStatesEdges} {p1 : List UInt8} {r : Int} (h : m_language_spells p0 p1 = some r) : Pure Try.prog 43 [HV.agg [HV.int .i64 p0.1, HV.int .i64 p0.2.1, slE eFromLabelTo p0.2.2], HV.str p1] (· = HV.int .i64 r) := by
 unfold m_language_spells at h
 refine Pure.of_body Try.func43 rfl rfl (Nat.le_of_ble_eq_true rfl) fun hf => ?_
 unfold Try.f43
 dsimp only [enumS, Nat.reduceAdd]
 refine AW.rgs rfl fun K hK => ?_
 refine b_op rfl (o_box rfl rfl rfl ?_)
 refine mv rfl rfl ?_
 refine b_fin hK (s' := ⟨[(1, HV.str p1), (2, HV.fptr [HV.int .i64 p0.1, HV.int .i64 p0.2.1, slE eFromLabelTo p0.2.2] 0)], []⟩) (le_q rfl rfl) ?_
 clear hK K
 refine AW.seq ?_
 refine AW.rgs rfl fun K hK => ?_
 refine bv rfl (v_loadF ty24 rfl (l_litA rfl (Nat.le_of_ble_eq_true rfl) rfl)) ?_
 obtain ⟨x1, h2, h⟩ := bS h
 refine b_op rfl (o_call rfl rfl rfl rfl (ACallD.pure0 (w_language_check h2)) ?_)
 refine mv rfl rfl ?_
 refine b_fin hK (s' := ⟨[(1, HV.str p1), (2, HV.fptr [HV.int .i64 p0.1, HV.int .i64 p0.2.1, slE eFromLabelTo p0.2.2] 0), (5, HV.int .i64 x1)], []⟩) (le_q rfl rfl) ?_
 clear hK K
 refine AW.rgs rfl fun K hK => ?_
 refine mv rfl rfl ?_
 refine bv rfl (v_bin rfl rfl b_neq) ?_
 refine b_fin hK (s' := ⟨[(1, HV.str p1), (2, HV.fptr [HV.int .i64 p0.1, HV.int .i64 p0.2.1, slE eFromLabelTo p0.2.2] 0), (5, HV.int .i64 x1), (9, HV.bool (decide (x1 ≠ 0)))], []⟩) (le_q rfl rfl) ?_
 clear hK K
 refine AW.cond rfl (fun hc => ?_) (fun hc => ?_)
 ·have hc := of_decide_eq_true hc
  have h := ifT hc h
  refine AW.rgs rfl fun K hK => ?_
  refine mv rfl rfl ?_
  refine mv rfl rfl ?_
  refine b_fin hK (s' := ⟨[(4, HV.int .i64 x1)], []⟩) (le_q rfl rfl) ?_
  clear hK K
  refine AW.ret ?_
  have h := Option.some.inj h
  subst h
  exact ret_pure (hs := [HV.int .i64 x1]) (q := HV.int .i64 x1) (.inr rfl) (resT rfl rfl) rfl trivial
 have hc := of_decide_eq_false hc
 have h := ifF hc h
 refine AW.skip ?_
 refine AW.rgs rfl fun K hK => ?_
 refine bv rfl (v_fieldAddrF fo24_0 rfl) ?_
 refine bv rfl (v_loadF ty3 rfl (l_lit rfl rfl)) ?_
 refine mv rfl rfl ?_
 obtain ⟨x3, h4, h⟩ := bS h
 refine b_op rfl (o_call rfl rfl rfl rfl (ACallD.pure0 (w_word_Check h4)) ?_)
 refine mv rfl rfl ?_
 refine b_fin hK (s' := ⟨[(4, HV.int .i64 x3)], []⟩) (le_q rfl rfl) ?_
 clear hK K
 refine AW.ret ?_
 have h := Option.some.inj h
 subst h
 exact ret_pure (hs := [HV.int .i64 x3]) (q := HV.int .i64 x3) (.inr rfl) (resT rfl rfl) rfl trivial

set_option maxHeartbeats 1600000 in
set_option maxRecDepth 100000 in
theorem w_graph_checkSet {p0 : TLabelsStatesEdges} {p1 : List (Int)} {r : Int} (h : m_graph_checkSet p0 p1 = some r) : Pure Try.prog 100 [HV.agg [HV.int .i64 p0.1, HV.int .i64 p0.2.1, slE eFromLabelTo p0.2.2], slE eInt p1] (· = HV.int .i64 r) := by
 unfold m_graph_checkSet at h
 refine Pure.of_body Try.func100 rfl rfl (Nat.le_of_ble_eq_true rfl) fun hf => ?_
 unfold Try.f100
 dsimp only [enumS, Nat.reduceAdd]
 refine AW.rgs rfl fun K hK => ?_
 refine b_op rfl (o_box rfl rfl rfl ?_)
 refine mv rfl rfl ?_
 refine b_fin hK (s' := ⟨[(1, slE eInt p1), (2, HV.fptr [HV.int .i64 p0.1, HV.int .i64 p0.2.1, slE eFromLabelTo p0.2.2] 0)], []⟩) (le_q rfl rfl) ?_
 clear hK K
 refine AW.seq ?_
 refine AW.rgs rfl fun K hK => ?_
 refine mv rfl rfl ?_
 refine bv rfl (v_lenF rfl rfl ty35 rfl) ?_
 refine mv rfl rfl ?_
 refine b_fin hK (s' := ⟨[(1, slE eInt p1), (2, HV.fptr [HV.int .i64 p0.1, HV.int .i64 p0.2.1, slE eFromLabelTo p0.2.2] 0), (7, slE eInt p1), (8, HV.int .i64 ((p1).length : Int)), (9, HV.int .i64 0)], []⟩) (le_q rfl rfl) ?_
 clear hK K
 refine AW.lpR h (by first | exact up_then | exact up_to) (S := Int) (V := Unit) (fun a v => ⟨[(1, slE eInt p1), (2, HV.fptr [HV.int .i64 p0.1, HV.int .i64 p0.2.1, slE eFromLabelTo p0.2.2] 0), (7, slE eInt p1), (8, HV.int .i64 ((p1).length : Int)), (9, HV.int .i64 a)], []⟩) ?_ (X := Unit) (W := Unit) (fun a v => ⟨[], []⟩) (fun a17 w18 h => ?_) (fun a1 w2 st3 h hr4=> ?_)
 ·exact to_le (s' := ⟨[(1, slE eInt p1), (2, HV.fptr [HV.int .i64 p0.1, HV.int .i64 p0.2.1, slE eFromLabelTo p0.2.2] 0), (7, slE eInt p1), (8, HV.int .i64 ((p1).length : Int)), (9, HV.int .i64 0)], []⟩) (AS.le_of ⟨rfl, rfl, rfl, rfl, rfl, trivial⟩ trivial) ⟨(), rfl⟩
 ·refine AW.rgs rfl fun K hK => ?_
  refine mv rfl rfl ?_
  refine b_fin hK (s' := ⟨[(4, HV.int .i64 0)], []⟩) (le_q rfl rfl) ?_
  clear hK K
  refine AW.ret ?_
  have h := Option.some.inj h
  subst h
  exact ret_pure (hs := [HV.int .i64 0]) (q := HV.int .i64 0) (.inr rfl) (resT rfl rfl) rfl trivial
 refine AW.rgs rfl fun K hK => ?_
 refine bv rfl (v_bin rfl rfl b_lss) ?_
 refine b_fin hK (s' := ⟨[(1, slE eInt p1), (2, HV.fptr [HV.int .i64 p0.1, HV.int .i64 p0.2.1, slE eFromLabelTo p0.2.2] 0), (7, slE eInt p1), (8, HV.int .i64 ((p1).length : Int)), (9, HV.int .i64 a1), (10, HV.bool (decide (a1 < ((p1).length : Int))))], []⟩) (le_q rfl rfl) ?_
 clear hK K
 refine AW.cseq rfl (fun hc => ?_) (fun hc => ?_)
 ·have hc := of_decide_eq_true hc
  have h := ifT hc h
  refine AW.skip ?_
  refine AW.seq (AW.block ?_)
  refine AW.rgs rfl fun K hK => ?_
  refine mv rfl rfl ?_
  obtain ⟨x5, h6, h⟩ := bS h
  refine bv rfl (v_idxF ty35 es35 rfl rfl (idx_lt h6)) ?_
  refine bv rfl (v_loadF ty3 rfl (l_cell eInt h6 (o := 0) rfl rfl)) ?_
  refine mv rfl rfl ?_
  refine mv rfl rfl ?_
  refine b_fin hK (s' := ⟨[(1, slE eInt p1), (2, HV.fptr [HV.int .i64 p0.1, HV.int .i64 p0.2.1, slE eFromLabelTo p0.2.2] 0), (5, HV.int .i64 a1), (6, HV.int .i64 x5), (7, slE eInt p1), (8, HV.int .i64 ((p1).length : Int)), (9, HV.int .i64 a1)], []⟩) (le_q rfl rfl) ?_
  clear hK K
  refine AW.seq ?_
  refine AW.seqJ h (S := Bool) (V := Unit) (fun a v => ⟨[(1, slE eInt p1), (2, HV.fptr [HV.int .i64 p0.1, HV.int .i64 p0.2.1, slE eFromLabelTo p0.2.2] 0), (5, HV.int .i64 a1), (6, HV.int .i64 x5), (7, slE eInt p1), (8, HV.int .i64 ((p1).length : Int)), (9, HV.int .i64 a1), (21, HV.bool a)], []⟩) (fun a7 w8 h => ?_) (fun k9 h => ?_)
  ·refine AW.cond rfl (fun hc => ?_) (fun hc => ?_)
   ·have h := ifT hc h
    refine AW.rgs rfl fun K hK => ?_
    refine mv rfl rfl ?_
    refine b_fin hK (s' := ⟨[(4, HV.int .i64 25)], []⟩) (le_q rfl rfl) ?_
    clear hK K
    have h := hr4 _ h
    refine AW.ret ?_
    have h := Option.some.inj h
    subst h
    exact ret_pure (hs := [HV.int .i64 25]) (q := HV.int .i64 25) (.inr rfl) (resT rfl rfl) rfl trivial
   have h := ifF (bF' hc) h
   refine AW.skip ?_
   refine AW.seqJ h (S := Bool) (V := Unit) (fun a v => ⟨[(1, slE eInt p1), (2, HV.fptr [HV.int .i64 p0.1, HV.int .i64 p0.2.1, slE eFromLabelTo p0.2.2] 0), (7, slE eInt p1), (8, HV.int .i64 ((p1).length : Int)), (9, HV.int .i64 a1), (32, HV.bool a)], []⟩) (fun a10 w11 h => ?_) (fun k12 h => ?_)
   ·refine AW.cond rfl (fun hc => ?_) (fun hc => ?_)
    ·have h := ifT hc h
     refine AW.rgs rfl fun K hK => ?_
     refine mv rfl rfl ?_
     refine b_fin hK (s' := ⟨[(4, HV.int .i64 10)], []⟩) (le_q rfl rfl) ?_
     clear hK K
     have h := hr4 _ h
     refine AW.ret ?_
     have h := Option.some.inj h
     subst h
     exact ret_pure (hs := [HV.int .i64 10]) (q := HV.int .i64 10) (.inr rfl) (resT rfl rfl) rfl trivial
    have h := ifF (bF' hc) h
    refine AW.skip ?_
    refine AW.rg rfl fun K hK => ?_
    refine bv rfl (v_bin rfl rfl b_add) ?_
    refine mv rfl rfl ?_
    refine b_nil (hK _ ?_)
    clear hK K
    exact to_le (s' := ⟨[(1, slE eInt p1), (2, HV.fptr [HV.int .i64 p0.1, HV.int .i64 p0.2.1, slE eFromLabelTo p0.2.2] 0), (7, slE eInt p1), (8, HV.int .i64 ((p1).length : Int)), (9, HV.int .i64 (IntKind.wrap .i64 (a1 + 1)))], []⟩) (AS.le_of ⟨rfl, rfl, rfl, rfl, rfl, trivial⟩ trivial) ⟨IntKind.wrap .i64 (a1 + 1), (), h, rfl⟩
   refine AW.rg rfl fun K hK => ?_
   refine mv rfl rfl ?_
   refine bv rfl (v_bin rfl rfl b_gtr) ?_
   refine mv rfl rfl ?_
   by_cases hg15 : 0 < a1
   ·have h := ifT hg15 h
    refine b_T rfl rfl rfl rfl (decide_eq_true hg15) (o_val rfl (mv_val rfl rfl).2 ?_)
    refine b_T rfl rfl rfl rfl rfl (o_val rfl (mv_val rfl rfl).2 ?_)
    refine b_T rfl rfl rfl rfl rfl (o_val rfl (mv_val rfl rfl).2 ?_)
    refine b_T rfl rfl rfl rfl rfl (o_val rfl (v_bin rfl rfl b_sub) ?_)
    obtain ⟨x13, h14, h⟩ := bS h
    refine b_T rfl rfl rfl rfl rfl (o_val rfl (v_idxF ty35 es35 rfl rfl (idx_lt h14)) ?_)
    refine b_T rfl rfl rfl rfl rfl (o_val rfl (v_loadF ty3 rfl (l_cell eInt h14 (o := 0) rfl rfl)) ?_)
    refine b_T rfl rfl rfl rfl rfl (o_val rfl (v_bin rfl rfl b_leq) ?_)
    refine bv rfl (v_pickT rfl rfl rfl) ?_
    refine b_nil (hK _ ?_)
    clear hK K
    exact to_le (s' := ⟨[(1, slE eInt p1), (2, HV.fptr [HV.int .i64 p0.1, HV.int .i64 p0.2.1, slE eFromLabelTo p0.2.2] 0), (7, slE eInt p1), (8, HV.int .i64 ((p1).length : Int)), (9, HV.int .i64 a1), (32, HV.bool (decide (x5 ≤ x13)))], []⟩) (AS.le_of ⟨rfl, rfl, rfl, rfl, rfl, rfl, trivial⟩ trivial) ⟨decide (x5 ≤ x13), (), h, rfl⟩
   have h := ifF hg15 h
   refine b_F rfl rfl rfl rfl rfl (decide_eq_false hg15) ?_
   refine b_F rfl rfl rfl rfl rfl rfl ?_
   refine b_F rfl rfl rfl rfl rfl rfl ?_
   refine b_F rfl rfl rfl rfl rfl rfl ?_
   refine b_F rfl rfl rfl rfl rfl rfl ?_
   refine b_F rfl rfl rfl rfl rfl rfl ?_
   refine b_F rfl rfl rfl rfl rfl rfl ?_
   refine bv rfl (v_pickF rfl rfl rfl) ?_
   refine b_nil (hK _ ?_)
   clear hK K
   exact to_le (s' := ⟨[(1, slE eInt p1), (2, HV.fptr [HV.int .i64 p0.1, HV.int .i64 p0.2.1, slE eFromLabelTo p0.2.2] 0), (7, slE eInt p1), (8, HV.int .i64 ((p1).length : Int)), (9, HV.int .i64 a1), (32, HV.bool false)], []⟩) (AS.le_of ⟨rfl, rfl, rfl, rfl, rfl, rfl, trivial⟩ trivial) ⟨false, (), h, rfl⟩
  refine AW.rg rfl fun K hK => ?_
  refine mv rfl rfl ?_
  refine bv rfl (v_bin rfl rfl b_lss) ?_
  refine mv rfl rfl ?_
  by_cases hg16 : x5 < 0
  ·have h := ifT hg16 h
   refine b_F rfl rfl rfl rfl rfl (decide_eq_true hg16) ?_
   refine b_F rfl rfl rfl rfl rfl rfl ?_
   refine b_F rfl rfl rfl rfl rfl rfl ?_
   refine b_F rfl rfl rfl rfl rfl rfl ?_
   refine bv rfl (v_pickT rfl rfl rfl) ?_
   refine b_nil (hK _ ?_)
   clear hK K
   exact to_le (s' := ⟨[(1, slE eInt p1), (2, HV.fptr [HV.int .i64 p0.1, HV.int .i64 p0.2.1, slE eFromLabelTo p0.2.2] 0), (5, HV.int .i64 a1), (6, HV.int .i64 x5), (7, slE eInt p1), (8, HV.int .i64 ((p1).length : Int)), (9, HV.int .i64 a1), (21, HV.bool true)], []⟩) (AS.le_of ⟨rfl, rfl, rfl, rfl, rfl, rfl, rfl, rfl, trivial⟩ trivial) ⟨true, (), h, rfl⟩
  have h := ifF hg16 h
  refine b_T rfl rfl rfl rfl (decide_eq_false hg16) (o_val rfl (mv_val rfl rfl).2 ?_)
  refine b_T rfl rfl rfl rfl rfl (o_val rfl (v_fieldAddrF fo24_1 rfl) ?_)
  refine b_T rfl rfl rfl rfl rfl (o_val rfl (v_loadF ty3 rfl (l_lit rfl rfl)) ?_)
  refine b_T rfl rfl rfl rfl rfl (o_val rfl (v_bin rfl rfl b_geq) ?_)
  refine bv rfl (v_pickF rfl rfl rfl) ?_
  refine b_nil (hK _ ?_)
  clear hK K
  exact to_le (s' := ⟨[(1, slE eInt p1), (2, HV.fptr [HV.int .i64 p0.1, HV.int .i64 p0.2.1, slE eFromLabelTo p0.2.2] 0), (5, HV.int .i64 a1), (6, HV.int .i64 x5), (7, slE eInt p1), (8, HV.int .i64 ((p1).length : Int)), (9, HV.int .i64 a1), (21, HV.bool (decide (p0.2.1 ≤ x5)))], []⟩) (AS.le_of ⟨rfl, rfl, rfl, rfl, rfl, rfl, rfl, rfl, trivial⟩ trivial) ⟨decide (p0.2.1 ≤ x5), (), h, rfl⟩
 have hc := of_decide_eq_false hc
 have h := ifF hc h
 refine AW.exit ?_
 exact to_le (s' := ⟨[], []⟩) (AS.le_of trivial trivial) ⟨(), (), h, rfl⟩

set_option maxHeartbeats 1600000 in
set_option maxRecDepth 100000 in
theorem w_graph_leaving (p0 : TLabelsStatesEdges) (p1 : Int) : Pure Try.prog 101 [HV.agg [HV.int .i64 p0.1, HV.int .i64 p0.2.1, slE eFromLabelTo p0.2.2], HV.int .i64 p1] (· = HV.fn (.func 107) [] [HV.fptr [HV.int .i64 p0.1, HV.int .i64 p0.2.1, slE eFromLabelTo p0.2.2] 0, HV.fptr [HV.int .i64 p1] 0]) := by
 refine Pure.of_body Try.func101 rfl rfl (Nat.le_of_ble_eq_true rfl) fun hf => ?_
 unfold Try.f101
 dsimp only [enumS, Nat.reduceAdd]
 refine AW.rgs rfl fun K hK => ?_
 refine b_op rfl (o_box rfl rfl rfl ?_)
 refine b_op rfl (o_box rfl rfl rfl ?_)
 refine mv rfl rfl ?_
 refine b_fin hK (s' := ⟨[(2, HV.fptr [HV.int .i64 p0.1, HV.int .i64 p0.2.1, slE eFromLabelTo p0.2.2] 0), (3, HV.fptr [HV.int .i64 p1] 0)], []⟩) (le_q rfl rfl) ?_
 clear hK K
 refine AW.rgs rfl fun K hK => ?_
 refine bv rfl (v_func rfl rfl) ?_
 refine mv rfl rfl ?_
 refine b_fin hK (s' := ⟨[(4, HV.fn (.func 107) [] [HV.fptr [HV.int .i64 p0.1, HV.int .i64 p0.2.1, slE eFromLabelTo p0.2.2] 0, HV.fptr [HV.int .i64 p1] 0])], []⟩) (le_q rfl rfl) ?_
 clear hK K
 refine AW.ret ?_
 exact ret_pure (hs := [HV.fn (.func 107) [] [HV.fptr [HV.int .i64 p0.1, HV.int .i64 p0.2.1, slE eFromLabelTo p0.2.2] 0, HV.fptr [HV.int .i64 p1] 0]]) (q := HV.fn (.func 107) [] [HV.fptr [HV.int .i64 p0.1, HV.int .i64 p0.2.1, slE eFromLabelTo p0.2.2] 0, HV.fptr [HV.int .i64 p1] 0]) (.inr rfl) (resT rfl rfl) rfl ⟨trivial, ⟨⟨trivial, trivial, (clean_slE fun _ _ => ⟨trivial, trivial, trivial, trivial⟩), trivial⟩, ⟨trivial, trivial⟩, trivial⟩⟩

set_option maxHeartbeats 1600000 in
set_option maxRecDepth 100000 in
theorem w_graph_Step {p0 : TLabelsStatesEdges} {p1 : List (Int)} {p2 : Int} {r : (List (Int)) × Int} (h : m_graph_Step p0 p1 p2 = some r) : Pure Try.prog 88 [HV.agg [HV.int .i64 p0.1, HV.int .i64 p0.2.1, slE eFromLabelTo p0.2.2], slE eInt p1, HV.int .i64 p2] (· = HV.tup [slE eInt r.1, HV.int .i64 r.2]) := by
 unfold m_graph_Step at h
 refine Pure.of_body Try.func88 rfl rfl (Nat.le_of_ble_eq_true rfl) fun hf => ?_
 unfold Try.f88
 dsimp only [enumS, Nat.reduceAdd]
 refine AW.rgs rfl fun K hK => ?_
 refine b_op rfl (o_box rfl rfl rfl ?_)
 refine b_op rfl (o_box rfl rfl rfl ?_)
 refine mv rfl rfl ?_
 refine mv rfl rfl ?_
 refine b_fin hK (s' := ⟨[(1, slE eInt p1), (3, HV.fptr [HV.int .i64 p0.1, HV.int .i64 p0.2.1, slE eFromLabelTo p0.2.2] 0), (5, HV.fptr [HV.int .i64 p2] 0)], []⟩) (le_q rfl rfl) ?_
 clear hK K
 refine AW.seq ?_
 refine AW.rgs rfl fun K hK => ?_
 refine bv rfl (v_loadF ty24 rfl (l_litA rfl (Nat.le_of_ble_eq_true rfl) rfl)) ?_
 obtain ⟨x1, h2, h⟩ := bS h
 refine b_op rfl (o_call rfl rfl rfl rfl (ACallD.pure0 (w_graph_Check h2)) ?_)
 refine bv rfl (v_bin rfl rfl b_neq) ?_
 refine b_fin hK (s' := ⟨[(1, slE eInt p1), (3, HV.fptr [HV.int .i64 p0.1, HV.int .i64 p0.2.1, slE eFromLabelTo p0.2.2] 0), (5, HV.fptr [HV.int .i64 p2] 0), (16, HV.bool (decide (x1 ≠ 0)))], []⟩) (le_q rfl rfl) ?_
 clear hK K
 refine AW.cond rfl (fun hc => ?_) (fun hc => ?_)
 ·have hc := of_decide_eq_true hc
  have h := ifT hc h
  refine AW.rgs rfl fun K hK => ?_
  refine mv rfl rfl ?_
  refine mv rfl rfl ?_
  refine b_fin hK (s' := ⟨[(6, HV.v (.slice none 0 0)), (7, HV.int .i64 1)], []⟩) (le_q rfl rfl) ?_
  clear hK K
  refine AW.to (to_weak ⟨[(6, slE eInt ([] : List Int)), (7, HV.int .i64 1)], []⟩ ⟨⟨_, rfl, .nil _⟩, ⟨_, rfl, .refl _⟩, trivial⟩ trivial ?_)
  refine AW.ret ?_
  have h := Option.some.inj h
  subst h
  exact ret_pure (hs := [slE eInt ([] : List Int), HV.int .i64 1]) (q := HV.tup [slE eInt ([] : List Int), HV.int .i64 1]) (.inr rfl) (resT rfl (resT rfl rfl)) rfl ⟨(clean_slE fun _ _ => ⟨trivial, trivial⟩), trivial, trivial⟩
 have hc := of_decide_eq_false hc
 have h := ifF hc h
 refine AW.skip ?_
 refine AW.seq ?_
 refine AW.rgs rfl fun K hK => ?_
 refine bv rfl (v_loadF ty24 rfl (l_litA rfl (Nat.le_of_ble_eq_true rfl) rfl)) ?_
 refine mv rfl rfl ?_
 obtain ⟨x3, h4, h⟩ := bS h
 refine b_op rfl (o_call rfl rfl rfl rfl (ACallD.pure0 (w_graph_checkSet h4)) ?_)
 refine mv rfl rfl ?_
 refine b_fin hK (s' := ⟨[(1, slE eInt p1), (3, HV.fptr [HV.int .i64 p0.1, HV.int .i64 p0.2.1, slE eFromLabelTo p0.2.2] 0), (5, HV.fptr [HV.int .i64 p2] 0), (8, HV.int .i64 x3)], []⟩) (le_q rfl rfl) ?_
 clear hK K
 refine AW.rgs rfl fun K hK => ?_
 refine mv rfl rfl ?_
 refine bv rfl (v_bin rfl rfl b_neq) ?_
 refine b_fin hK (s' := ⟨[(1, slE eInt p1), (3, HV.fptr [HV.int .i64 p0.1, HV.int .i64 p0.2.1, slE eFromLabelTo p0.2.2] 0), (5, HV.fptr [HV.int .i64 p2] 0), (8, HV.int .i64 x3), (21, HV.bool (decide (x3 ≠ 0)))], []⟩) (le_q rfl rfl) ?_
 clear hK K
 refine AW.cond rfl (fun hc => ?_) (fun hc => ?_)
 ·have hc := of_decide_eq_true hc
  have h := ifT hc h
  refine AW.rgs rfl fun K hK => ?_
  refine mv rfl rfl ?_
  refine mv rfl rfl ?_
  refine mv rfl rfl ?_
  refine b_fin hK (s' := ⟨[(6, HV.v (.slice none 0 0)), (7, HV.int .i64 x3)], []⟩) (le_q rfl rfl) ?_
  clear hK K
  refine AW.to (to_weak ⟨[(6, slE eInt ([] : List Int)), (7, HV.int .i64 x3)], []⟩ ⟨⟨_, rfl, .nil _⟩, ⟨_, rfl, .refl _⟩, trivial⟩ trivial ?_)
  refine AW.ret ?_
  have h := Option.some.inj h
  subst h
  exact ret_pure (hs := [slE eInt ([] : List Int), HV.int .i64 x3]) (q := HV.tup [slE eInt ([] : List Int), HV.int .i64 x3]) (.inr rfl) (resT rfl (resT rfl rfl)) rfl ⟨(clean_slE fun _ _ => ⟨trivial, trivial⟩), trivial, trivial⟩
 have hc := of_decide_eq_false hc
 have h := ifF hc h
 refine AW.skip ?_
 refine AW.seq ?_
 refine AW.seqJ h (S := Bool) (V := Unit) (fun a v => ⟨[(1, slE eInt p1), (3, HV.fptr [HV.int .i64 p0.1, HV.int .i64 p0.2.1, slE eFromLabelTo p0.2.2] 0), (5, HV.fptr [HV.int .i64 p2] 0), (30, HV.bool a)], []⟩) (fun a5 w6 h => ?_) (fun k7 h => ?_)
 ·refine AW.cond rfl (fun hc => ?_) (fun hc => ?_)
  ·have h := ifT hc h
   refine AW.rgs rfl fun K hK => ?_
   refine mv rfl rfl ?_
   refine mv rfl rfl ?_
   refine b_fin hK (s' := ⟨[(6, HV.v (.slice none 0 0)), (7, HV.int .i64 2)], []⟩) (le_q rfl rfl) ?_
   clear hK K
   refine AW.to (to_weak ⟨[(6, slE eInt ([] : List Int)), (7, HV.int .i64 2)], []⟩ ⟨⟨_, rfl, .nil _⟩, ⟨_, rfl, .refl _⟩, trivial⟩ trivial ?_)
   refine AW.ret ?_
   have h := Option.some.inj h
   subst h
   exact ret_pure (hs := [slE eInt ([] : List Int), HV.int .i64 2]) (q := HV.tup [slE eInt ([] : List Int), HV.int .i64 2]) (.inr rfl) (resT rfl (resT rfl rfl)) rfl ⟨(clean_slE fun _ _ => ⟨trivial, trivial⟩), trivial, trivial⟩
  have h := ifF (bF' hc) h
  refine AW.skip ?_
  refine AW.rgs rfl fun K hK => ?_
  refine b_op rfl (o_alloc (fid := 88) (zs := [HV.v (.slice none 0 0)]) 88009 rfl rfl ty35 rfl (fun v8 => ?_))
  refine b_fin hK (s' := ⟨[(1, slE eInt p1), (3, HV.fptr [HV.int .i64 p0.1, HV.int .i64 p0.2.1, slE eFromLabelTo p0.2.2] 0), (5, HV.fptr [HV.int .i64 p2] 0), (9, HV.ptr 88009 v8 0)], [(88009, v8, .arr 1 35 [HV.v (.slice none 0 0)])]⟩) (le_q rfl rfl) ?_
  clear hK K
  refine AW.seq ?_
  refine AW.rgs rfl fun K hK => ?_
  refine mv rfl rfl ?_
  refine bv rfl (v_lenF rfl rfl ty35 rfl) ?_
  refine mv rfl rfl ?_
  refine b_fin hK (s' := ⟨[(3, HV.fptr [HV.int .i64 p0.1, HV.int .i64 p0.2.1, slE eFromLabelTo p0.2.2] 0), (5, HV.fptr [HV.int .i64 p2] 0), (9, HV.ptr 88009 v8 0), (31, slE eInt p1), (32, HV.int .i64 ((p1).length : Int)), (33, HV.int .i64 0)], [(88009, v8, .arr 1 35 [HV.v (.slice none 0 0)])]⟩) (le_q rfl rfl) ?_
  clear hK K
  refine AW.lpX h (by first | exact up_then | exact up_to) (S := Int × (List Int)) (V := Nat) (fun a v => ⟨[(3, HV.fptr [HV.int .i64 p0.1, HV.int .i64 p0.2.1, slE eFromLabelTo p0.2.2] 0), (5, HV.fptr [HV.int .i64 p2] 0), (9, HV.ptr 88009 v8 0), (31, slE eInt p1), (32, HV.int .i64 ((p1).length : Int)), (33, HV.int .i64 a.1)], [(88009, v8, .arr 1 35 [HV.ar 88050 v eInt.k 0 ((a.2).length)]), (88050, v, .arr eInt.k 3 (eInt.E a.2))]⟩) ?_ (X := (List Int)) (W := Nat) (fun a v => ⟨[(9, HV.ptr 88009 v8 0)], [(88009, v8, .arr 1 35 [HV.ar 88050 v eInt.k 0 ((a).length)]), (88050, v, .arr eInt.k 3 (eInt.E a))]⟩) (fun a31 w32 h => ?_) (fun a9 w10 st11 h => ?_)
  ·refine to_bind (to_ownC 88050 88009 v8 1 0 eInt.k 3 35 rfl rfl (by decide) fun v30 => ?_)
   exact to_le (s' := ⟨[(3, HV.fptr [HV.int .i64 p0.1, HV.int .i64 p0.2.1, slE eFromLabelTo p0.2.2] 0), (5, HV.fptr [HV.int .i64 p2] 0), (9, HV.ptr 88009 v8 0), (31, slE eInt p1), (32, HV.int .i64 ((p1).length : Int)), (33, HV.int .i64 0)], [(88009, v8, .arr 1 35 [HV.ar 88050 v30 eInt.k 0 ((([] : List Int)).length)]), (88050, v30, .arr eInt.k 3 (eInt.E ([] : List Int)))]⟩) (AS.le_of ⟨rfl, rfl, rfl, rfl, rfl, rfl, trivial⟩ ⟨hle rfl (by first | rfl | simp only [List.length_set, sortI_len, sortS_len]), rfl, trivial⟩) ⟨v30, rfl⟩
  ·refine AW.rgs rfl fun K hK => ?_
   refine bv rfl (v_loadP ty35 rfl rfl (l_lit rfl rfl)) ?_
   obtain ⟨h33, h⟩ := ifN h
   refine b_op rfl (o_sortI c_sortI (l := a31) rfl rfl rfl rfl h33 ?_)
   refine b_fin hK (s' := ⟨[(9, HV.ptr 88009 v8 0)], [(88009, v8, .arr 1 35 [HV.ar 88050 w32 eInt.k 0 ((sortI a31).length)]), (88050, w32, .arr eInt.k 3 (eInt.E (sortI a31)))]⟩) (AS.le_of ⟨rfl, trivial⟩ ⟨hle rfl (by first | rfl | simp only [List.length_set, sortI_len, sortS_len]), rfl, trivial⟩) ?_
   clear hK K
   refine AW.rgs rfl fun K hK => ?_
   refine bv rfl (v_loadP ty35 rfl rfl (l_lit rfl rfl)) ?_
   refine b_op rfl (o_callK (q := slE eInt (compact_ (sortI a31))) [(88009, v8, .arr 1 35 [HV.ar 88050 w32 eInt.k 0 ((sortI a31).length)])] rfl rfl rfl rfl (fun K hK => c_compactI (H' := [(88009, v8, .arr 1 35 [HV.ar 88050 w32 eInt.k 0 ((sortI a31).length)])]) (l := sortI a31) rfl rfl (leH_get ⟨rfl, trivial⟩) rfl hK) ?_)
   refine mv rfl rfl ?_
   refine mv rfl rfl ?_
   refine b_fin hK (s' := ⟨[(6, slE eInt (compact_ (sortI a31))), (7, HV.int .i64 0)], []⟩) (le_q rfl rfl) ?_
   clear hK K
   refine AW.ret ?_
   have h := Option.some.inj h
   subst h
   exact ret_pure (hs := [slE eInt (compact_ (sortI a31)), HV.int .i64 0]) (q := HV.tup [slE eInt (compact_ (sortI a31)), HV.int .i64 0]) (.inr rfl) (resT rfl (resT rfl rfl)) rfl ⟨(clean_slE fun _ _ => ⟨trivial, trivial⟩), trivial, trivial⟩
  refine AW.rgs rfl fun K hK => ?_
  refine bv rfl (v_bin rfl rfl b_lss) ?_
  refine b_fin hK (s' := ⟨[(3, HV.fptr [HV.int .i64 p0.1, HV.int .i64 p0.2.1, slE eFromLabelTo p0.2.2] 0), (5, HV.fptr [HV.int .i64 p2] 0), (9, HV.ptr 88009 v8 0), (31, slE eInt p1), (32, HV.int .i64 ((p1).length : Int)), (33, HV.int .i64 a9.1), (34, HV.bool (decide (a9.1 < ((p1).length : Int))))], [(88009, v8, .arr 1 35 [HV.ar 88050 w10 eInt.k 0 ((a9.2).length)]), (88050, w10, .arr eInt.k 3 (eInt.E a9.2))]⟩) (le_q rfl rfl) ?_
  clear hK K
  refine AW.cseq rfl (fun hc => ?_) (fun hc => ?_)
  ·have hc := of_decide_eq_true hc
   have h := ifT hc h
   refine AW.skip ?_
   refine AW.seq (AW.block ?_)
   refine AW.rgs rfl fun K hK => ?_
   obtain ⟨x13, h14, h⟩ := bS h
   refine bv rfl (v_idxF ty35 es35 rfl rfl (idx_lt h14)) ?_
   refine bv rfl (v_loadF ty3 rfl (l_cell eInt h14 (o := 0) rfl rfl)) ?_
   refine mv rfl rfl ?_
   refine b_fin hK (s' := ⟨[(3, HV.fptr [HV.int .i64 p0.1, HV.int .i64 p0.2.1, slE eFromLabelTo p0.2.2] 0), (5, HV.fptr [HV.int .i64 p2] 0), (9, HV.ptr 88009 v8 0), (11, HV.int .i64 x13), (31, slE eInt p1), (32, HV.int .i64 ((p1).length : Int)), (33, HV.int .i64 a9.1)], [(88009, v8, .arr 1 35 [HV.ar 88050 w10 eInt.k 0 ((a9.2).length)]), (88050, w10, .arr eInt.k 3 (eInt.E a9.2))]⟩) (le_q rfl rfl) ?_
   clear hK K
   refine AW.rgs rfl fun K hK => ?_
   refine bv rfl (v_loadF ty24 rfl (l_litA rfl (Nat.le_of_ble_eq_true rfl) rfl)) ?_
   refine mv rfl rfl ?_
   refine b_op rfl (o_call rfl rfl rfl rfl (ACallD.pure0 (w_graph_leaving p0 x13)) ?_)
   refine b_fin hK (s' := ⟨[(3, HV.fptr [HV.int .i64 p0.1, HV.int .i64 p0.2.1, slE eFromLabelTo p0.2.2] 0), (5, HV.fptr [HV.int .i64 p2] 0), (9, HV.ptr 88009 v8 0), (31, slE eInt p1), (32, HV.int .i64 ((p1).length : Int)), (33, HV.int .i64 a9.1), (39, HV.fn (.func 107) [] [HV.fptr [HV.int .i64 p0.1, HV.int .i64 p0.2.1, slE eFromLabelTo p0.2.2] 0, HV.fptr [HV.int .i64 x13] 0])], [(88009, v8, .arr 1 35 [HV.ar 88050 w10 eInt.k 0 ((a9.2).length)]), (88050, w10, .arr eInt.k 3 (eInt.E a9.2))]⟩) (le_q rfl rfl) ?_
   clear hK K
   refine AW.block ?_
   refine AW.to (to_le (s' := ⟨[(3, HV.fptr [HV.int .i64 p0.1, HV.int .i64 p0.2.1, slE eFromLabelTo p0.2.2] 0), (5, HV.fptr [HV.int .i64 p2] 0), (9, HV.ptr 88009 v8 0), (31, slE eInt p1), (32, HV.int .i64 ((p1).length : Int)), (33, HV.int .i64 a9.1), (39, HV.fn (.func 107) [] [HV.fptr [HV.int .i64 p0.1, HV.int .i64 p0.2.1, slE eFromLabelTo p0.2.2] 0, HV.fptr [HV.int .i64 x13] 0])], [(88009, v8, .arr 1 35 [HV.ar 88050 w10 eInt.k 0 ((a9.2).length)]), (88050, w10, .arr eInt.k 3 (eInt.E a9.2))]⟩) (le_q rfl rfl) ?_)
   obtain ⟨L15, h16, h⟩ := bS h
   refine AW.rangeY (c := .ret) 88900 (fun x => [HV.int .i64 x.1, HV.agg [HV.int .i64 x.2.1, HV.int .i64 x.2.2.1, HV.int .i64 x.2.2.2]]) h (by first | exact up_then | exact up_to) rfl (iy_graph_leaving h16) (S := (List Int)) (V := Nat) (fun a v => [(88009, v8, .arr 1 35 [HV.ar 88050 v eInt.k 0 ((a).length)]), (88050, v, .arr eInt.k 3 (eInt.E a))]) w10 (X := Unit) (W := Unit) (fun _ _ => []) (fun _ _ => rfl) (fun _ _ => rfl) rfl (fun _ => rfl) (fun a26 w27 h => ?_) (fun a28 w29 h => ?_) (fun Lo l22 v20 a17 x19 w18 st21 h => ?_)
   ·refine AW.rg rfl fun K hK => ?_
    refine bv rfl (v_bin rfl rfl b_add) ?_
    refine mv rfl rfl ?_
    refine b_nil (hK _ ?_)
    clear hK K
    exact to_le (s' := ⟨[(3, HV.fptr [HV.int .i64 p0.1, HV.int .i64 p0.2.1, slE eFromLabelTo p0.2.2] 0), (5, HV.fptr [HV.int .i64 p2] 0), (9, HV.ptr 88009 v8 0), (31, slE eInt p1), (32, HV.int .i64 ((p1).length : Int)), (33, HV.int .i64 (IntKind.wrap .i64 (a9.1 + 1)))], [(88009, v8, .arr 1 35 [HV.ar 88050 w27 eInt.k 0 ((a26).length)]), (88050, w27, .arr eInt.k 3 (eInt.E a26))]⟩) (AS.le_of ⟨rfl, rfl, rfl, rfl, rfl, rfl, trivial⟩ ⟨rfl, rfl, trivial⟩) ⟨(IntKind.wrap .i64 (a9.1 + 1), a26), w27, h, rfl⟩
   ·cases h
   refine AW.rg rfl fun K hK => ?_
   refine b_op rfl (o_alloc (fid := 88) (zs := [HV.int .i64 0, HV.int .i64 0, HV.int .i64 0]) 88013 rfl rfl ty53 rfl (fun v23 => ?_))
   refine b_op rfl (o_store (cs := [HV.int .i64 x19.2.1, HV.int .i64 x19.2.2.1, HV.int .i64 x19.2.2.2]) (zs := [HV.int .i64 x19.2.1, HV.int .i64 x19.2.2.1, HV.int .i64 x19.2.2.2]) rfl rfl rfl ty53 rfl rfl rfl rfl rfl ?_)
   refine b_nil (hK _ ?_)
   clear hK K
   refine ⟨rfl, rfl, ?_⟩
   refine AW.block ?_
   refine AW.rgs rfl fun K hK => ?_
   refine bv rfl (v_fieldAddrP fo53_1 rfl rfl) ?_
   refine bv rfl (v_loadP ty3 rfl rfl (l_lit rfl rfl)) ?_
   refine bv rfl (v_loadF ty3 rfl (l_lit rfl rfl)) ?_
   refine bv rfl (v_bin rfl rfl b_eql) ?_
   refine b_fin hK (s' := ⟨[(3, HV.fptr [HV.int .i64 p0.1, HV.int .i64 p0.2.1, slE eFromLabelTo p0.2.2] 0), (5, HV.fptr [HV.int .i64 p2] 0), (9, HV.ptr 88009 v8 0), (13, HV.ptr 88013 v23 0), (31, slE eInt p1), (32, HV.int .i64 ((p1).length : Int)), (33, HV.int .i64 a9.1), (41, HV.agg [HV.int .i64 x19.2.1, HV.int .i64 x19.2.2.1, HV.int .i64 x19.2.2.2]), (45, HV.bool (decide (x19.2.2.1 = p2)))], [(88900, v20, Lo .busy none), (88009, v8, .arr 1 35 [HV.ar 88050 w18 eInt.k 0 ((a17).length)]), (88050, w18, .arr eInt.k 3 (eInt.E a17)), (88013, v23, .arr 3 53 [HV.int .i64 x19.2.1, HV.int .i64 x19.2.2.1, HV.int .i64 x19.2.2.2])]⟩) (le_q rfl rfl) ?_
   clear hK K
   refine AW.cond rfl (fun hc => ?_) (fun hc => ?_)
   ·have hc := of_decide_eq_true hc
    have h := ifT hc h
    refine AW.rg rfl fun K hK => ?_
    refine bv rfl (v_loadP ty35 rfl rfl (l_lit rfl rfl)) ?_
    refine bv rfl (v_fieldAddrP fo53_2 rfl rfl) ?_
    refine bv rfl (v_loadP ty3 rfl rfl (l_lit rfl rfl)) ?_
    refine b_op rfl (o_bsl rfl rfl (as_of (cs := [HV.int .i64 x19.2.2.2]) ty35 ty3 rfl rfl rfl rfl rfl) ?_)
    obtain ⟨h25, h⟩ := ifN h
    refine b_op rfl (o_appE eInt (l := a17) (m := [x19.2.2.2]) rfl rfl ty35 ty35 ty3 rfl rfl rfl rfl rfl h25 (fun v24 => ?_))
    refine b_op rfl (o_store (cs := [HV.ar 88050 v24 eInt.k 0 ((a17 ++ [x19.2.2.2]).length)]) (zs := [HV.ar 88050 v24 eInt.k 0 ((a17 ++ [x19.2.2.2]).length)]) rfl rfl rfl ty35 rfl rfl rfl rfl rfl ?_)
    refine b_nil (hK _ ?_)
    clear hK K
    exact ⟨a17 ++ [x19.2.2.2], v24, h, (AS.le_of trivial ⟨rfl, rfl, rfl, trivial⟩)⟩
   have hc := of_decide_eq_false hc
   have h := ifF hc h
   refine AW.skip ?_
   exact ⟨a17, w18, h, (AS.le_of trivial ⟨rfl, rfl, rfl, trivial⟩)⟩
  have hc := of_decide_eq_false hc
  have h := ifF hc h
  refine AW.exit ?_
  exact to_le (s' := ⟨[(9, HV.ptr 88009 v8 0)], [(88009, v8, .arr 1 35 [HV.ar 88050 w10 eInt.k 0 ((a9.2).length)]), (88050, w10, .arr eInt.k 3 (eInt.E a9.2))]⟩) (AS.le_of ⟨rfl, trivial⟩ ⟨rfl, rfl, trivial⟩) ⟨a9.2, w10, h, rfl⟩
 refine AW.rg rfl fun K hK => ?_
 refine bv rfl (v_loadF ty3 rfl (l_lit rfl rfl)) ?_
 refine bv rfl (v_bin rfl rfl b_lss) ?_
 refine mv rfl rfl ?_
 by_cases hg34 : p2 < 0
 ·have h := ifT hg34 h
  refine b_F rfl rfl rfl rfl rfl (decide_eq_true hg34) ?_
  refine b_F rfl rfl rfl rfl rfl rfl ?_
  refine b_F rfl rfl rfl rfl rfl rfl ?_
  refine b_F rfl rfl rfl rfl rfl rfl ?_
  refine bv rfl (v_pickT rfl rfl rfl) ?_
  refine b_nil (hK _ ?_)
  clear hK K
  exact to_le (s' := ⟨[(1, slE eInt p1), (3, HV.fptr [HV.int .i64 p0.1, HV.int .i64 p0.2.1, slE eFromLabelTo p0.2.2] 0), (5, HV.fptr [HV.int .i64 p2] 0), (30, HV.bool true)], []⟩) (AS.le_of ⟨rfl, rfl, rfl, rfl, trivial⟩ trivial) ⟨true, (), h, rfl⟩
 have h := ifF hg34 h
 refine b_T rfl rfl rfl rfl (decide_eq_false hg34) (o_val rfl (v_loadF ty3 rfl (l_lit rfl rfl)) ?_)
 refine b_T rfl rfl rfl rfl rfl (o_val rfl (v_fieldAddrF fo24_0 rfl) ?_)
 refine b_T rfl rfl rfl rfl rfl (o_val rfl (v_loadF ty3 rfl (l_lit rfl rfl)) ?_)
 refine b_T rfl rfl rfl rfl rfl (o_val rfl (v_bin rfl rfl b_geq) ?_)
 refine bv rfl (v_pickF rfl rfl rfl) ?_
 refine b_nil (hK _ ?_)
 clear hK K
 exact to_le (s' := ⟨[(1, slE eInt p1), (3, HV.fptr [HV.int .i64 p0.1, HV.int .i64 p0.2.1, slE eFromLabelTo p0.2.2] 0), (5, HV.fptr [HV.int .i64 p2] 0), (30, HV.bool (decide (p0.1 ≤ p2)))], []⟩) (AS.le_of ⟨rfl, rfl, rfl, rfl, trivial⟩ trivial) ⟨decide (p0.1 ≤ p2), (), h, rfl⟩

set_option maxHeartbeats 1600000 in
set_option maxRecDepth 100000 in
theorem w_language_step {p0 : TLabelsStatesEdges} {p1 : List (Int)} {p2 : Int} {r : (List (Int))} (h : m_language_step p0 p1 p2 = some r) : Pure Try.prog 68 [HV.agg [HV.int .i64 p0.1, HV.int .i64 p0.2.1, slE eFromLabelTo p0.2.2], slE eInt p1, HV.int .u8 p2] (· = slE eInt r) := by
 unfold m_language_step at h
 refine Pure.of_body Try.func68 rfl rfl (Nat.le_of_ble_eq_true rfl) fun hf => ?_
 unfold Try.f68
 dsimp only [enumS, Nat.reduceAdd]
 refine AW.rgs rfl fun K hK => ?_
 refine b_op rfl (o_box rfl rfl rfl ?_)
 refine mv rfl rfl ?_
 refine b_fin hK (s' := ⟨[(1, slE eInt p1), (2, HV.int .u8 p2), (3, HV.fptr [HV.int .i64 p0.1, HV.int .i64 p0.2.1, slE eFromLabelTo p0.2.2] 0)], []⟩) (le_q rfl rfl) ?_
 clear hK K
 refine AW.dgs 10 follows rfl rfl fun K hK => ?_
 refine sv rfl (v_loadF ty24 rfl (l_litA rfl (Nat.le_of_ble_eq_true rfl) rfl)) ?_
 refine sm rfl rfl ?_
 refine sm rfl rfl ?_
 obtain ⟨x1, h2, h⟩ := bS h
 refine s_op rfl rfl (ops_call rfl rfl rfl rfl (ACallD.pure0 (w_strings_IndexByte h2)) ?_)
 obtain ⟨x3, h4, h⟩ := bS h
 refine s_op rfl rfl (ops_call rfl rfl rfl rfl (ACallD.pure0 (w_graph_Step h4)) ?_)
 refine sm rfl rfl ?_
 refine sv rfl (v_extract rfl rfl) ?_
 refine sv rfl (v_extract rfl rfl) ?_
 refine sm rfl rfl ?_
 refine sm rfl rfl ?_
 refine s_nil ?_
 refine b_fin hK (s' := ⟨[(7, slE eInt x3.1)], []⟩) (le_q rfl rfl) ?_
 clear hK K
 refine AW.rgs rfl fun K hK => ?_
 refine mv rfl rfl ?_
 refine mv rfl rfl ?_
 refine b_fin hK (s' := ⟨[(6, slE eInt x3.1)], []⟩) (le_q rfl rfl) ?_
 clear hK K
 refine AW.ret ?_
 have h := Option.some.inj h
 subst h
 exact ret_pure (hs := [slE eInt x3.1]) (q := slE eInt x3.1) (.inr rfl) (resT rfl rfl) rfl (clean_slE fun _ _ => ⟨trivial, trivial⟩)

set_option maxHeartbeats 1600000 in
set_option maxRecDepth 100000 in
theorem w_language_ends {p0 : TLabelsStatesEdges} {p1 : List (Int)} {p2 : List UInt8} {r : (List (Int))} (h : m_language_ends p0 p1 p2 = some r) : Pure Try.prog 44 [HV.agg [HV.int .i64 p0.1, HV.int .i64 p0.2.1, slE eFromLabelTo p0.2.2], slE eInt p1, HV.str p2] (· = slE eInt r) := by
 unfold m_language_ends at h
 refine Pure.of_body Try.func44 rfl rfl (Nat.le_of_ble_eq_true rfl) fun hf => ?_
 unfold Try.f44
 dsimp only [enumS, Nat.reduceAdd]
 refine AW.rgs rfl fun K hK => ?_
 refine b_op rfl (o_box rfl rfl rfl ?_)
 refine mv rfl rfl ?_
 refine b_fin hK (s' := ⟨[(1, slE eInt p1), (2, HV.str p2), (3, HV.fptr [HV.int .i64 p0.1, HV.int .i64 p0.2.1, slE eFromLabelTo p0.2.2] 0)], []⟩) (le_q rfl rfl) ?_
 clear hK K
 refine AW.seq ?_
 refine AW.rgs rfl fun K hK => ?_
 refine mv rfl rfl ?_
 refine b_fin hK (s' := ⟨[(1, slE eInt p1), (2, HV.str p2), (3, HV.fptr [HV.int .i64 p0.1, HV.int .i64 p0.2.1, slE eFromLabelTo p0.2.2] 0), (7, HV.int .i64 0)], []⟩) (le_q rfl rfl) ?_
 clear hK K
 refine AW.lpX h (by first | exact up_then | exact up_to) (S := (List Int) × Int) (V := Unit) (fun a v => ⟨[(1, slE eInt a.1), (2, HV.str p2), (3, HV.fptr [HV.int .i64 p0.1, HV.int .i64 p0.2.1, slE eFromLabelTo p0.2.2] 0), (7, HV.int .i64 a.2)], []⟩) ?_ (X := (List Int)) (W := Unit) (fun a v => ⟨[(1, slE eInt a)], []⟩) (fun a13 w14 h => ?_) (fun a1 w2 st3 h => ?_)
 ·exact to_le (s' := ⟨[(1, slE eInt p1), (2, HV.str p2), (3, HV.fptr [HV.int .i64 p0.1, HV.int .i64 p0.2.1, slE eFromLabelTo p0.2.2] 0), (7, HV.int .i64 0)], []⟩) (AS.le_of ⟨rfl, rfl, rfl, rfl, trivial⟩ trivial) ⟨(), rfl⟩
 ·refine AW.rgs rfl fun K hK => ?_
  refine mv rfl rfl ?_
  refine mv rfl rfl ?_
  refine b_fin hK (s' := ⟨[(6, slE eInt a13)], []⟩) (le_q rfl rfl) ?_
  clear hK K
  refine AW.ret ?_
  have h := Option.some.inj h
  subst h
  exact ret_pure (hs := [slE eInt a13]) (q := slE eInt a13) (.inr rfl) (resT rfl rfl) rfl (clean_slE fun _ _ => ⟨trivial, trivial⟩)
 refine AW.seq ?_
 refine AW.seqJ h (S := Bool) (V := Unit) (fun a v => ⟨[(1, slE eInt a1.1), (2, HV.str p2), (3, HV.fptr [HV.int .i64 p0.1, HV.int .i64 p0.2.1, slE eFromLabelTo p0.2.2] 0), (7, HV.int .i64 a1.2), (16, HV.bool a)], []⟩) (fun a5 w6 h => ?_) (fun k7 h => ?_)
 ·refine AW.cond rfl (fun hc => ?_) (fun hc => ?_)
  ·have h := ifT hc h
   refine AW.skip ?_
   refine AW.seq (AW.block ?_)
   refine AW.dg 7 follows rfl rfl fun K hK => ?_
   refine sv rfl (v_loadF ty24 rfl (l_litA rfl (Nat.le_of_ble_eq_true rfl) rfl)) ?_
   refine sm rfl rfl ?_
   refine sm rfl rfl ?_
   refine sm rfl rfl ?_
   obtain ⟨x8, h9, h⟩ := bS h
   refine sv rfl (v_idxS ty9 rfl rfl h9) ?_
   obtain ⟨x10, h11, h⟩ := bS h
   refine s_op rfl rfl (ops_call rfl rfl rfl rfl (ACallD.pure0 (w_language_step h11)) ?_)
   refine sm rfl rfl ?_
   refine s_nil ?_
   refine b_fin hK (s' := ⟨[(1, slE eInt x10), (2, HV.str p2), (3, HV.fptr [HV.int .i64 p0.1, HV.int .i64 p0.2.1, slE eFromLabelTo p0.2.2] 0), (7, HV.int .i64 a1.2)], []⟩) (le_q rfl rfl) ?_
   clear hK K
   refine AW.rg rfl fun K hK => ?_
   refine mv rfl rfl ?_
   refine bv rfl (v_bin rfl rfl b_add) ?_
   refine mv rfl rfl ?_
   refine b_nil (hK _ ?_)
   clear hK K
   exact to_le (s' := ⟨[(1, slE eInt x10), (2, HV.str p2), (3, HV.fptr [HV.int .i64 p0.1, HV.int .i64 p0.2.1, slE eFromLabelTo p0.2.2] 0), (7, HV.int .i64 (IntKind.wrap .i64 (a1.2 + 1)))], []⟩) (AS.le_of ⟨rfl, rfl, rfl, rfl, trivial⟩ trivial) ⟨(x10, IntKind.wrap .i64 (a1.2 + 1)), (), h, rfl⟩
  have h := ifF (bF' hc) h
  refine AW.exit ?_
  exact to_le (s' := ⟨[(1, slE eInt a1.1)], []⟩) (AS.le_of ⟨rfl, trivial⟩ trivial) ⟨a1.1, (), h, rfl⟩
 refine AW.rg rfl fun K hK => ?_
 refine mv rfl rfl ?_
 refine mv rfl rfl ?_
 refine bv rfl (v_lenS rfl rfl ty9 rfl) ?_
 refine bv rfl (v_bin rfl rfl b_lss) ?_
 refine mv rfl rfl ?_
 by_cases hg12 : a1.2 < ((p2).length : Int)
 ·have h := ifT hg12 h
  refine b_T rfl rfl rfl rfl (decide_eq_true hg12) (o_val rfl (mv_val rfl rfl).2 ?_)
  refine b_T rfl rfl rfl rfl rfl (o_val rfl (v_lenF rfl rfl ty35 rfl) ?_)
  refine b_T rfl rfl rfl rfl rfl (o_val rfl (v_bin rfl rfl b_gtr) ?_)
  refine bv rfl (v_pickT rfl rfl rfl) ?_
  refine b_nil (hK _ ?_)
  clear hK K
  exact to_le (s' := ⟨[(1, slE eInt a1.1), (2, HV.str p2), (3, HV.fptr [HV.int .i64 p0.1, HV.int .i64 p0.2.1, slE eFromLabelTo p0.2.2] 0), (7, HV.int .i64 a1.2), (16, HV.bool (decide (0 < ((a1.1).length : Int))))], []⟩) (AS.le_of ⟨rfl, rfl, rfl, rfl, rfl, trivial⟩ trivial) ⟨decide (0 < ((a1.1).length : Int)), (), h, rfl⟩
 have h := ifF hg12 h
 refine b_F rfl rfl rfl rfl rfl (decide_eq_false hg12) ?_
 refine b_F rfl rfl rfl rfl rfl rfl ?_
 refine b_F rfl rfl rfl rfl rfl rfl ?_
 refine bv rfl (v_pickF rfl rfl rfl) ?_
 refine b_nil (hK _ ?_)
 clear hK K
 exact to_le (s' := ⟨[(1, slE eInt a1.1), (2, HV.str p2), (3, HV.fptr [HV.int .i64 p0.1, HV.int .i64 p0.2.1, slE eFromLabelTo p0.2.2] 0), (7, HV.int .i64 a1.2), (16, HV.bool false)], []⟩) (AS.le_of ⟨rfl, rfl, rfl, rfl, rfl, trivial⟩ trivial) ⟨false, (), h, rfl⟩

set_option maxHeartbeats 1600000 in
set_option maxRecDepth 100000 in
theorem w_language_states {p0 : TLabelsStatesEdges} {r : (List (Int))} (h : m_language_states p0 = some r) : Pure Try.prog 45 [HV.agg [HV.int .i64 p0.1, HV.int .i64 p0.2.1, slE eFromLabelTo p0.2.2]] (· = slE eInt r) := by
 unfold m_language_states at h
 refine Pure.of_body Try.func45 rfl rfl (Nat.le_of_ble_eq_true rfl) fun hf => ?_
 unfold Try.f45
 dsimp only [enumS, Nat.reduceAdd]
 refine AW.rgs rfl fun K hK => ?_
 refine b_op rfl (o_box rfl rfl rfl ?_)
 refine mv rfl rfl ?_
 refine b_fin hK (s' := ⟨[(1, HV.fptr [HV.int .i64 p0.1, HV.int .i64 p0.2.1, slE eFromLabelTo p0.2.2] 0)], []⟩) (le_q rfl rfl) ?_
 clear hK K
 refine AW.rgs rfl fun K hK => ?_
 refine bv rfl (v_fieldAddrF fo24_1 rfl) ?_
 refine bv rfl (v_loadF ty3 rfl (l_lit rfl rfl)) ?_
 obtain ⟨h2, h⟩ := ifN h
 refine b_op rfl (o_makeE (fid := 45) eInt (0 : Int) 45007 rfl rfl ty35 rfl rfl ty3 rfl rfl h2 (fun v1 => ?_))
 refine mv rfl rfl ?_
 refine b_fin hK (s' := ⟨[(3, HV.ar 45007 v1 eInt.k 0 ((List.replicate (p0.2.1).toNat (0 : Int)).length))], [(45007, v1, .arr eInt.k 3 (eInt.E (List.replicate (p0.2.1).toNat (0 : Int))))]⟩) (le_q rfl rfl) ?_
 clear hK K
 refine AW.seq ?_
 refine AW.rgs rfl fun K hK => ?_
 refine mv rfl rfl ?_
 refine bv rfl (v_lenA rfl rfl ty35 rfl rfl) ?_
 refine mv rfl rfl ?_
 refine b_fin hK (s' := ⟨[(3, HV.ar 45007 v1 eInt.k 0 ((List.replicate (p0.2.1).toNat (0 : Int)).length)), (9, HV.int .i64 (((List.replicate (p0.2.1).toNat (0 : Int)).length : Nat) : Int)), (10, HV.int .i64 0)], [(45007, v1, .arr eInt.k 3 (eInt.E (List.replicate (p0.2.1).toNat (0 : Int))))]⟩) (le_q rfl rfl) ?_
 clear hK K
 refine AW.lpX h (by first | exact up_then | exact up_to) (S := Int × (List Int)) (V := Unit) (fun a v => ⟨[(3, HV.ar 45007 v1 eInt.k 0 ((a.2).length)), (9, HV.int .i64 (((List.replicate (p0.2.1).toNat (0 : Int)).length : Nat) : Int)), (10, HV.int .i64 a.1)], [(45007, v1, .arr eInt.k 3 (eInt.E a.2))]⟩) ?_ (X := (List Int)) (W := Unit) (fun a v => ⟨[(3, HV.ar 45007 v1 eInt.k 0 ((a).length))], [(45007, v1, .arr eInt.k 3 (eInt.E a))]⟩) (fun a9 w10 h => ?_) (fun a3 w4 st5 h => ?_)
 ·exact to_le (s' := ⟨[(3, HV.ar 45007 v1 eInt.k 0 ((List.replicate (p0.2.1).toNat (0 : Int)).length)), (9, HV.int .i64 (((List.replicate (p0.2.1).toNat (0 : Int)).length : Nat) : Int)), (10, HV.int .i64 0)], [(45007, v1, .arr eInt.k 3 (eInt.E (List.replicate (p0.2.1).toNat (0 : Int))))]⟩) (AS.le_of ⟨rfl, rfl, rfl, trivial⟩ ⟨rfl, trivial⟩) ⟨(), rfl⟩
 ·refine AW.rgs rfl fun K hK => ?_
  refine mv rfl rfl ?_
  refine mv rfl rfl ?_
  refine b_fin hK (s' := ⟨[(2, HV.ar 45007 v1 eInt.k 0 ((a9).length))], [(45007, v1, .arr eInt.k 3 (eInt.E a9))]⟩) (le_q rfl rfl) ?_
  clear hK K
  refine AW.to (to_frz 2 [(45007, v1, .arr eInt.k 3 (eInt.E a9))] ⟨[(2, slE eInt a9)], []⟩ ⟨⟨_, rfl, frz_slE eInt (l := a9) rfl fun _ _ => rfl⟩, trivial⟩ trivial ⟨rfl, trivial⟩ ⟨rfl, trivial⟩ ?_)
  refine AW.ret ?_
  have h := Option.some.inj h
  subst h
  exact ret_pure (hs := [slE eInt a9]) (q := slE eInt a9) (.inr rfl) (resT rfl rfl) rfl (clean_slE fun _ _ => ⟨trivial, trivial⟩)
 refine AW.rgs rfl fun K hK => ?_
 refine bv rfl (v_bin rfl rfl b_lss) ?_
 refine b_fin hK (s' := ⟨[(3, HV.ar 45007 v1 eInt.k 0 ((a3.2).length)), (9, HV.int .i64 (((List.replicate (p0.2.1).toNat (0 : Int)).length : Nat) : Int)), (10, HV.int .i64 a3.1), (11, HV.bool (decide (a3.1 < (((List.replicate (p0.2.1).toNat (0 : Int)).length : Nat) : Int))))], [(45007, v1, .arr eInt.k 3 (eInt.E a3.2))]⟩) (le_q rfl rfl) ?_
 clear hK K
 refine AW.cseq rfl (fun hc => ?_) (fun hc => ?_)
 ·have hc := of_decide_eq_true hc
  have h := ifT hc h
  refine AW.skip ?_
  refine AW.seq (AW.block ?_)
  refine AW.rgs rfl fun K hK => ?_
  refine mv rfl rfl ?_
  refine mv rfl rfl ?_
  refine b_fin hK (s' := ⟨[(3, HV.ar 45007 v1 eInt.k 0 ((a3.2).length)), (4, HV.int .i64 a3.1), (9, HV.int .i64 (((List.replicate (p0.2.1).toNat (0 : Int)).length : Nat) : Int)), (10, HV.int .i64 a3.1)], [(45007, v1, .arr eInt.k 3 (eInt.E a3.2))]⟩) (le_q rfl rfl) ?_
  clear hK K
  refine AW.rg rfl fun K hK => ?_
  refine mv rfl rfl ?_
  refine mv rfl rfl ?_
  refine mv rfl rfl ?_
  obtain ⟨x7, h8, h⟩ := bS h
  refine bv rfl (v_idxA ty35 es35 rfl rfl (idx_lt h8) rfl) ?_
  refine b_op rfl (o_storeE eInt (l := a3.2) (j := a3.1) (v := a3.1) rfl rfl rfl ty3 rfl rfl rfl (idx_lt h8) ?_)
  refine b_fin hK (s' := ⟨[(3, HV.ar 45007 v1 eInt.k 0 (((a3.2).set (a3.1).toNat a3.1).length)), (9, HV.int .i64 (((List.replicate (p0.2.1).toNat (0 : Int)).length : Nat) : Int)), (10, HV.int .i64 a3.1)], [(45007, v1, .arr eInt.k 3 (eInt.E ((a3.2).set (a3.1).toNat a3.1)))]⟩) (AS.le_of ⟨arl (by first | rfl | simp only [List.length_set, sortI_len, sortS_len]), rfl, rfl, trivial⟩ ⟨rfl, trivial⟩) ?_
  clear hK K
  refine AW.rg rfl fun K hK => ?_
  refine bv rfl (v_bin rfl rfl b_add) ?_
  refine mv rfl rfl ?_
  refine b_nil (hK _ ?_)
  clear hK K
  exact to_le (s' := ⟨[(3, HV.ar 45007 v1 eInt.k 0 (((a3.2).set (a3.1).toNat a3.1).length)), (9, HV.int .i64 (((List.replicate (p0.2.1).toNat (0 : Int)).length : Nat) : Int)), (10, HV.int .i64 (IntKind.wrap .i64 (a3.1 + 1)))], [(45007, v1, .arr eInt.k 3 (eInt.E ((a3.2).set (a3.1).toNat a3.1)))]⟩) (AS.le_of ⟨rfl, rfl, rfl, trivial⟩ ⟨rfl, trivial⟩) ⟨(IntKind.wrap .i64 (a3.1 + 1), (a3.2).set (a3.1).toNat a3.1), (), h, rfl⟩
 have hc := of_decide_eq_false hc
 have h := ifF hc h
 refine AW.exit ?_
 exact to_le (s' := ⟨[(3, HV.ar 45007 v1 eInt.k 0 ((a3.2).length))], [(45007, v1, .arr eInt.k 3 (eInt.E a3.2))]⟩) (AS.le_of ⟨rfl, trivial⟩ ⟨rfl, trivial⟩) ⟨a3.2, (), h, rfl⟩

set_option maxHeartbeats 1600000 in
set_option maxRecDepth 100000 in
theorem w_language_Accepts {p0 : TLabelsStatesEdges} {p1 : List UInt8} {r : Bool × Int} (h : m_language_Accepts p0 p1 = some r) : Pure Try.prog 23 [HV.agg [HV.int .i64 p0.1, HV.int .i64 p0.2.1, slE eFromLabelTo p0.2.2], HV.str p1] (· = HV.tup [HV.bool r.1, HV.int .i64 r.2]) := by
 unfold m_language_Accepts at h
 refine Pure.of_body Try.func23 rfl rfl (Nat.le_of_ble_eq_true rfl) fun hf => ?_
 unfold Try.f23
 dsimp only [enumS, Nat.reduceAdd]
 refine AW.rgs rfl fun K hK => ?_
 refine b_op rfl (o_box rfl rfl rfl ?_)
 refine mv rfl rfl ?_
 refine mv rfl rfl ?_
 refine b_fin hK (s' := ⟨[(1, HV.str p1), (2, HV.fptr [HV.int .i64 p0.1, HV.int .i64 p0.2.1, slE eFromLabelTo p0.2.2] 0)], []⟩) (le_q rfl rfl) ?_
 clear hK K
 refine AW.seq ?_
 refine AW.rgs rfl fun K hK => ?_
 refine bv rfl (v_loadF ty24 rfl (l_litA rfl (Nat.le_of_ble_eq_true rfl) rfl)) ?_
 refine mv rfl rfl ?_
 obtain ⟨x1, h2, h⟩ := bS h
 refine b_op rfl (o_call rfl rfl rfl rfl (ACallD.pure0 (w_language_spells h2)) ?_)
 refine mv rfl rfl ?_
 refine b_fin hK (s' := ⟨[(1, HV.str p1), (2, HV.fptr [HV.int .i64 p0.1, HV.int .i64 p0.2.1, slE eFromLabelTo p0.2.2] 0), (6, HV.int .i64 x1)], []⟩) (le_q rfl rfl) ?_
 clear hK K
 refine AW.rgs rfl fun K hK => ?_
 refine mv rfl rfl ?_
 refine bv rfl (v_bin rfl rfl b_neq) ?_
 refine b_fin hK (s' := ⟨[(1, HV.str p1), (2, HV.fptr [HV.int .i64 p0.1, HV.int .i64 p0.2.1, slE eFromLabelTo p0.2.2] 0), (6, HV.int .i64 x1), (11, HV.bool (decide (x1 ≠ 0)))], []⟩) (le_q rfl rfl) ?_
 clear hK K
 refine AW.cond rfl (fun hc => ?_) (fun hc => ?_)
 ·have hc := of_decide_eq_true hc
  have h := ifT hc h
  refine AW.rgs rfl fun K hK => ?_
  refine mv rfl rfl ?_
  refine mv rfl rfl ?_
  refine mv rfl rfl ?_
  refine b_fin hK (s' := ⟨[(4, HV.bool false), (5, HV.int .i64 x1)], []⟩) (le_q rfl rfl) ?_
  clear hK K
  refine AW.ret ?_
  have h := Option.some.inj h
  subst h
  exact ret_pure (hs := [HV.bool false, HV.int .i64 x1]) (q := HV.tup [HV.bool false, HV.int .i64 x1]) (.inr rfl) (resT rfl (resT rfl rfl)) rfl ⟨trivial, trivial, trivial⟩
 have hc := of_decide_eq_false hc
 have h := ifF hc h
 refine AW.skip ?_
 refine AW.dgs 9 follows rfl rfl fun K hK => ?_
 refine sv rfl (v_loadF ty24 rfl (l_litA rfl (Nat.le_of_ble_eq_true rfl) rfl)) ?_
 refine sv rfl (v_loadF ty24 rfl (l_litA rfl (Nat.le_of_ble_eq_true rfl) rfl)) ?_
 obtain ⟨x3, h4, h⟩ := bS h
 refine s_op rfl rfl (ops_call rfl rfl rfl rfl (ACallD.pure0 (w_language_states h4)) ?_)
 refine sm rfl rfl ?_
 obtain ⟨x5, h6, h⟩ := bS h
 refine s_op rfl rfl (ops_call rfl rfl rfl rfl (ACallD.pure0 (w_language_ends h6)) ?_)
 refine sv rfl (v_lenF rfl rfl ty35 rfl) ?_
 refine sv rfl (v_bin rfl rfl b_gtr) ?_
 refine sm rfl rfl ?_
 refine sm rfl rfl ?_
 refine s_nil ?_
 refine b_fin hK (s' := ⟨[(4, HV.bool (decide (0 < ((x5).length : Int)))), (5, HV.int .i64 0)], []⟩) (le_q rfl rfl) ?_
 clear hK K
 refine AW.ret ?_
 have h := Option.some.inj h
 subst h
 exact ret_pure (hs := [HV.bool (decide (0 < ((x5).length : Int))), HV.int .i64 0]) (q := HV.tup [HV.bool (decide (0 < ((x5).length : Int))), HV.int .i64 0]) (.inr rfl) (resT rfl (resT rfl rfl)) rfl ⟨trivial, trivial, trivial⟩

set_option maxHeartbeats 1600000 in
set_option maxRecDepth 100000 in
theorem w_syncmark_Free {p0 : TLabelsStatesEdges} {p1 : List UInt8} {r : Bool × Int} (h : m_syncmark_Free p0 p1 = some r) : Pure Try.prog 14 [HV.agg [HV.int .i64 p0.1, HV.int .i64 p0.2.1, slE eFromLabelTo p0.2.2], HV.str p1] (· = HV.tup [HV.bool r.1, HV.int .i64 r.2]) := by
 unfold m_syncmark_Free at h
 refine Pure.of_body Try.func14 rfl rfl (Nat.le_of_ble_eq_true rfl) fun hf => ?_
 unfold Try.f14
 dsimp only [enumS, Nat.reduceAdd]
 refine AW.rgs rfl fun K hK => ?_
 refine b_op rfl (o_box rfl rfl rfl ?_)
 refine mv rfl rfl ?_
 refine mv rfl rfl ?_
 refine b_fin hK (s' := ⟨[(1, HV.str p1), (2, HV.fptr [HV.int .i64 p0.1, HV.int .i64 p0.2.1, slE eFromLabelTo p0.2.2] 0)], []⟩) (le_q rfl rfl) ?_
 clear hK K
 refine AW.seq ?_
 refine AW.rgs rfl fun K hK => ?_
 refine bv rfl (v_loadF ty24 rfl (l_litA rfl (Nat.le_of_ble_eq_true rfl) rfl)) ?_
 refine mv rfl rfl ?_
 obtain ⟨x1, h2, h⟩ := bS h
 refine b_op rfl (o_call rfl rfl rfl rfl (ACallD.pure0 (w_syncmark_check h2)) ?_)
 refine mv rfl rfl ?_
 refine b_fin hK (s' := ⟨[(1, HV.str p1), (2, HV.fptr [HV.int .i64 p0.1, HV.int .i64 p0.2.1, slE eFromLabelTo p0.2.2] 0), (6, HV.int .i64 x1)], []⟩) (le_q rfl rfl) ?_
 clear hK K
 refine AW.rgs rfl fun K hK => ?_
 refine mv rfl rfl ?_
 refine bv rfl (v_bin rfl rfl b_neq) ?_
 refine b_fin hK (s' := ⟨[(1, HV.str p1), (2, HV.fptr [HV.int .i64 p0.1, HV.int .i64 p0.2.1, slE eFromLabelTo p0.2.2] 0), (6, HV.int .i64 x1), (13, HV.bool (decide (x1 ≠ 0)))], []⟩) (le_q rfl rfl) ?_
 clear hK K
 refine AW.cond rfl (fun hc => ?_) (fun hc => ?_)
 ·have hc := of_decide_eq_true hc
  have h := ifT hc h
  refine AW.rgs rfl fun K hK => ?_
  refine mv rfl rfl ?_
  refine mv rfl rfl ?_
  refine mv rfl rfl ?_
  refine b_fin hK (s' := ⟨[(4, HV.bool false), (5, HV.int .i64 x1)], []⟩) (le_q rfl rfl) ?_
  clear hK K
  refine AW.ret ?_
  have h := Option.some.inj h
  subst h
  exact ret_pure (hs := [HV.bool false, HV.int .i64 x1]) (q := HV.tup [HV.bool false, HV.int .i64 x1]) (.inr rfl) (resT rfl (resT rfl rfl)) rfl ⟨trivial, trivial, trivial⟩
 have hc := of_decide_eq_false hc
 have h := ifF hc h
 refine AW.skip ?_
 refine AW.rgs rfl fun K hK => ?_
 refine bv rfl (v_loadF ty24 rfl (l_litA rfl (Nat.le_of_ble_eq_true rfl) rfl)) ?_
 refine mv rfl rfl ?_
 obtain ⟨x3, h4, h⟩ := bS h
 refine b_op rfl (o_call rfl rfl rfl rfl (ACallD.pure0 (w_language_Accepts h4)) ?_)
 refine mv rfl rfl ?_
 refine bv rfl (v_extract rfl rfl) ?_
 refine bv rfl (v_extract rfl rfl) ?_
 refine mv rfl rfl ?_
 refine mv rfl rfl ?_
 refine b_fin hK (s' := ⟨[(7, HV.bool x3.1), (8, HV.int .i64 x3.2)], []⟩) (le_q rfl rfl) ?_
 clear hK K
 refine AW.seqJ h (S := Bool) (V := Unit) (fun a v => ⟨[(4, HV.bool a), (5, HV.int .i64 x3.2)], []⟩) (fun a5 w6 h => ?_) (fun k7 h => ?_)
 ·refine AW.ret ?_
  have h := Option.some.inj h
  subst h
  exact ret_pure (hs := [HV.bool a5, HV.int .i64 x3.2]) (q := HV.tup [HV.bool a5, HV.int .i64 x3.2]) (.inr rfl) (resT rfl (resT rfl rfl)) rfl ⟨trivial, trivial, trivial⟩
 refine AW.rg rfl fun K hK => ?_
 refine mv rfl rfl ?_
 refine bv rfl (v_bin rfl rfl b_eql) ?_
 refine mv rfl rfl ?_
 by_cases hg8 : x3.2 = 0
 ·have h := ifT hg8 h
  refine b_T rfl rfl rfl rfl (decide_eq_true hg8) (o_val rfl (mv_val rfl rfl).2 ?_)
  refine b_T rfl rfl rfl rfl rfl (o_val rfl (v_not rfl) ?_)
  refine bv rfl (v_pickT rfl rfl rfl) ?_
  refine mv rfl rfl ?_
  refine mv rfl rfl ?_
  refine mv rfl rfl ?_
  refine b_nil (hK _ ?_)
  clear hK K
  exact to_le (s' := ⟨[(4, HV.bool (!x3.1)), (5, HV.int .i64 x3.2)], []⟩) (AS.le_of ⟨rfl, rfl, trivial⟩ trivial) ⟨!x3.1, (), h, rfl⟩
 have h := ifF hg8 h
 refine b_F rfl rfl rfl rfl rfl (decide_eq_false hg8) ?_
 refine b_F rfl rfl rfl rfl rfl rfl ?_
 refine bv rfl (v_pickF rfl rfl rfl) ?_
 refine mv rfl rfl ?_
 refine mv rfl rfl ?_
 refine mv rfl rfl ?_
 refine b_nil (hK _ ?_)
 clear hK K
 exact to_le (s' := ⟨[(4, HV.bool false), (5, HV.int .i64 x3.2)], []⟩) (AS.le_of ⟨rfl, rfl, trivial⟩ trivial) ⟨false, (), h, rfl⟩

set_option maxHeartbeats 1600000 in
set_option maxRecDepth 100000 in
theorem w_slices_Equal_Lint_int {p0 : List (Int)} {p1 : List (Int)} {r : Bool} (h : m_slices_Equal_Lint_int p0 p1 = some r) : Pure Try.prog 16 [slE eInt p0, slE eInt p1] (· = HV.bool r) := by
 unfold m_slices_Equal_Lint_int at h
 refine Pure.of_body Try.func16 rfl rfl (Nat.le_of_ble_eq_true rfl) fun hf => ?_
 unfold Try.f16
 dsimp only [enumS, Nat.reduceAdd]
 refine AW.rgs rfl fun K hK => ?_
 refine mv rfl rfl ?_
 refine b_fin hK (s' := ⟨[(0, slE eInt p0), (1, slE eInt p1)], []⟩) (le_q rfl rfl) ?_
 clear hK K
 refine AW.seq ?_
 refine AW.rgs rfl fun K hK => ?_
 refine mv rfl rfl ?_
 refine bv rfl (v_lenF rfl rfl ty35 rfl) ?_
 refine mv rfl rfl ?_
 refine bv rfl (v_lenF rfl rfl ty35 rfl) ?_
 refine bv rfl (v_bin rfl rfl b_neq) ?_
 refine b_fin hK (s' := ⟨[(0, slE eInt p0), (1, slE eInt p1), (10, HV.bool (decide (((p0).length : Int) ≠ ((p1).length : Int))))], []⟩) (le_q rfl rfl) ?_
 clear hK K
 refine AW.cond rfl (fun hc => ?_) (fun hc => ?_)
 ·have hc := of_decide_eq_true hc
  have h := ifT hc h
  refine AW.rgs rfl fun K hK => ?_
  refine mv rfl rfl ?_
  refine b_fin hK (s' := ⟨[(4, HV.bool false)], []⟩) (le_q rfl rfl) ?_
  clear hK K
  refine AW.ret ?_
  have h := Option.some.inj h
  subst h
  exact ret_pure (hs := [HV.bool false]) (q := HV.bool false) (.inr rfl) (resT rfl rfl) rfl trivial
 have hc := of_decide_eq_false hc
 have h := ifF hc h
 refine AW.skip ?_
 refine AW.seq ?_
 refine AW.rgs rfl fun K hK => ?_
 refine mv rfl rfl ?_
 refine bv rfl (v_lenF rfl rfl ty35 rfl) ?_
 refine mv rfl rfl ?_
 refine b_fin hK (s' := ⟨[(0, slE eInt p0), (1, slE eInt p1), (12, HV.int .i64 ((p0).length : Int)), (13, HV.int .i64 0)], []⟩) (le_q rfl rfl) ?_
 clear hK K
 refine AW.lpR h (by first | exact up_then | exact up_to) (S := Int) (V := Unit) (fun a v => ⟨[(0, slE eInt p0), (1, slE eInt p1), (12, HV.int .i64 ((p0).length : Int)), (13, HV.int .i64 a)], []⟩) ?_ (X := Unit) (W := Unit) (fun a v => ⟨[], []⟩) (fun a9 w10 h => ?_) (fun a1 w2 st3 h hr4=> ?_)
 ·exact to_le (s' := ⟨[(0, slE eInt p0), (1, slE eInt p1), (12, HV.int .i64 ((p0).length : Int)), (13, HV.int .i64 0)], []⟩) (AS.le_of ⟨rfl, rfl, rfl, rfl, trivial⟩ trivial) ⟨(), rfl⟩
 ·refine AW.rgs rfl fun K hK => ?_
  refine mv rfl rfl ?_
  refine b_fin hK (s' := ⟨[(4, HV.bool true)], []⟩) (le_q rfl rfl) ?_
  clear hK K
  refine AW.ret ?_
  have h := Option.some.inj h
  subst h
  exact ret_pure (hs := [HV.bool true]) (q := HV.bool true) (.inr rfl) (resT rfl rfl) rfl trivial
 refine AW.rgs rfl fun K hK => ?_
 refine bv rfl (v_bin rfl rfl b_lss) ?_
 refine b_fin hK (s' := ⟨[(0, slE eInt p0), (1, slE eInt p1), (12, HV.int .i64 ((p0).length : Int)), (13, HV.int .i64 a1), (14, HV.bool (decide (a1 < ((p0).length : Int))))], []⟩) (le_q rfl rfl) ?_
 clear hK K
 refine AW.cseq rfl (fun hc => ?_) (fun hc => ?_)
 ·have hc := of_decide_eq_true hc
  have h := ifT hc h
  refine AW.skip ?_
  refine AW.seq (AW.block ?_)
  refine AW.rgs rfl fun K hK => ?_
  refine mv rfl rfl ?_
  refine mv rfl rfl ?_
  refine b_fin hK (s' := ⟨[(0, slE eInt p0), (1, slE eInt p1), (5, HV.int .i64 a1), (12, HV.int .i64 ((p0).length : Int)), (13, HV.int .i64 a1)], []⟩) (le_q rfl rfl) ?_
  clear hK K
  refine AW.dgs 9 follows rfl rfl fun K hK => ?_
  refine sm rfl rfl ?_
  refine sm rfl rfl ?_
  obtain ⟨x5, h6, h⟩ := bS h
  refine sv rfl (v_idxF ty35 es35 rfl rfl (idx_lt h6)) ?_
  refine sv rfl (v_loadF ty3 rfl (l_cell eInt h6 (o := 0) rfl rfl)) ?_
  refine sm rfl rfl ?_
  refine sm rfl rfl ?_
  obtain ⟨x7, h8, h⟩ := bS h
  refine sv rfl (v_idxF ty35 es35 rfl rfl (idx_lt h8)) ?_
  refine sv rfl (v_loadF ty3 rfl (l_cell eInt h8 (o := 0) rfl rfl)) ?_
  refine sv rfl (v_bin rfl rfl b_neq) ?_
  refine s_nil ?_
  refine b_fin hK (s' := ⟨[(0, slE eInt p0), (1, slE eInt p1), (12, HV.int .i64 ((p0).length : Int)), (13, HV.int .i64 a1), (24, HV.bool (decide (x5 ≠ x7)))], []⟩) (le_q rfl rfl) ?_
  clear hK K
  refine AW.cond rfl (fun hc => ?_) (fun hc => ?_)
  ·have hc := of_decide_eq_true hc
   have h := ifT hc h
   refine AW.rgs rfl fun K hK => ?_
   refine mv rfl rfl ?_
   refine b_fin hK (s' := ⟨[(4, HV.bool false)], []⟩) (le_q rfl rfl) ?_
   clear hK K
   have h := hr4 _ h
   refine AW.ret ?_
   have h := Option.some.inj h
   subst h
   exact ret_pure (hs := [HV.bool false]) (q := HV.bool false) (.inr rfl) (resT rfl rfl) rfl trivial
  have hc := of_decide_eq_false hc
  have h := ifF hc h
  refine AW.skip ?_
  refine AW.rg rfl fun K hK => ?_
  refine bv rfl (v_bin rfl rfl b_add) ?_
  refine mv rfl rfl ?_
  refine b_nil (hK _ ?_)
  clear hK K
  exact to_le (s' := ⟨[(0, slE eInt p0), (1, slE eInt p1), (12, HV.int .i64 ((p0).length : Int)), (13, HV.int .i64 (IntKind.wrap .i64 (a1 + 1)))], []⟩) (AS.le_of ⟨rfl, rfl, rfl, rfl, trivial⟩ trivial) ⟨IntKind.wrap .i64 (a1 + 1), (), h, rfl⟩
 have hc := of_decide_eq_false hc
 have h := ifF hc h
 refine AW.exit ?_
 exact to_le (s' := ⟨[], []⟩) (AS.le_of trivial trivial) ⟨(), (), h, rfl⟩

set_option maxHeartbeats 1600000 in
set_option maxRecDepth 100000 in
theorem w_word_occurrences (p0 : List UInt8) (p1 : List UInt8) : Pure Try.prog 65 [HV.str p0, HV.str p1] (· = HV.fn (.func 86) [] [HV.fptr [HV.str p1] 0, HV.fptr [HV.str p0] 0]) := by
 refine Pure.of_body Try.func65 rfl rfl (Nat.le_of_ble_eq_true rfl) fun hf => ?_
 unfold Try.f65
 dsimp only [enumS, Nat.reduceAdd]
 refine AW.rgs rfl fun K hK => ?_
 refine b_op rfl (o_box rfl rfl rfl ?_)
 refine b_op rfl (o_box rfl rfl rfl ?_)
 refine mv rfl rfl ?_
 refine b_fin hK (s' := ⟨[(2, HV.fptr [HV.str p0] 0), (3, HV.fptr [HV.str p1] 0)], []⟩) (le_q rfl rfl) ?_
 clear hK K
 refine AW.rgs rfl fun K hK => ?_
 refine bv rfl (v_func rfl rfl) ?_
 refine mv rfl rfl ?_
 refine b_fin hK (s' := ⟨[(4, HV.fn (.func 86) [] [HV.fptr [HV.str p1] 0, HV.fptr [HV.str p0] 0])], []⟩) (le_q rfl rfl) ?_
 clear hK K
 refine AW.ret ?_
 exact ret_pure (hs := [HV.fn (.func 86) [] [HV.fptr [HV.str p1] 0, HV.fptr [HV.str p0] 0]]) (q := HV.fn (.func 86) [] [HV.fptr [HV.str p1] 0, HV.fptr [HV.str p0] 0]) (.inr rfl) (resT rfl rfl) rfl ⟨trivial, ⟨⟨trivial, trivial⟩, ⟨trivial, trivial⟩, trivial⟩⟩

end Go.AW

namespace Go.AW
open Go Go.Proofs
set_option linter.unusedVariables false
set_option maxHeartbeats 1600000 in
set_option maxRecDepth 100000 in
theorem w_word_Find {p0 : List UInt8} {p1 : List UInt8} {r : (List (Int))} (h : m_word_Find p0 p1 = some r) : Pure Try.prog 39 [HV.str p0, HV.str p1] (· = slE eInt r) := by
 unfold m_word_Find at h
 refine Pure.of_body Try.func39 rfl rfl (Nat.le_of_ble_eq_true rfl) fun hf => ?_
 unfold Try.f39
 dsimp only [enumS, Nat.reduceAdd]
 refine AW.rgs rfl fun K hK => ?_
 refine mv rfl rfl ?_
 refine b_fin hK (s' := ⟨[(0, HV.str p0), (1, HV.str p1)], []⟩) (le_q rfl rfl) ?_
 clear hK K
 refine AW.rgs rfl fun K hK => ?_
 refine b_op rfl (o_alloc (fid := 39) (zs := [HV.v (.slice none 0 0)]) 39005 rfl rfl ty35 rfl (fun v1 => ?_))
 refine b_fin hK (s' := ⟨[(0, HV.str p0), (1, HV.str p1), (5, HV.ptr 39005 v1 0)], [(39005, v1, .arr 1 35 [HV.v (.slice none 0 0)])]⟩) (le_q rfl rfl) ?_
 clear hK K
 refine AW.seq ?_
 refine AW.rgs rfl fun K hK => ?_
 refine mv rfl rfl ?_
 refine mv rfl rfl ?_
 refine b_op rfl (o_call rfl rfl rfl rfl (ACallD.pure0 (w_word_occurrences p0 p1)) ?_)
 refine b_fin hK (s' := ⟨[(5, HV.ptr 39005 v1 0), (9, HV.fn (.func 86) [] [HV.fptr [HV.str p1] 0, HV.fptr [HV.str p0] 0])], [(39005, v1, .arr 1 35 [HV.v (.slice none 0 0)])]⟩) (le_q rfl rfl) ?_
 clear hK K
 refine AW.block ?_
 refine AW.to (to_ownC 39014 39005 v1 1 0 eInt.k 3 35 rfl rfl (by decide) fun v2 => ?_)
 refine AW.to (to_le (s' := ⟨[(5, HV.ptr 39005 v1 0), (9, HV.fn (.func 86) [] [HV.fptr [HV.str p1] 0, HV.fptr [HV.str p0] 0])], [(39005, v1, .arr 1 35 [HV.ar 39014 v2 eInt.k 0 ((([] : List Int)).length)]), (39014, v2, .arr eInt.k 3 (eInt.E ([] : List Int)))]⟩) (AS.le_of ⟨rfl, rfl, trivial⟩ ⟨hle rfl (by first | rfl | simp only [List.length_set, sortI_len, sortS_len]), rfl, trivial⟩) ?_)
 obtain ⟨L3, h4, h⟩ := bS h
 refine AW.rangeY (c := .ret) 39900 (fun x => [HV.int .i64 x]) h (by first | exact up_then | exact up_to) rfl (iy_word_occurrences h4) (S := (List Int)) (V := Nat) (fun a v => [(39005, v1, .arr 1 35 [HV.ar 39014 v eInt.k 0 ((a).length)]), (39014, v, .arr eInt.k 3 (eInt.E a))]) v2 (X := Unit) (W := Unit) (fun _ _ => []) (fun _ _ => rfl) (fun _ _ => rfl) rfl (fun _ => rfl) (fun a13 w14 h => ?_) (fun a15 w16 h => ?_) (fun Lo l10 v8 a5 x7 w6 st9 h => ?_)
 ·refine AW.rgs rfl fun K hK => ?_
  refine bv rfl (v_loadP ty35 rfl rfl (l_lit rfl rfl)) ?_
  refine mv rfl rfl ?_
  refine b_fin hK (s' := ⟨[(4, HV.ar 39014 w14 eInt.k 0 ((a13).length))], [(39014, w14, .arr eInt.k 3 (eInt.E a13))]⟩) (le_q rfl rfl) ?_
  clear hK K
  refine AW.to (to_frz 2 [(39014, w14, .arr eInt.k 3 (eInt.E a13))] ⟨[(4, slE eInt a13)], []⟩ ⟨⟨_, rfl, frz_slE eInt (l := a13) rfl fun _ _ => rfl⟩, trivial⟩ trivial ⟨rfl, trivial⟩ ⟨rfl, trivial⟩ ?_)
  refine AW.ret ?_
  have h := Option.some.inj h
  subst h
  exact ret_pure (hs := [slE eInt a13]) (q := slE eInt a13) (.inr rfl) (resT rfl rfl) rfl (clean_slE fun _ _ => ⟨trivial, trivial⟩)
 ·cases h
 refine AW.rg rfl fun K hK => ?_
 refine mv rfl rfl ?_
 refine b_nil (hK _ ?_)
 clear hK K
 refine ⟨rfl, rfl, ?_⟩
 refine AW.block ?_
 refine AW.rg rfl fun K hK => ?_
 refine bv rfl (v_loadP ty35 rfl rfl (l_lit rfl rfl)) ?_
 refine mv rfl rfl ?_
 refine b_op rfl (o_bsl rfl rfl (as_of (cs := [HV.int .i64 x7]) ty35 ty3 rfl rfl rfl rfl rfl) ?_)
 obtain ⟨h12, h⟩ := ifN h
 refine b_op rfl (o_appE eInt (l := a5) (m := [x7]) rfl rfl ty35 ty35 ty3 rfl rfl rfl rfl rfl h12 (fun v11 => ?_))
 refine b_op rfl (o_store (cs := [HV.ar 39014 v11 eInt.k 0 ((a5 ++ [x7]).length)]) (zs := [HV.ar 39014 v11 eInt.k 0 ((a5 ++ [x7]).length)]) rfl rfl rfl ty35 rfl rfl rfl rfl rfl ?_)
 refine b_nil (hK _ ?_)
 clear hK K
 exact ⟨a5 ++ [x7], v11, h, (AS.le_of trivial ⟨rfl, rfl, rfl, trivial⟩)⟩

set_option maxHeartbeats 1600000 in
set_option maxRecDepth 100000 in
theorem w_syncmark_Occurs {p0 : List UInt8} {p1 : List UInt8} {r : (List (Int))} (h : m_syncmark_Occurs p0 p1 = some r) : Pure Try.prog 17 [HV.str p0, HV.str p1] (· = slE eInt r) := by
 unfold m_syncmark_Occurs at h
 refine Pure.of_body Try.func17 rfl rfl (Nat.le_of_ble_eq_true rfl) fun hf => ?_
 unfold Try.f17
 dsimp only [enumS, Nat.reduceAdd]
 refine AW.rgs rfl fun K hK => ?_
 refine mv rfl rfl ?_
 refine b_fin hK (s' := ⟨[(0, HV.str p0), (1, HV.str p1)], []⟩) (le_q rfl rfl) ?_
 clear hK K
 refine AW.rgs rfl fun K hK => ?_
 refine mv rfl rfl ?_
 refine mv rfl rfl ?_
 obtain ⟨x1, h2, h⟩ := bS h
 refine b_op rfl (o_call rfl rfl rfl rfl (ACallD.pure0 (w_word_Find h2)) ?_)
 refine mv rfl rfl ?_
 refine b_fin hK (s' := ⟨[(4, slE eInt x1)], []⟩) (le_q rfl rfl) ?_
 clear hK K
 refine AW.ret ?_
 have h := Option.some.inj h
 subst h
 exact ret_pure (hs := [slE eInt x1]) (q := slE eInt x1) (.inr rfl) (resT rfl rfl) rfl (clean_slE fun _ _ => ⟨trivial, trivial⟩)

set_option maxHeartbeats 1600000 in
set_option maxRecDepth 100000 in
theorem w_syncmark_Overlaps {p0 : List UInt8} {r : (List (Int))} (h : m_syncmark_Overlaps p0 = some r) : Pure Try.prog 19 [HV.str p0] (· = slE eInt r) := by
 unfold m_syncmark_Overlaps at h
 refine Pure.of_body Try.func19 rfl rfl (Nat.le_of_ble_eq_true rfl) fun hf => ?_
 unfold Try.f19
 dsimp only [enumS, Nat.reduceAdd]
 refine AW.rgs rfl fun K hK => ?_
 refine mv rfl rfl ?_
 refine b_fin hK (s' := ⟨[(0, HV.str p0)], []⟩) (le_q rfl rfl) ?_
 clear hK K
 refine AW.rgs rfl fun K hK => ?_
 refine mv rfl rfl ?_
 refine b_fin hK (s' := ⟨[(0, HV.str p0), (3, HV.v (.slice none 0 0))], []⟩) (le_q rfl rfl) ?_
 clear hK K
 refine AW.seq ?_
 refine AW.rgs rfl fun K hK => ?_
 refine mv rfl rfl ?_
 refine b_fin hK (s' := ⟨[(0, HV.str p0), (3, HV.v (.slice none 0 0)), (4, HV.int .i64 1)], []⟩) (le_q rfl rfl) ?_
 clear hK K
 refine AW.lpX h (by first | exact up_then | exact up_to) (S := Int × (List Int)) (V := Nat) (fun a v => ⟨[(0, HV.str p0), (3, HV.ar 19019 v eInt.k 0 ((a.2).length)), (4, HV.int .i64 a.1)], [(19019, v, .arr eInt.k 3 (eInt.E a.2))]⟩) ?_ (X := (List Int)) (W := Nat) (fun a v => ⟨[(3, HV.ar 19019 v eInt.k 0 ((a).length))], [(19019, v, .arr eInt.k 3 (eInt.E a))]⟩) (fun a14 w15 h => ?_) (fun a1 w2 st3 h => ?_)
 ·refine to_bind (to_own 19019 3 eInt.k 3 rfl fun v13 => ?_)
  exact to_le (s' := ⟨[(0, HV.str p0), (3, HV.ar 19019 v13 eInt.k 0 ((([] : List Int)).length)), (4, HV.int .i64 1)], [(19019, v13, .arr eInt.k 3 (eInt.E ([] : List Int)))]⟩) (AS.le_of ⟨rfl, arl (by first | rfl | simp only [List.length_set, sortI_len, sortS_len]), rfl, trivial⟩ ⟨rfl, trivial⟩) ⟨v13, rfl⟩
 ·refine AW.rgs rfl fun K hK => ?_
  refine mv rfl rfl ?_
  refine mv rfl rfl ?_
  refine b_fin hK (s' := ⟨[(2, HV.ar 19019 w15 eInt.k 0 ((a14).length))], [(19019, w15, .arr eInt.k 3 (eInt.E a14))]⟩) (le_q rfl rfl) ?_
  clear hK K
  refine AW.to (to_frz 2 [(19019, w15, .arr eInt.k 3 (eInt.E a14))] ⟨[(2, slE eInt a14)], []⟩ ⟨⟨_, rfl, frz_slE eInt (l := a14) rfl fun _ _ => rfl⟩, trivial⟩ trivial ⟨rfl, trivial⟩ ⟨rfl, trivial⟩ ?_)
  refine AW.ret ?_
  have h := Option.some.inj h
  subst h
  exact ret_pure (hs := [slE eInt a14]) (q := slE eInt a14) (.inr rfl) (resT rfl rfl) rfl (clean_slE fun _ _ => ⟨trivial, trivial⟩)
 refine AW.seq ?_
 refine AW.rgs rfl fun K hK => ?_
 refine mv rfl rfl ?_
 refine mv rfl rfl ?_
 refine bv rfl (v_lenS rfl rfl ty9 rfl) ?_
 refine bv rfl (v_bin rfl rfl b_lss) ?_
 refine b_fin hK (s' := ⟨[(0, HV.str p0), (3, HV.ar 19019 w2 eInt.k 0 ((a1.2).length)), (4, HV.int .i64 a1.1), (8, HV.bool (decide (a1.1 < ((p0).length : Int))))], [(19019, w2, .arr eInt.k 3 (eInt.E a1.2))]⟩) (le_q rfl rfl) ?_
 clear hK K
 refine AW.cond rfl (fun hc => ?_) (fun hc => ?_)
 ·have hc := of_decide_eq_true hc
  have h := ifT hc h
  refine AW.skip ?_
  refine AW.seqJ h (S := (List Int)) (V := Nat) (fun a v => ⟨[(0, HV.str p0), (3, HV.ar 19019 v eInt.k 0 ((a).length)), (4, HV.int .i64 a1.1)], [(19019, v, .arr eInt.k 3 (eInt.E a))]⟩) (fun a5 w6 h => ?_) (fun k7 h => ?_)
  ·refine AW.rg rfl fun K hK => ?_
   refine mv rfl rfl ?_
   refine bv rfl (v_bin rfl rfl b_add) ?_
   refine mv rfl rfl ?_
   refine b_nil (hK _ ?_)
   clear hK K
   exact to_le (s' := ⟨[(0, HV.str p0), (3, HV.ar 19019 w6 eInt.k 0 ((a5).length)), (4, HV.int .i64 (IntKind.wrap .i64 (a1.1 + 1)))], [(19019, w6, .arr eInt.k 3 (eInt.E a5))]⟩) (AS.le_of ⟨rfl, rfl, rfl, trivial⟩ ⟨rfl, trivial⟩) ⟨(IntKind.wrap .i64 (a1.1 + 1), a5), w6, h, rfl⟩
  refine AW.block ?_
  refine AW.rgs rfl fun K hK => ?_
  refine mv rfl rfl ?_
  refine mv rfl rfl ?_
  refine mv rfl rfl ?_
  obtain ⟨h8, h⟩ := ifN h
  refine bv rfl (v_sliceS ty9 rfl rfl rfl h8) ?_
  obtain ⟨x9, h10, h⟩ := bS h
  refine b_op rfl (o_call rfl rfl rfl rfl (ACallD.pure0 (w_strings_HasSuffix h10)) ?_)
  refine b_fin hK (s' := ⟨[(0, HV.str p0), (3, HV.ar 19019 w2 eInt.k 0 ((a1.2).length)), (4, HV.int .i64 a1.1), (15, HV.bool x9)], [(19019, w2, .arr eInt.k 3 (eInt.E a1.2))]⟩) (le_q rfl rfl) ?_
  clear hK K
  refine AW.cond rfl (fun hc => ?_) (fun hc => ?_)
  ·have h := ifT hc h
   refine AW.rg rfl fun K hK => ?_
   refine mv rfl rfl ?_
   refine mv rfl rfl ?_
   refine b_op rfl (o_bsl rfl rfl (as_of (cs := [HV.int .i64 a1.1]) ty35 ty3 rfl rfl rfl rfl rfl) ?_)
   obtain ⟨h12, h⟩ := ifN h
   refine b_op rfl (o_appE eInt (l := a1.2) (m := [a1.1]) rfl rfl ty35 ty35 ty3 rfl rfl rfl rfl rfl h12 (fun v11 => ?_))
   refine mv rfl rfl ?_
   refine b_nil (hK _ ?_)
   clear hK K
   exact to_le (s' := ⟨[(0, HV.str p0), (3, HV.ar 19019 v11 eInt.k 0 ((a1.2 ++ [a1.1]).length)), (4, HV.int .i64 a1.1)], [(19019, v11, .arr eInt.k 3 (eInt.E (a1.2 ++ [a1.1])))]⟩) (AS.le_of ⟨rfl, rfl, rfl, trivial⟩ ⟨rfl, trivial⟩) ⟨a1.2 ++ [a1.1], v11, h, rfl⟩
  have h := ifF (bF' hc) h
  refine AW.skip ?_
  exact to_le (s' := ⟨[(0, HV.str p0), (3, HV.ar 19019 w2 eInt.k 0 ((a1.2).length)), (4, HV.int .i64 a1.1)], [(19019, w2, .arr eInt.k 3 (eInt.E a1.2))]⟩) (AS.le_of ⟨rfl, rfl, rfl, trivial⟩ ⟨rfl, trivial⟩) ⟨a1.2, w2, h, rfl⟩
 have hc := of_decide_eq_false hc
 have h := ifF hc h
 refine AW.exit ?_
 exact to_le (s' := ⟨[(3, HV.ar 19019 w2 eInt.k 0 ((a1.2).length))], [(19019, w2, .arr eInt.k 3 (eInt.E a1.2))]⟩) (AS.le_of ⟨rfl, trivial⟩ ⟨rfl, trivial⟩) ⟨a1.2, w2, h, rfl⟩

set_option maxHeartbeats 1600000 in
set_option maxRecDepth 100000 in
theorem w_law54_awakeG  {r : Bool} (h : m_law54_awakeG  = some r) : Pure Try.prog 9 [] (· = HV.bool r) := by
 unfold m_law54_awakeG at h
 refine Pure.of_body Try.func9 rfl rfl (Nat.le_of_ble_eq_true rfl) fun hf => ?_
 unfold Try.f9
 dsimp only [enumS, Nat.reduceAdd]
 refine AW.rgs rfl fun K hK => ?_
 refine mv rfl rfl ?_
 refine b_fin hK (s' := ⟨[], []⟩) (le_q rfl rfl) ?_
 clear hK K
 refine AW.rgs rfl fun K hK => ?_
 refine b_op rfl (o_build (cs := [HV.int .i64 0, HV.int .i64 0, HV.int .i64 0]) rfl (bl_of ty53 rfl rfl rfl rfl) ?_)
 refine b_op rfl (o_build (cs := [HV.int .i64 0, HV.int .i64 1, HV.int .i64 1]) rfl (bl_of ty53 rfl rfl rfl rfl) ?_)
 refine b_op rfl (o_build (cs := [HV.int .i64 1, HV.int .i64 0, HV.int .i64 0]) rfl (bl_of ty53 rfl rfl rfl rfl) ?_)
 refine b_op rfl (o_bsl rfl rfl (as_of (cs := [HV.int .i64 0, HV.int .i64 0, HV.int .i64 0, HV.int .i64 0, HV.int .i64 1, HV.int .i64 1, HV.int .i64 1, HV.int .i64 0, HV.int .i64 0]) ty22 ty53 rfl rfl rfl rfl rfl) ?_)
 refine b_op rfl (o_build (cs := [HV.int .i64 2, HV.int .i64 2, slE eFromLabelTo [(0, 0, 0), (0, 1, 1), (1, 0, 0)]]) rfl (bl_of ty24 rfl rfl rfl rfl) ?_)
 refine b_op rfl (o_alloc (fid := 9) (zs := [HV.int .i64 0, HV.int .i64 0, HV.v (.slice none 0 0)]) 9001 rfl rfl ty24 rfl (fun v1 => ?_))
 refine b_op rfl (o_store (cs := [HV.int .i64 2, HV.int .i64 2, slE eFromLabelTo [(0, 0, 0), (0, 1, 1), (1, 0, 0)]]) (zs := [HV.int .i64 2, HV.int .i64 2, slE eFromLabelTo [(0, 0, 0), (0, 1, 1), (1, 0, 0)]]) rfl rfl rfl ty24 rfl rfl rfl rfl rfl ?_)
 refine b_fin hK (s' := ⟨[(1, HV.ptr 9001 v1 0)], [(9001, v1, .arr 3 24 [HV.int .i64 2, HV.int .i64 2, slE eFromLabelTo [(0, 0, 0), (0, 1, 1), (1, 0, 0)]])]⟩) (le_q rfl rfl) ?_
 clear hK K
 refine AW.rgs rfl fun K hK => ?_
 refine bv rfl (v_loadP ty24 rfl rfl (l_litA rfl (Nat.le_of_ble_eq_true rfl) rfl)) ?_
 obtain ⟨x2, h3, h⟩ := bS h
 refine b_op rfl (o_call rfl rfl rfl rfl (ACallD.pure0 (w_syncmark_Valid h3)) ?_)
 refine mv rfl rfl ?_
 refine bv rfl (v_extract rfl rfl) ?_
 refine bv rfl (v_extract rfl rfl) ?_
 refine mv rfl rfl ?_
 refine mv rfl rfl ?_
 refine b_fin hK (s' := ⟨[(1, HV.ptr 9001 v1 0), (2, HV.bool x2.1), (3, HV.int .i64 x2.2)], [(9001, v1, .arr 3 24 [HV.int .i64 2, HV.int .i64 2, slE eFromLabelTo [(0, 0, 0), (0, 1, 1), (1, 0, 0)]])]⟩) (le_q rfl rfl) ?_
 clear hK K
 refine AW.rgs rfl fun K hK => ?_
 refine bv rfl (v_loadP ty24 rfl rfl (l_litA rfl (Nat.le_of_ble_eq_true rfl) rfl)) ?_
 obtain ⟨x4, h5, h⟩ := bS h
 refine b_op rfl (o_call rfl rfl rfl rfl (ACallD.pure0 (w_syncmark_Bad h5)) ?_)
 refine mv rfl rfl ?_
 refine bv rfl (v_extract rfl rfl) ?_
 refine bv rfl (v_extract rfl rfl) ?_
 refine bv rfl (v_extract rfl rfl) ?_
 refine mv rfl rfl ?_
 refine mv rfl rfl ?_
 refine mv rfl rfl ?_
 refine b_fin hK (s' := ⟨[(1, HV.ptr 9001 v1 0), (2, HV.bool x2.1), (3, HV.int .i64 x2.2), (4, HV.str x4.1), (5, HV.bool x4.2.1), (6, HV.int .i64 x4.2.2)], [(9001, v1, .arr 3 24 [HV.int .i64 2, HV.int .i64 2, slE eFromLabelTo [(0, 0, 0), (0, 1, 1), (1, 0, 0)]])]⟩) (le_q rfl rfl) ?_
 clear hK K
 refine AW.rgs rfl fun K hK => ?_
 refine bv rfl (v_loadP ty24 rfl rfl (l_litA rfl (Nat.le_of_ble_eq_true rfl) rfl)) ?_
 obtain ⟨x6, h7, h⟩ := bS h
 refine b_op rfl (o_call rfl rfl rfl rfl (ACallD.pure0 (w_syncmark_Valid h7)) ?_)
 refine mv rfl rfl ?_
 refine bv rfl (v_extract rfl rfl) ?_
 refine bv rfl (v_extract rfl rfl) ?_
 refine mv rfl rfl ?_
 refine mv rfl rfl ?_
 refine b_fin hK (s' := ⟨[(1, HV.ptr 9001 v1 0), (2, HV.bool x2.1), (3, HV.int .i64 x2.2), (4, HV.str x4.1), (5, HV.bool x4.2.1), (6, HV.int .i64 x4.2.2), (7, HV.bool x6.1), (8, HV.int .i64 x6.2)], [(9001, v1, .arr 3 24 [HV.int .i64 2, HV.int .i64 2, slE eFromLabelTo [(0, 0, 0), (0, 1, 1), (1, 0, 0)]])]⟩) (le_q rfl rfl) ?_
 clear hK K
 refine AW.rgs rfl fun K hK => ?_
 refine bv rfl (v_loadP ty24 rfl rfl (l_litA rfl (Nat.le_of_ble_eq_true rfl) rfl)) ?_
 obtain ⟨x8, h9, h⟩ := bS h
 refine b_op rfl (o_call rfl rfl rfl rfl (ACallD.pure0 (w_syncmark_Free h9)) ?_)
 refine mv rfl rfl ?_
 refine bv rfl (v_extract rfl rfl) ?_
 refine bv rfl (v_extract rfl rfl) ?_
 refine mv rfl rfl ?_
 refine mv rfl rfl ?_
 refine b_fin hK (s' := ⟨[(2, HV.bool x2.1), (3, HV.int .i64 x2.2), (4, HV.str x4.1), (5, HV.bool x4.2.1), (6, HV.int .i64 x4.2.2), (7, HV.bool x6.1), (8, HV.int .i64 x6.2), (9, HV.bool x8.1), (10, HV.int .i64 x8.2)], []⟩) (le_q rfl rfl) ?_
 clear hK K
 refine AW.seqJ h (S := Bool) (V := Unit) (fun a v => ⟨[(0, HV.bool a)], []⟩) (fun a10 w11 h => ?_) (fun k12 h => ?_)
 ·refine AW.ret ?_
  have h := Option.some.inj h
  subst h
  exact ret_pure (hs := [HV.bool a10]) (q := HV.bool a10) (.inr rfl) (resT rfl rfl) rfl trivial
 refine AW.rg rfl fun K hK => ?_
 refine mv rfl rfl ?_
 refine bv rfl (v_bin rfl rfl b_eql) ?_
 refine mv rfl rfl ?_
 by_cases hg30 : x2.2 = 0
 ·have h := ifT hg30 h
  refine b_T rfl rfl rfl rfl (decide_eq_true hg30) (o_val rfl (mv_val rfl rfl).2 ?_)
  refine b_T rfl rfl rfl rfl rfl (o_val rfl (v_bin rfl rfl b_eql) ?_)
  refine bv rfl (v_pickT rfl rfl rfl) ?_
  refine mv rfl rfl ?_
  by_cases hg29 : x4.2.2 = 0
  ·have h := ifT hg29 h
   refine b_T rfl rfl rfl rfl (decide_eq_true hg29) (o_val rfl (mv_val rfl rfl).2 ?_)
   refine b_T rfl rfl rfl rfl rfl (o_val rfl (v_bin rfl rfl b_eql) ?_)
   refine bv rfl (v_pickT rfl rfl rfl) ?_
   refine mv rfl rfl ?_
   by_cases hg28 : x6.2 = 0
   ·have h := ifT hg28 h
    refine b_T rfl rfl rfl rfl (decide_eq_true hg28) (o_val rfl (mv_val rfl rfl).2 ?_)
    refine b_T rfl rfl rfl rfl rfl (o_val rfl (v_bin rfl rfl b_eql) ?_)
    refine bv rfl (v_pickT rfl rfl rfl) ?_
    refine mv rfl rfl ?_
    by_cases hg27 : x8.2 = 0
    ·have h := ifT hg27 h
     refine b_T rfl rfl rfl rfl (decide_eq_true hg27) (o_val rfl (mv_val rfl rfl).2 ?_)
     refine b_T rfl rfl rfl rfl rfl (o_val rfl (v_not rfl) ?_)
     refine bv rfl (v_pickT rfl rfl rfl) ?_
     refine mv rfl rfl ?_
     by_cases hg26 : (!x2.1) = true
     ·have h := ifT hg26 h
      refine b_T rfl rfl rfl rfl hg26 (o_val rfl (mv_val rfl rfl).2 ?_)
      refine b_T rfl rfl rfl rfl rfl (o_val rfl (v_bin rfl rfl b_seql) ?_)
      refine bv rfl (v_pickT rfl rfl rfl) ?_
      refine mv rfl rfl ?_
      by_cases hg25 : x4.1 = [49]
      ·have h := ifT hg25 h
       refine b_T rfl rfl rfl rfl (decide_eq_true hg25) (o_val rfl (mv_val rfl rfl).2 ?_)
       refine bv rfl (v_pickT rfl rfl rfl) ?_
       refine mv rfl rfl ?_
       by_cases hg24 : x4.2.1 = true
       ·have h := ifT hg24 h
        refine b_T rfl rfl rfl rfl hg24 (o_val rfl (mv_val rfl rfl).2 ?_)
        refine bv rfl (v_pickT rfl rfl rfl) ?_
        refine mv rfl rfl ?_
        by_cases hg23 : x6.1 = true
        ·have h := ifT hg23 h
         refine b_T rfl rfl rfl rfl hg23 (o_val rfl (mv_val rfl rfl).2 ?_)
         refine bv rfl (v_pickT rfl rfl rfl) ?_
         refine mv rfl rfl ?_
         by_cases hg22 : x8.1 = true
         ·have h := ifT hg22 h
          obtain ⟨x13, h14, h⟩ := bS h
          refine b_T rfl rfl rfl rfl hg22 (o_call rfl rfl rfl rfl (ACallD.pure0 (w_syncmark_Overlaps h14)) ?_)
          refine b_T rfl rfl rfl rfl rfl (o_bsl rfl rfl (as_of (cs := [HV.int .i64 1]) ty35 ty3 rfl rfl rfl rfl rfl) ?_)
          obtain ⟨x15, h16, h⟩ := bS h
          refine b_T rfl rfl rfl rfl rfl (o_call rfl rfl rfl rfl (ACallD.pure0 (w_slices_Equal_Lint_int h16)) ?_)
          refine bv rfl (v_pickT rfl rfl rfl) ?_
          refine mv rfl rfl ?_
          by_cases hg21 : x15 = true
          ·have h := ifT hg21 h
           obtain ⟨x17, h18, h⟩ := bS h
           refine b_T rfl rfl rfl rfl hg21 (o_call rfl rfl rfl rfl (ACallD.pure0 (w_syncmark_Occurs h18)) ?_)
           refine b_T rfl rfl rfl rfl rfl (o_bsl rfl rfl (as_of (cs := [HV.int .i64 0, HV.int .i64 1, HV.int .i64 2, HV.int .i64 3]) ty35 ty3 rfl rfl rfl rfl rfl) ?_)
           obtain ⟨x19, h20, h⟩ := bS h
           refine b_T rfl rfl rfl rfl rfl (o_call rfl rfl rfl rfl (ACallD.pure0 (w_slices_Equal_Lint_int h20)) ?_)
           refine bv rfl (v_pickT rfl rfl rfl) ?_
           refine mv rfl rfl ?_
           refine b_nil (hK _ ?_)
           clear hK K
           exact to_le (s' := ⟨[(0, HV.bool x19)], []⟩) (AS.le_of ⟨rfl, trivial⟩ trivial) ⟨x19, (), h, rfl⟩
          have h := ifF hg21 h
          refine b_F rfl rfl rfl rfl rfl (bF hg21) ?_
          refine b_F rfl rfl rfl rfl rfl rfl ?_
          refine b_F rfl rfl rfl rfl rfl rfl ?_
          refine bv rfl (v_pickF rfl rfl rfl) ?_
          refine mv rfl rfl ?_
          refine b_nil (hK _ ?_)
          clear hK K
          exact to_le (s' := ⟨[(0, HV.bool false)], []⟩) (AS.le_of ⟨rfl, trivial⟩ trivial) ⟨false, (), h, rfl⟩
         have h := ifF hg22 h
         refine b_F rfl rfl rfl rfl rfl (bF hg22) ?_
         refine b_F rfl rfl rfl rfl rfl rfl ?_
         refine b_F rfl rfl rfl rfl rfl rfl ?_
         refine bv rfl (v_pickF rfl rfl rfl) ?_
         refine mv rfl rfl ?_
         refine b_F rfl rfl rfl rfl rfl rfl ?_
         refine b_F rfl rfl rfl rfl rfl rfl ?_
         refine b_F rfl rfl rfl rfl rfl rfl ?_
         refine bv rfl (v_pickF rfl rfl rfl) ?_
         refine mv rfl rfl ?_
         refine b_nil (hK _ ?_)
         clear hK K
         exact to_le (s' := ⟨[(0, HV.bool false)], []⟩) (AS.le_of ⟨rfl, trivial⟩ trivial) ⟨false, (), h, rfl⟩
        have h := ifF hg23 h
        refine b_F rfl rfl rfl rfl rfl (bF hg23) ?_
        refine bv rfl (v_pickF rfl rfl rfl) ?_
        refine mv rfl rfl ?_
        refine b_F rfl rfl rfl rfl rfl rfl ?_
        refine b_F rfl rfl rfl rfl rfl rfl ?_
        refine b_F rfl rfl rfl rfl rfl rfl ?_
        refine bv rfl (v_pickF rfl rfl rfl) ?_
        refine mv rfl rfl ?_
        refine b_F rfl rfl rfl rfl rfl rfl ?_
        refine b_F rfl rfl rfl rfl rfl rfl ?_
        refine b_F rfl rfl rfl rfl rfl rfl ?_
        refine bv rfl (v_pickF rfl rfl rfl) ?_
        refine mv rfl rfl ?_
        refine b_nil (hK _ ?_)
        clear hK K
        exact to_le (s' := ⟨[(0, HV.bool false)], []⟩) (AS.le_of ⟨rfl, trivial⟩ trivial) ⟨false, (), h, rfl⟩
       have h := ifF hg24 h
       refine b_F rfl rfl rfl rfl rfl (bF hg24) ?_
       refine bv rfl (v_pickF rfl rfl rfl) ?_
       refine mv rfl rfl ?_
       refine b_F rfl rfl rfl rfl rfl rfl ?_
       refine bv rfl (v_pickF rfl rfl rfl) ?_
       refine mv rfl rfl ?_
       refine b_F rfl rfl rfl rfl rfl rfl ?_
       refine b_F rfl rfl rfl rfl rfl rfl ?_
       refine b_F rfl rfl rfl rfl rfl rfl ?_
       refine bv rfl (v_pickF rfl rfl rfl) ?_
       refine mv rfl rfl ?_
       refine b_F rfl rfl rfl rfl rfl rfl ?_
       refine b_F rfl rfl rfl rfl rfl rfl ?_
       refine b_F rfl rfl rfl rfl rfl rfl ?_
       refine bv rfl (v_pickF rfl rfl rfl) ?_
       refine mv rfl rfl ?_
       refine b_nil (hK _ ?_)
       clear hK K
       exact to_le (s' := ⟨[(0, HV.bool false)], []⟩) (AS.le_of ⟨rfl, trivial⟩ trivial) ⟨false, (), h, rfl⟩
      have h := ifF hg25 h
      refine b_F rfl rfl rfl rfl rfl (decide_eq_false hg25) ?_
      refine bv rfl (v_pickF rfl rfl rfl) ?_
      refine mv rfl rfl ?_
      refine b_F rfl rfl rfl rfl rfl rfl ?_
      refine bv rfl (v_pickF rfl rfl rfl) ?_
      refine mv rfl rfl ?_
      refine b_F rfl rfl rfl rfl rfl rfl ?_
      refine bv rfl (v_pickF rfl rfl rfl) ?_
      refine mv rfl rfl ?_
      refine b_F rfl rfl rfl rfl rfl rfl ?_
      refine b_F rfl rfl rfl rfl rfl rfl ?_
      refine b_F rfl rfl rfl rfl rfl rfl ?_
      refine bv rfl (v_pickF rfl rfl rfl) ?_
      refine mv rfl rfl ?_
      refine b_F rfl rfl rfl rfl rfl rfl ?_
      refine b_F rfl rfl rfl rfl rfl rfl ?_
      refine b_F rfl rfl rfl rfl rfl rfl ?_
      refine bv rfl (v_pickF rfl rfl rfl) ?_
      refine mv rfl rfl ?_
      refine b_nil (hK _ ?_)
      clear hK K
      exact to_le (s' := ⟨[(0, HV.bool false)], []⟩) (AS.le_of ⟨rfl, trivial⟩ trivial) ⟨false, (), h, rfl⟩
     have h := ifF hg26 h
     refine b_F rfl rfl rfl rfl rfl (bF hg26) ?_
     refine b_F rfl rfl rfl rfl rfl rfl ?_
     refine bv rfl (v_pickF rfl rfl rfl) ?_
     refine mv rfl rfl ?_
     refine b_F rfl rfl rfl rfl rfl rfl ?_
     refine bv rfl (v_pickF rfl rfl rfl) ?_
     refine mv rfl rfl ?_
     refine b_F rfl rfl rfl rfl rfl rfl ?_
     refine bv rfl (v_pickF rfl rfl rfl) ?_
     refine mv rfl rfl ?_
     refine b_F rfl rfl rfl rfl rfl rfl ?_
     refine bv rfl (v_pickF rfl rfl rfl) ?_
     refine mv rfl rfl ?_
     refine b_F rfl rfl rfl rfl rfl rfl ?_
     refine b_F rfl rfl rfl rfl rfl rfl ?_
     refine b_F rfl rfl rfl rfl rfl rfl ?_
     refine bv rfl (v_pickF rfl rfl rfl) ?_
     refine mv rfl rfl ?_
     refine b_F rfl rfl rfl rfl rfl rfl ?_
     refine b_F rfl rfl rfl rfl rfl rfl ?_
     refine b_F rfl rfl rfl rfl rfl rfl ?_
     refine bv rfl (v_pickF rfl rfl rfl) ?_
     refine mv rfl rfl ?_
     refine b_nil (hK _ ?_)
     clear hK K
     exact to_le (s' := ⟨[(0, HV.bool false)], []⟩) (AS.le_of ⟨rfl, trivial⟩ trivial) ⟨false, (), h, rfl⟩
    have h := ifF hg27 h
    refine b_F rfl rfl rfl rfl rfl (decide_eq_false hg27) ?_
    refine b_F rfl rfl rfl rfl rfl rfl ?_
    refine bv rfl (v_pickF rfl rfl rfl) ?_
    refine mv rfl rfl ?_
    refine b_F rfl rfl rfl rfl rfl rfl ?_
    refine b_F rfl rfl rfl rfl rfl rfl ?_
    refine bv rfl (v_pickF rfl rfl rfl) ?_
    refine mv rfl rfl ?_
    refine b_F rfl rfl rfl rfl rfl rfl ?_
    refine bv rfl (v_pickF rfl rfl rfl) ?_
    refine mv rfl rfl ?_
    refine b_F rfl rfl rfl rfl rfl rfl ?_
    refine bv rfl (v_pickF rfl rfl rfl) ?_
    refine mv rfl rfl ?_
    refine b_F rfl rfl rfl rfl rfl rfl ?_
    refine bv rfl (v_pickF rfl rfl rfl) ?_
    refine mv rfl rfl ?_
    refine b_F rfl rfl rfl rfl rfl rfl ?_
    refine b_F rfl rfl rfl rfl rfl rfl ?_
    refine b_F rfl rfl rfl rfl rfl rfl ?_
    refine bv rfl (v_pickF rfl rfl rfl) ?_
    refine mv rfl rfl ?_
    refine b_F rfl rfl rfl rfl rfl rfl ?_
    refine b_F rfl rfl rfl rfl rfl rfl ?_
    refine b_F rfl rfl rfl rfl rfl rfl ?_
    refine bv rfl (v_pickF rfl rfl rfl) ?_
    refine mv rfl rfl ?_
    refine b_nil (hK _ ?_)
    clear hK K
    exact to_le (s' := ⟨[(0, HV.bool false)], []⟩) (AS.le_of ⟨rfl, trivial⟩ trivial) ⟨false, (), h, rfl⟩
   have h := ifF hg28 h
   refine b_F rfl rfl rfl rfl rfl (decide_eq_false hg28) ?_
   refine b_F rfl rfl rfl rfl rfl rfl ?_
   refine bv rfl (v_pickF rfl rfl rfl) ?_
   refine mv rfl rfl ?_
   refine b_F rfl rfl rfl rfl rfl rfl ?_
   refine b_F rfl rfl rfl rfl rfl rfl ?_
   refine bv rfl (v_pickF rfl rfl rfl) ?_
   refine mv rfl rfl ?_
   refine b_F rfl rfl rfl rfl rfl rfl ?_
   refine b_F rfl rfl rfl rfl rfl rfl ?_
   refine bv rfl (v_pickF rfl rfl rfl) ?_
   refine mv rfl rfl ?_
   refine b_F rfl rfl rfl rfl rfl rfl ?_
   refine bv rfl (v_pickF rfl rfl rfl) ?_
   refine mv rfl rfl ?_
   refine b_F rfl rfl rfl rfl rfl rfl ?_
   refine bv rfl (v_pickF rfl rfl rfl) ?_
   refine mv rfl rfl ?_
   refine b_F rfl rfl rfl rfl rfl rfl ?_
   refine bv rfl (v_pickF rfl rfl rfl) ?_
   refine mv rfl rfl ?_
   refine b_F rfl rfl rfl rfl rfl rfl ?_
   refine b_F rfl rfl rfl rfl rfl rfl ?_
   refine b_F rfl rfl rfl rfl rfl rfl ?_
   refine bv rfl (v_pickF rfl rfl rfl) ?_
   refine mv rfl rfl ?_
   refine b_F rfl rfl rfl rfl rfl rfl ?_
   refine b_F rfl rfl rfl rfl rfl rfl ?_
   refine b_F rfl rfl rfl rfl rfl rfl ?_
   refine bv rfl (v_pickF rfl rfl rfl) ?_
   refine mv rfl rfl ?_
   refine b_nil (hK _ ?_)
   clear hK K
   exact to_le (s' := ⟨[(0, HV.bool false)], []⟩) (AS.le_of ⟨rfl, trivial⟩ trivial) ⟨false, (), h, rfl⟩
  have h := ifF hg29 h
  refine b_F rfl rfl rfl rfl rfl (decide_eq_false hg29) ?_
  refine b_F rfl rfl rfl rfl rfl rfl ?_
  refine bv rfl (v_pickF rfl rfl rfl) ?_
  refine mv rfl rfl ?_
  refine b_F rfl rfl rfl rfl rfl rfl ?_
  refine b_F rfl rfl rfl rfl rfl rfl ?_
  refine bv rfl (v_pickF rfl rfl rfl) ?_
  refine mv rfl rfl ?_
  refine b_F rfl rfl rfl rfl rfl rfl ?_
  refine b_F rfl rfl rfl rfl rfl rfl ?_
  refine bv rfl (v_pickF rfl rfl rfl) ?_
  refine mv rfl rfl ?_
  refine b_F rfl rfl rfl rfl rfl rfl ?_
  refine b_F rfl rfl rfl rfl rfl rfl ?_
  refine bv rfl (v_pickF rfl rfl rfl) ?_
  refine mv rfl rfl ?_
  refine b_F rfl rfl rfl rfl rfl rfl ?_
  refine bv rfl (v_pickF rfl rfl rfl) ?_
  refine mv rfl rfl ?_
  refine b_F rfl rfl rfl rfl rfl rfl ?_
  refine bv rfl (v_pickF rfl rfl rfl) ?_
  refine mv rfl rfl ?_
  refine b_F rfl rfl rfl rfl rfl rfl ?_
  refine bv rfl (v_pickF rfl rfl rfl) ?_
  refine mv rfl rfl ?_
  refine b_F rfl rfl rfl rfl rfl rfl ?_
  refine b_F rfl rfl rfl rfl rfl rfl ?_
  refine b_F rfl rfl rfl rfl rfl rfl ?_
  refine bv rfl (v_pickF rfl rfl rfl) ?_
  refine mv rfl rfl ?_
  refine b_F rfl rfl rfl rfl rfl rfl ?_
  refine b_F rfl rfl rfl rfl rfl rfl ?_
  refine b_F rfl rfl rfl rfl rfl rfl ?_
  refine bv rfl (v_pickF rfl rfl rfl) ?_
  refine mv rfl rfl ?_
  refine b_nil (hK _ ?_)
  clear hK K
  exact to_le (s' := ⟨[(0, HV.bool false)], []⟩) (AS.le_of ⟨rfl, trivial⟩ trivial) ⟨false, (), h, rfl⟩
 have h := ifF hg30 h
 refine b_F rfl rfl rfl rfl rfl (decide_eq_false hg30) ?_
 refine b_F rfl rfl rfl rfl rfl rfl ?_
 refine bv rfl (v_pickF rfl rfl rfl) ?_
 refine mv rfl rfl ?_
 refine b_F rfl rfl rfl rfl rfl rfl ?_
 refine b_F rfl rfl rfl rfl rfl rfl ?_
 refine bv rfl (v_pickF rfl rfl rfl) ?_
 refine mv rfl rfl ?_
 refine b_F rfl rfl rfl rfl rfl rfl ?_
 refine b_F rfl rfl rfl rfl rfl rfl ?_
 refine bv rfl (v_pickF rfl rfl rfl) ?_
 refine mv rfl rfl ?_
 refine b_F rfl rfl rfl rfl rfl rfl ?_
 refine b_F rfl rfl rfl rfl rfl rfl ?_
 refine bv rfl (v_pickF rfl rfl rfl) ?_
 refine mv rfl rfl ?_
 refine b_F rfl rfl rfl rfl rfl rfl ?_
 refine b_F rfl rfl rfl rfl rfl rfl ?_
 refine bv rfl (v_pickF rfl rfl rfl) ?_
 refine mv rfl rfl ?_
 refine b_F rfl rfl rfl rfl rfl rfl ?_
 refine bv rfl (v_pickF rfl rfl rfl) ?_
 refine mv rfl rfl ?_
 refine b_F rfl rfl rfl rfl rfl rfl ?_
 refine bv rfl (v_pickF rfl rfl rfl) ?_
 refine mv rfl rfl ?_
 refine b_F rfl rfl rfl rfl rfl rfl ?_
 refine bv rfl (v_pickF rfl rfl rfl) ?_
 refine mv rfl rfl ?_
 refine b_F rfl rfl rfl rfl rfl rfl ?_
 refine b_F rfl rfl rfl rfl rfl rfl ?_
 refine b_F rfl rfl rfl rfl rfl rfl ?_
 refine bv rfl (v_pickF rfl rfl rfl) ?_
 refine mv rfl rfl ?_
 refine b_F rfl rfl rfl rfl rfl rfl ?_
 refine b_F rfl rfl rfl rfl rfl rfl ?_
 refine b_F rfl rfl rfl rfl rfl rfl ?_
 refine bv rfl (v_pickF rfl rfl rfl) ?_
 refine mv rfl rfl ?_
 refine b_nil (hK _ ?_)
 clear hK K
 exact to_le (s' := ⟨[(0, HV.bool false)], []⟩) (AS.le_of ⟨rfl, trivial⟩ trivial) ⟨false, (), h, rfl⟩

end Go.AW



/- The least path that is labelled with a word. -/
namespace Go.AW
open Go
set_option linter.unusedSimpArgs false
set_option linter.unusedVariables false

section
variable {g : Gr}

def canB (g : Gr) : List UInt8 → List Bool
  | [] => List.replicate g.2.1.toNat true
  | c :: w => (upto g.2.1).map fun s => g.2.2.any fun x => decide (x.1 = s ∧ x.2.1 = lab c) && (canB g w).getD x.2.2.toNat false
def canR (g : Gr) (w : List UInt8) (s : Int) : Prop := (canB g w).getD s.toNat false = true
theorem canR_nil {s : Int} (h0 : 0 ≤ s) (h1 : s < g.2.1) : canR g [] s := by
  have : s.toNat < g.2.1.toNat := by omega
  simp [canR, canB, List.getD, this]
theorem upto_get {n : Int} {i : Nat} (h : i < (upto n).length) : (upto n)[i] = (i : Int) := by simp [upto]
theorem canR_cons {c : UInt8} {w : List UInt8} {s : Int} (h0 : 0 ≤ s) (h1 : s < g.2.1) : canR g (c :: w) s ↔ ∃ x ∈ g.2.2, x.1 = s ∧ x.2.1 = lab c ∧ canR g w x.2.2 := by
  have hs : s.toNat < (upto g.2.1).length := by rw [upto_len]; omega
  simp only [canR, canB]
  rw [List.getD_eq_getElem?_getD, List.getElem?_map, List.getElem?_eq_getElem hs, upto_get]
  simp only [Option.map_some, Option.getD_some, List.any_eq_true, Bool.and_eq_true, decide_eq_true_eq]
  have e : ((s.toNat : Nat) : Int) = s := by omega
  rw [e]
  exact ⟨fun ⟨x, hx, ⟨h2, h3⟩, h4⟩ => ⟨x, hx, h2, h3, h4⟩, fun ⟨x, hx, h2, h3, h4⟩ => ⟨x, hx, ⟨h2, h3⟩, h4⟩⟩

theorem can_iff (hv : VG g) : ∀ (w : List UInt8) {a : List Int} (ha : SetOk g a), endsL g a w ≠ [] ↔ ∃ s ∈ a, canR g w s
  | [], a, ha => by
    constructor
    · intro h
      obtain ⟨s, hs⟩ := List.exists_mem_of_ne_nil a h
      obtain ⟨h0, h1⟩ := ha.2 s hs
      exact ⟨s, hs, canR_nil h0 h1⟩
    · rintro ⟨s, hs, _⟩ h
      rw [show a = [] from h] at hs
      cases hs
  | c :: w, a, ha => by
    rw [endsL_cons, can_iff hv w (stepL_ok g a _)]
    constructor
    · rintro ⟨t, ht, hc⟩
      obtain ⟨e, he, h1, h2, h3⟩ := (mem_stepL hv).1 ht
      obtain ⟨h4, h5⟩ := ha.2 _ h3
      exact ⟨e.1, h3, (canR_cons h4 h5).2 ⟨e, he, rfl, h2, by rw [h1]; exact hc⟩⟩
    · rintro ⟨s, hs, hc⟩
      obtain ⟨h4, h5⟩ := ha.2 _ hs
      obtain ⟨x, hx, h1, h2, h3⟩ := (canR_cons h4 h5).1 hc
      exact ⟨x.2.2, (mem_stepL hv).2 ⟨x, hx, rfl, h2, by rw [h1]; exact hs⟩, h3⟩

def okE (g : Gr) (w : List UInt8) (c : UInt8) (prev : Option Int) (x : Ed) : Bool := decide (x.2.1 = lab c) && (canB g w).getD x.2.2.toNat false && (match prev with
  | none => true
  | some s => decide (x.1 = s))
def pick (g : Gr) (w : List UInt8) (c : UInt8) (prev : Option Int) : Nat := g.2.2.findIdx (okE g w c prev)
end
end Go.AW

/- language.Path gives the least path. -/
namespace Go.AW
open Go
set_option linter.unusedSimpArgs false
set_option linter.unusedVariables false
section
variable {g : Gr}

end
end Go.AW

/- language.Path: the edges; the whole function. -/
namespace Go.AW
open Go
set_option linter.unusedSimpArgs false
set_option linter.unusedVariables false
section
variable {g : Gr}

end
end Go.AW

/- All words of a length. -/
namespace Go.AW
open Go
set_option linter.unusedSimpArgs false
set_option linter.unusedVariables false

def allW (cs : List UInt8) : Nat → List (List UInt8)
  | 0 => [[]]
  | n + 1 => (allW cs n).flatMap fun w => cs.map fun c => w ++ [c]
theorem mem_allW {cs : List UInt8} : ∀ {n : Nat} {w : List UInt8}, w ∈ allW cs n ↔ w.length = n ∧ ∀ c ∈ w, c ∈ cs
  | 0, w => by
    simp only [allW, List.mem_singleton]
    constructor
    · rintro rfl; simp
    · rintro ⟨h, _⟩; exact List.eq_nil_of_length_eq_zero h
  | n + 1, w => by
    simp only [allW, List.mem_flatMap, List.mem_map]
    constructor
    · rintro ⟨u, hu, c, hc, rfl⟩
      obtain ⟨h1, h2⟩ := mem_allW.1 hu
      refine ⟨by simp [h1], fun d hd => ?_⟩
      rcases List.mem_append.1 hd with h | h
      · exact h2 d h
      · simp at h; subst h; exact hc
    · rintro ⟨h1, h2⟩
      rcases List.eq_nil_or_concat w with rfl | ⟨v, c, rfl⟩
      · simp at h1
      · rw [List.concat_eq_append] at h1 h2 ⊢
        exact ⟨v, mem_allW.2 ⟨by simpa using h1, fun d hd => h2 d (List.mem_append_left _ hd)⟩, c, h2 c (by simp), rfl⟩
theorem allW_asc {cs : List UInt8} (hcs : cs.Pairwise (· < ·)) : ∀ n, (allW cs n).Pairwise (· < ·)
  | 0 => by simp [allW]
  | n + 1 => by
    simp only [allW]
    rw [List.pairwise_flatMap]
    refine ⟨fun x hx => ?_, (allW_asc hcs n).imp_of_mem fun {x y} hx hy hxy a ha b hb => ?_⟩
    · rw [List.pairwise_map]
      exact hcs.imp fun hcd => app_lt _ (List.cons_lt_cons_iff.2 (.inl hcd))
    · obtain ⟨c, _, rfl⟩ := List.mem_map.1 ha
      obtain ⟨d, _, rfl⟩ := List.mem_map.1 hb
      exact lt_app _ _ (by rw [(mem_allW.1 hx).1, (mem_allW.1 hy).1]) hxy

section
variable {g : Gr}
def accB (g : Gr) (w : List UInt8) : Bool := decide (endsL g (upto g.2.1) w ≠ [])
end
end Go.AW

/- The first missing word. -/
namespace Go.AW
open Go
set_option linter.unusedSimpArgs false
set_option linter.unusedVariables false

section
variable {β : Type}
end

section
variable {g : Gr}
end
end Go.AW

/- The words of a length, by reading; the anchor of chapter 11. -/
namespace Go.AW
open Go
set_option linter.unusedSimpArgs false
set_option linter.unusedVariables false

section
variable {g : Gr}
end

end Go.AW

/- The law of words. -/
namespace Go.AW
open Go
set_option linter.unusedSimpArgs false
set_option linter.unusedVariables false

section
variable {g : Gr}
theorem lets_asc (g : Gr) : (lets g).Pairwise (· < ·) := letters_asc.sublist (List.take_sublist _ _)
end

end Go.AW

/- word.All; the law of words. -/
namespace Go.AW
open Go
set_option linter.unusedSimpArgs false
set_option linter.unusedVariables false

end Go.AW

/- The law of the first missing word. -/
namespace Go.AW
open Go
set_option linter.unusedSimpArgs false
set_option linter.unusedVariables false
section
variable {g : Gr}

end

end Go.AW

/- The law of letters. -/
namespace Go.AW
open Go
set_option linter.unusedSimpArgs false
set_option linter.unusedVariables false

end Go.AW

/- Reading words, in the program and in the reference. -/
namespace Go.AW
open Go
set_option linter.unusedSimpArgs false
set_option linter.unusedVariables false

section
variable {g : Gr}
end
end Go.AW

/- The law of paths. -/
namespace Go.AW
open Go
set_option linter.unusedSimpArgs false
set_option linter.unusedVariables false
section
variable {g : Gr}

end
end Go.AW

/- The letters that can follow, and the least path, in the reference; the law of reading. -/
namespace Go.AW
open Go
set_option linter.unusedSimpArgs false
set_option linter.unusedVariables false

section
variable {g : Gr}
end

end Go.AW

/- Lists of words from a state, between states, and the first missing word: the program and the reference agree. -/
namespace Go.AW
open Go
set_option linter.unusedSimpArgs false
set_option linter.unusedVariables false

section
variable {g : Gr}
theorem IndexI_eq {l : List Int} {x : Int} (hm : l.length ≤ 9223372036854775807) : ∃ r, m_slices_Index_Lint_int l x = some r ∧ (0 ≤ r ↔ x ∈ l) := by
  unfold m_slices_Index_Lint_int
  have hx : ∃ y, loopW (S := Int) (X := Ou (Unit) (Int)) (fun a1 =>
      if a1 < ((l).length : Int) then
        (idx l a1).bind fun x5 =>
        if x = x5 then
          some (Stp.exit (Ou.ret a1))
        else
          some (Stp.next (IntKind.wrap .i64 (a1 + 1)))
      else
        some (Stp.exit (Ou.go ()))) 0 = some y ∧ ((y = .go () ∧ x ∉ l) ∨ ∃ r, y = .ret r ∧ 0 ≤ r ∧ x ∈ l) := by
    refine loopN l.length (fun i s => s = (i : Int) ∧ ∀ j (_ : j < i) (h : j < l.length), l[j] ≠ x) ?_ ?_ 0 _ (Nat.zero_le _) ⟨rfl, fun j hj => by omega⟩
    · rintro i s hi ⟨rfl, hne⟩
      rw [if_pos (lt_int hi), ix hi]
      simp only [Option.bind_some]
      by_cases e : x = l[i]
      · rw [if_pos e]
        exact .inr ⟨_, rfl, .inr ⟨_, rfl, by omega, by rw [e]; exact List.getElem_mem hi⟩⟩
      · rw [if_neg e]
        refine .inl ⟨_, rfl, nx hm hi, fun j hj h => ?_⟩
        by_cases hji : j = i
        · subst hji; exact fun e' => e e'.symm
        · exact hne j (by omega) h
    · rintro s ⟨rfl, hne⟩
      rw [if_neg (not_lt_int _)]
      refine ⟨_, rfl, .inl ⟨rfl, fun hx => ?_⟩⟩
      obtain ⟨j, hj, e⟩ := List.getElem_of_mem hx
      exact hne j hj hj e
  obtain ⟨y, hy, ⟨rfl, hn⟩ | ⟨r, rfl, h0, hm⟩⟩ := hx
  · rw [hy]
    exact ⟨-1, rfl, by simp [hn]⟩
  · rw [hy]
    exact ⟨r, rfl, by simp [h0, hm]⟩
theorem ContainsI_eq {l : List Int} {x : Int} (hm : l.length ≤ 9223372036854775807) : m_slices_Contains_Lint_int l x = some (decide (x ∈ l)) := by
  obtain ⟨r, hr, h⟩ := IndexI_eq (x := x) hm
  unfold m_slices_Contains_Lint_int
  rw [hr]
  simp only [Option.bind_some, h]

end

end Go.AW

/- Compaction of lists of texts. -/
namespace Go.AW
open Go
end Go.AW

/- Models, printed by lk.py. -/
namespace Go.AW
open Go
set_option linter.unusedVariables false
end Go.AW

/- The law of parts: words from all states, between all pairs of states. -/
namespace Go.AW
open Go
set_option linter.unusedSimpArgs false
set_option linter.unusedVariables false

section
variable {g : Gr}
end

end Go.AW

/- Marks: what has been read of a mark behind a word; bad words; the first of them. -/
namespace Go.AW
open Go
set_option linter.unusedVariables false
set_option linter.unusedSimpArgs false
def badG (mark : List UInt8) : List UInt8 → Nat → Bool → Bool
  | [], n, b => endsG mark mark n || b
  | c :: u, n, b => badG mark u (foll mark n c) (b || decide (foll mark n c = mark.length))
def badU (mark u : List UInt8) : Bool := badG mark u mark.length false
section
variable {g : Gr} {mark : List UInt8}
theorem letB_mem (hv : VG g) (h16 : g.1 ≤ 16) {a : Int} (h0 : 0 ≤ a) (h1 : a < g.1) : letB a ∈ lets g ∧ lab (letB a) = a := by
  have hl : a.toNat < letters.length := by rw [letters_len]; omega
  have e : letB a = letters[a.toNat] := by unfold letB; rw [List.getD_eq_getElem?_getD, List.getElem?_eq_getElem hl]; rfl
  rw [e]
  refine ⟨?_, ?_⟩
  · unfold lets
    exact List.mem_take_iff_getElem.2 ⟨a.toNat, by rw [letters_len] at hl ⊢; omega, rfl⟩
  · have := idx_letter hl
    unfold lab
    rw [this]
    omega
theorem lets_lab (hv : VG g) (h16 : g.1 ≤ 16) {c : UInt8} (hc : c ∈ lets g) : 0 ≤ lab c ∧ lab c < g.1 ∧ letB (lab c) = c := by
  obtain ⟨i, hi, hg, rfl, e⟩ := lab_mem hc
  rw [e]
  refine ⟨Int.natCast_nonneg _, hg, ?_⟩
  unfold letB
  rw [Int.toNat_natCast, List.getD_eq_getElem?_getD, List.getElem?_eq_getElem hi]
  rfl
theorem canF_iff (hv : VG g) (h16 : g.1 ≤ 16) : ∀ (n : Nat) (p : TStateReadBadLeft), 0 ≤ p.1 → p.1 < g.2.1 → (canF g.2.2 mark n p = true ↔ ∃ u : List UInt8, u.length = n ∧ (∀ c ∈ u, c ∈ lets g) ∧ canR g u p.1 ∧ badG mark u p.2.1.toNat p.2.2.1 = true)
  | 0, p, h0, h1 => by
    unfold canF endsF
    constructor
    · intro h; exact ⟨[], rfl, fun _ h => by simp at h, canR_nil h0 h1, h⟩
    · rintro ⟨u, hu, _, _, h⟩
      cases List.eq_nil_of_length_eq_zero hu
      exact h
  | n + 1, p, h0, h1 => by
    unfold canF
    rw [List.any_eq_true]
    constructor
    · rintro ⟨x, hx, h⟩
      obtain ⟨hxE, hxp⟩ := List.mem_filter.1 hx
      have hxp := of_decide_eq_true hxp
      obtain ⟨e1, e2, e3, e4, e5, e6⟩ := hv.ed x hxE
      obtain ⟨u, hu, hul, hc, hb⟩ := (canF_iff hv h16 n (stepF mark p x) e3 e4).1 h
      obtain ⟨l1, l2⟩ := letB_mem hv h16 e5 e6
      refine ⟨letB x.2.1 :: u, by rw [List.length_cons, hu], fun c hc => ?_, (canR_cons h0 h1).2 ⟨x, hxE, hxp, l2.symm, hc⟩, ?_⟩
      · rcases List.mem_cons.1 hc with rfl | hc
        · exact l1
        · exact hul c hc
      · unfold badG
        exact hb
    · rintro ⟨u, hu, hul, hc, hb⟩
      cases u with
      | nil => simp at hu
      | cons c u =>
        obtain ⟨x, hxE, hx1, hx2, hx3⟩ := (canR_cons h0 h1).1 hc
        obtain ⟨e1, e2, e3, e4, e5, e6⟩ := hv.ed x hxE
        obtain ⟨l1, l2, l3⟩ := lets_lab hv h16 (hul c (List.mem_cons_self ..))
        refine ⟨x, List.mem_filter.2 ⟨hxE, decide_eq_true hx1⟩, (canF_iff hv h16 n (stepF mark p x) e3 e4).2 ⟨u, by simpa using hu, fun d hd => hul d (List.mem_cons_of_mem _ hd), hx3, ?_⟩⟩
        unfold badG at hb
        have e : letB x.2.1 = c := by rw [hx2, l3]
        show badG mark u ((foll mark p.2.1.toNat (letB x.2.1) : Nat) : Int).toNat (p.2.2.1 || decide (foll mark p.2.1.toNat (letB x.2.1) = mark.length)) = true
        rw [Int.toNat_natCast, e]
        exact hb

theorem mem_aft1 {f : TStateReadBadLeft → Bool} {stp : TStateReadBadLeft → TFromLabelTo → TStateReadBadLeft} {a : Int} {p q : TStateReadBadLeft} : ∀ (l : List TFromLabelTo) (acc : List TStateReadBadLeft), q ∈ l.foldl (aft1 f stp a p) acc ↔ q ∈ acc ∨ (f q = true ∧ ∃ x ∈ l, x.2.1 = a ∧ q = stp p x)
  | [], acc => by simp
  | x :: l, acc => by
    rw [List.foldl_cons, mem_aft1 l]
    have h : q ∈ aft1 f stp a p acc x ↔ q ∈ acc ∨ (f q = true ∧ x.2.1 = a ∧ q = stp p x) := by
      unfold aft1
      split
      · rename_i h1
        split
        · rename_i h2
          exact ⟨.inl, fun h => h.elim id fun ⟨_, _, e⟩ => by rw [e]; exact h2⟩
        · split
          · rename_i h3
            rw [List.mem_append, List.mem_singleton]
            exact or_congr Iff.rfl ⟨fun e => ⟨by rw [e]; exact h3, h1, e⟩, fun h => h.2.2⟩
          · rename_i h3
            exact ⟨.inl, fun h => h.elim id fun ⟨h4, _, e⟩ => absurd (by rw [← e]; exact h4) h3⟩
      · rename_i h1
        exact ⟨.inl, fun h => h.elim id fun ⟨_, h4, _⟩ => absurd h4 h1⟩
    rw [h, or_assoc]
    refine or_congr Iff.rfl ?_
    constructor
    · rintro (⟨h1, h2, h3⟩ | ⟨h1, y, hy, h2, h3⟩)
      · exact ⟨h1, x, List.mem_cons_self .., h2, h3⟩
      · exact ⟨h1, y, List.mem_cons_of_mem _ hy, h2, h3⟩
    · rintro ⟨h1, y, hy, h2, h3⟩
      rcases List.mem_cons.1 hy with rfl | hy
      · exact .inl ⟨h1, h2, h3⟩
      · exact .inr ⟨h1, y, hy, h2, h3⟩
theorem mem_aft {f : TStateReadBadLeft → Bool} {stp : TStateReadBadLeft → TFromLabelTo → TStateReadBadLeft} {lv : Int → List TFromLabelTo} {a : Int} {q : TStateReadBadLeft} (now : List TStateReadBadLeft) : q ∈ aft f stp lv now a ↔ f q = true ∧ ∃ p ∈ now, ∃ x ∈ lv p.1, x.2.1 = a ∧ q = stp p x := by
  have h : ∀ (l acc : List TStateReadBadLeft), q ∈ l.foldl (aftP f stp lv a) acc ↔ q ∈ acc ∨ (f q = true ∧ ∃ p ∈ l, ∃ x ∈ lv p.1, x.2.1 = a ∧ q = stp p x) := by
    intro l
    induction l with
    | nil => simp
    | cons p l ih =>
      intro acc
      rw [List.foldl_cons, ih]
      unfold aftP
      rw [mem_aft1, or_assoc]
      refine or_congr Iff.rfl ?_
      constructor
      · rintro (⟨h1, x, hx, h2⟩ | ⟨h1, p', hp, h2⟩)
        · exact ⟨h1, p, List.mem_cons_self .., x, hx, h2⟩
        · exact ⟨h1, p', List.mem_cons_of_mem _ hp, h2⟩
      · rintro ⟨h1, p', hp, x, hx, h2⟩
        rcases List.mem_cons.1 hp with rfl | hp
        · exact .inl ⟨h1, x, hx, h2⟩
        · exact .inr ⟨h1, p', hp, x, hx, h2⟩
  unfold aft
  rw [h]
  simp
theorem firstA_some {f : TStateReadBadLeft → Bool} {stp : TStateReadBadLeft → TFromLabelTo → TStateReadBadLeft} {lv : Int → List TFromLabelTo} {now : List TStateReadBadLeft} : ∀ (k s : Nat), (∃ a : Nat, s ≤ a ∧ a < s + k ∧ aft f stp lv now (a : Int) ≠ []) → ∃ a : Nat, s ≤ a ∧ a < s + k ∧ aft f stp lv now (a : Int) ≠ [] ∧ firstA f stp lv now ((List.range' s k).map Int.ofNat) = some ((a : Int), aft f stp lv now (a : Int)) ∧ ∀ b : Nat, s ≤ b → b < a → aft f stp lv now (b : Int) = []
  | 0, s, ⟨a, h1, h2, _⟩ => by omega
  | k + 1, s, ⟨a, h1, h2, h3⟩ => by
    by_cases e : aft f stp lv now (s : Int) = []
    · obtain ⟨c, c1, c2, c3, c4, c5⟩ := firstA_some (f := f) (stp := stp) (lv := lv) (now := now) k (s + 1) ⟨a, by
        rcases Nat.lt_or_ge s a with h | h
        · omega
        · have : a = s := by omega
          subst this; exact absurd e h3, by omega, h3⟩
      refine ⟨c, by omega, by omega, c3, ?_, fun b hb1 hb2 => ?_⟩
      · rw [List.range'_succ, List.map_cons]
        unfold firstA
        rw [if_neg (fun hn => hn e)]
        exact c4
      · by_cases eb : b = s
        · subst eb; exact e
        · exact c5 b (by omega) hb2
    · refine ⟨s, Nat.le_refl _, by omega, e, ?_, fun b hb1 hb2 => by omega⟩
      rw [List.range'_succ, List.map_cons]
      unfold firstA
      exact if_pos e
def goes (g : Gr) (mark : List UInt8) (now : List TStateReadBadLeft) (u : List UInt8) : Prop := (∀ c ∈ u, c ∈ lets g) ∧ ∃ p ∈ now, canR g u p.1 ∧ badG mark u p.2.1.toNat p.2.2.1 = true
theorem letters_lt {i j : Nat} (hi : i < letters.length) (hj : j < letters.length) (h : i < j) : letters[i] < letters[j] := by
  have : ∀ a b : Fin 16, a.1 < b.1 → letters[a.1]'(show a.1 < letters.length from a.2) < letters[b.1]'(show b.1 < letters.length from b.2) := by decide
  exact this ⟨i, hi⟩ ⟨j, hj⟩ h
theorem lets_lt_lab (hv : VG g) (h16 : g.1 ≤ 16) {c d : UInt8} (hc : c ∈ lets g) (hd : d ∈ lets g) (h : c < d) : lab c < lab d := by
  obtain ⟨i, hi, _, rfl, e⟩ := lab_mem hc
  obtain ⟨j, hj, _, rfl, f⟩ := lab_mem hd
  rw [e, f]
  rcases Nat.lt_trichotomy i j with h1 | h1 | h1
  · omega
  · subst h1; exact absurd h (UInt8.lt_irrefl _)
  · exact absurd (UInt8.lt_trans h (letters_lt hj hi h1)) (UInt8.lt_irrefl _)
theorem goes_cons (hv : VG g) (h16 : g.1 ≤ 16) {n : Nat} {now : List TStateReadBadLeft} (hn : ∀ p ∈ now, (0 ≤ p.1 ∧ p.1 < g.2.1) ∧ 0 ≤ p.2.1 ∧ p.2.2.2 = (n : Int) + 1) {c : UInt8} (hc : c ∈ lets g) {u : List UInt8} (hu : u.length = n) :
    goes g mark now (c :: u) ↔ goes g mark (aft (canP g.2.2 mark) (stepF mark) (leav g.2.2) now (lab c)) u := by
  obtain ⟨l1, l2, l3⟩ := lets_lab hv h16 hc
  unfold goes
  constructor
  · rintro ⟨h1, p, hp, h2, h3⟩
    refine ⟨fun d hd => h1 d (List.mem_cons_of_mem _ hd), ?_⟩
    obtain ⟨⟨p0, p1⟩, p2, p3⟩ := hn p hp
    obtain ⟨x, hxE, hx1, hx2, hx3⟩ := (canR_cons p0 p1).1 h2
    obtain ⟨e1, e2, e3, e4, e5, e6⟩ := hv.ed x hxE
    have e : letB x.2.1 = c := by rw [hx2, l3]
    have hb : badG mark u (stepF mark p x).2.1.toNat (stepF mark p x).2.2.1 = true := by
      show badG mark u ((foll mark p.2.1.toNat (letB x.2.1) : Nat) : Int).toNat (p.2.2.1 || decide (foll mark p.2.1.toNat (letB x.2.1) = mark.length)) = true
      rw [Int.toNat_natCast, e]
      unfold badG at h3
      exact h3
    refine ⟨stepF mark p x, (mem_aft now).2 ⟨?_, p, hp, x, List.mem_filter.2 ⟨hxE, decide_eq_true hx1⟩, hx2, rfl⟩, hx3, hb⟩
    unfold canP
    have hl : (stepF mark p x).2.2.2.toNat = n := by show (p.2.2.2 - 1).toNat = n; omega
    rw [hl]
    exact (canF_iff hv h16 n _ e3 e4).2 ⟨u, hu, fun d hd => h1 d (List.mem_cons_of_mem _ hd), hx3, hb⟩
  · rintro ⟨h1, q, hq, h2, h3⟩
    obtain ⟨h4, p, hp, x, hx, hx2, rfl⟩ := (mem_aft now).1 hq
    obtain ⟨hxE, hx1⟩ := List.mem_filter.1 hx
    have hx1 := of_decide_eq_true hx1
    obtain ⟨⟨p0, p1⟩, p2, p3⟩ := hn p hp
    refine ⟨fun d hd => ?_, p, hp, (canR_cons p0 p1).2 ⟨x, hxE, hx1, hx2, h2⟩, ?_⟩
    · rcases List.mem_cons.1 hd with rfl | hd
      · exact hc
      · exact h1 d hd
    · have e : letB x.2.1 = c := by rw [hx2, l3]
      have h3 : badG mark u ((foll mark p.2.1.toNat (letB x.2.1) : Nat) : Int).toNat (p.2.2.1 || decide (foll mark p.2.1.toNat (letB x.2.1) = mark.length)) = true := h3
      rw [Int.toNat_natCast, e] at h3
      unfold badG
      exact h3
theorem grow_spec (hv : VG g) (h16 : g.1 ≤ 16) : ∀ (n : Nat) (now : List TStateReadBadLeft), now ≠ [] → (∀ p ∈ now, canP g.2.2 mark p = true ∧ (0 ≤ p.1 ∧ p.1 < g.2.1) ∧ 0 ≤ p.2.1 ∧ p.2.2.2 = (n : Int)) →
    (growF (canP g.2.2 mark) (stepF mark) (leav g.2.2) g.1 n now).length = n ∧ goes g mark now (growF (canP g.2.2 mark) (stepF mark) (leav g.2.2) g.1 n now) ∧ ∀ v : List UInt8, v.length = n → goes g mark now v → ¬ v < growF (canP g.2.2 mark) (stepF mark) (leav g.2.2) g.1 n now
  | 0, now, hne, hn => by
    refine ⟨rfl, ⟨fun _ h => (by cases h), ?_⟩, fun v _ _ h => (by cases h)⟩
    obtain ⟨p, hp⟩ := List.exists_mem_of_ne_nil _ hne
    obtain ⟨h1, ⟨p0, p1⟩, p2, p3⟩ := hn p hp
    unfold canP at h1
    rw [p3] at h1
    obtain ⟨u, hu, _, hc, hb⟩ := (canF_iff hv h16 _ _ p0 p1).1 h1
    cases List.eq_nil_of_length_eq_zero hu
    exact ⟨p, hp, hc, hb⟩
  | n + 1, now, hne, hn => by
    have hn1 : ∀ p ∈ now, (0 ≤ p.1 ∧ p.1 < g.2.1) ∧ 0 ≤ p.2.1 ∧ p.2.2.2 = (n : Int) + 1 := fun p hp => by
      obtain ⟨_, h2, h3, h4⟩ := hn p hp
      exact ⟨h2, h3, by omega⟩
    have hgo : ∀ a : Nat, (a : Int) < g.1 → aft (canP g.2.2 mark) (stepF mark) (leav g.2.2) now (a : Int) ≠ [] → ∀ p ∈ aft (canP g.2.2 mark) (stepF mark) (leav g.2.2) now (a : Int), canP g.2.2 mark p = true ∧ (0 ≤ p.1 ∧ p.1 < g.2.1) ∧ 0 ≤ p.2.1 ∧ p.2.2.2 = (n : Int) := by
      intro a _ _ q hq
      obtain ⟨h4, p, hp, x, hx, hx2, rfl⟩ := (mem_aft now).1 hq
      obtain ⟨hxE, hx1⟩ := List.mem_filter.1 hx
      obtain ⟨e1, e2, e3, e4, e5, e6⟩ := hv.ed x hxE
      obtain ⟨_, _, _, p3⟩ := hn p hp
      exact ⟨h4, ⟨e3, e4⟩, Int.natCast_nonneg _, by show p.2.2.2 - 1 = (n : Int); omega⟩
    obtain ⟨a, _, ha2, ha3, ha4, ha5⟩ := firstA_some (f := canP g.2.2 mark) (stp := stepF mark) (lv := leav g.2.2) (now := now) g.1.toNat 0 (by
      obtain ⟨p, hp⟩ := List.exists_mem_of_ne_nil _ hne
      obtain ⟨h1, ⟨p0, p1⟩, p2, p3⟩ := hn p hp
      have h1' := h1
      unfold canP at h1
      rw [p3, show ((n + 1 : Nat) : Int).toNat = n + 1 by omega] at h1
      obtain ⟨u, hu, hul, hc, hb⟩ := (canF_iff hv h16 _ _ p0 p1).1 h1
      cases u with
      | nil => simp at hu
      | cons c u =>
        have hcl := hul c (List.mem_cons_self ..)
        have hgc : goes g mark now (c :: u) := ⟨hul, p, hp, hc, hb⟩
        obtain ⟨_, q, hq, _⟩ := (goes_cons hv h16 hn1 hcl (by simpa using hu)).1 hgc
        obtain ⟨l1, l2, l3⟩ := lets_lab hv h16 hcl
        refine ⟨(lab c).toNat, Nat.zero_le _, by omega, fun e => ?_⟩
        rw [show (((lab c).toNat : Nat) : Int) = lab c by omega] at e
        rw [e] at hq
        cases hq)
    have haL : (a : Int) < g.1 := by omega
    obtain ⟨q1, q2, q3⟩ := grow_spec hv h16 n _ ha3 (hgo a haL ha3)
    have hG : growF (canP g.2.2 mark) (stepF mark) (leav g.2.2) g.1 (n + 1) now = letB (a : Int) :: growF (canP g.2.2 mark) (stepF mark) (leav g.2.2) g.1 n (aft (canP g.2.2 mark) (stepF mark) (leav g.2.2) now (a : Int)) := by
      conv => lhs; unfold growF
      rw [List.range_eq_range', ha4]
    rw [hG]
    obtain ⟨m1, m2⟩ := letB_mem hv h16 (Int.natCast_nonneg a) haL
    refine ⟨by rw [List.length_cons, q1], (goes_cons hv h16 hn1 m1 q1).2 (by rw [m2]; exact q2), fun v hv1 hv2 hlt => ?_⟩
    cases v with
    | nil => simp at hv1
    | cons d v =>
      have hd := hv2.1 d (List.mem_cons_self ..)
      have hv3 := (goes_cons hv h16 hn1 hd (by simpa using hv1)).1 hv2
      obtain ⟨l1, l2, l3⟩ := lets_lab hv h16 hd
      have hda : a ≤ (lab d).toNat := by
        apply Classical.byContradiction
        intro hno
        have := ha5 (lab d).toNat (Nat.zero_le _) (by omega)
        rw [show (((lab d).toNat : Nat) : Int) = lab d by omega] at this
        obtain ⟨_, q, hq, _⟩ := hv3
        rw [this] at hq
        cases hq
      rcases List.cons_lt_cons_iff.1 hlt with h | ⟨h1, h2⟩
      · have := lets_lt_lab hv h16 hd m1 h
        rw [m2] at this
        omega
      · have : lab d = (a : Int) := by rw [h1, m2]
        rw [this] at hv3
        exact q3 v (by simpa using hv1) hv3 h2
theorem mem_startF {n : Int} {p : TStateReadBadLeft} : p ∈ startF g mark n ↔ (0 ≤ p.1 ∧ p.1 < g.2.1) ∧ p.2 = ((mark.length : Int), false, n) ∧ canP g.2.2 mark p = true := by
  unfold startF
  rw [List.mem_filter, List.mem_map]
  constructor
  · rintro ⟨⟨t, ht, rfl⟩, h⟩
    rw [List.mem_range] at ht
    exact ⟨⟨Int.natCast_nonneg _, by dsimp only; omega⟩, rfl, h⟩
  · rintro ⟨⟨h0, h1⟩, h2, h3⟩
    refine ⟨⟨p.1.toNat, List.mem_range.2 (by omega), ?_⟩, h3⟩
    obtain ⟨p1, p2⟩ := p
    dsimp only at h0 h1 h2 ⊢
    rw [h2, show ((p1.toNat : Nat) : Int) = p1 by omega]
theorem goes_start (hv : VG g) (h16 : g.1 ≤ 16) {n : Nat} {u : List UInt8} (hu : u.length = n) : goes g mark (startF g mark n) u ↔ (u ∈ allW (lets g) n ∧ accB g u = true) ∧ badU mark u = true := by
  unfold goes accB badU
  rw [mem_allW, decide_eq_true_eq, can_iff hv u (upto_ok g)]
  constructor
  · rintro ⟨h1, p, hp, h2, h3⟩
    obtain ⟨⟨p0, p1⟩, p2, p3⟩ := mem_startF.1 hp
    refine ⟨⟨⟨hu, h1⟩, p.1, mem_upto.2 ⟨p0, p1⟩, h2⟩, ?_⟩
    rw [p2] at h3
    exact h3
  · rintro ⟨⟨⟨_, h1⟩, s, hs, h2⟩, h3⟩
    obtain ⟨s0, s1⟩ := mem_upto.1 hs
    refine ⟨h1, (s, (mark.length : Int), false, (n : Int)), mem_startF.2 ⟨⟨s0, s1⟩, rfl, ?_⟩, h2, h3⟩
    unfold canP
    dsimp only
    rw [Int.toNat_natCast]
    exact (canF_iff hv h16 n _ s0 s1).2 ⟨u, hu, h1, h2, h3⟩
def badsW (g : Gr) (mark : List UInt8) (n : Nat) : List (List UInt8) := ((allW (lets g) n).filter (accB g)).filter (badU mark)
theorem badF_eq (hv : VG g) (h16 : g.1 ≤ 16) (n : Nat) : badF g mark n = ((badsW g mark n).headD [], decide (badsW g mark n ≠ [])) := by
  have hmem : ∀ u, u ∈ badsW g mark n ↔ u.length = n ∧ goes g mark (startF g mark n) u := fun u => by
    unfold badsW
    rw [List.mem_filter, List.mem_filter]
    constructor
    · intro h
      have hl := (mem_allW.1 h.1.1).1
      exact ⟨hl, (goes_start hv h16 hl).2 h⟩
    · rintro ⟨hl, h⟩
      exact (goes_start hv h16 hl).1 h
  have hasc : (badsW g mark n).Pairwise (· < ·) := ((allW_asc (lets_asc g) n).filter _).filter _
  unfold badF
  by_cases hs : startF g mark n = []
  · rw [if_pos hs]
    have : badsW g mark n = [] := List.eq_nil_iff_forall_not_mem.2 fun u hu => by
      obtain ⟨_, _, p, hp, _⟩ := (hmem u).1 hu
      rw [hs] at hp
      cases hp
    rw [this]
    rfl
  · rw [if_neg hs, Int.toNat_natCast]
    obtain ⟨q1, q2, q3⟩ := grow_spec hv h16 n (startF g mark n) hs (fun p hp => by
      obtain ⟨h1, h2, h3⟩ := mem_startF.1 hp
      refine ⟨h3, h1, ?_, ?_⟩
      · rw [h2]; exact Int.natCast_nonneg _
      · rw [h2])
    generalize growF (canP g.2.2 mark) (stepF mark) (leav g.2.2) g.1 n (startF g mark n) = u at q1 q2 q3
    have hu := (hmem u).2 ⟨q1, q2⟩
    cases hb : badsW g mark n with
    | nil => rw [hb] at hu; cases hu
    | cons v l =>
      have hv1 := (hmem v).1 (by rw [hb]; exact List.mem_cons_self ..)
      have e : u = v := by
        rw [hb] at hu hasc
        rcases List.mem_cons.1 hu with e | hu
        · exact e
        · exact absurd ((List.pairwise_cons.1 hasc).1 u hu) (q3 v hv1.1 hv1.2)
      subst e
      simp
end
end Go.AW

/- What Valid, Bad and Free of the program return. -/
namespace Go.AW
open Go
set_option linter.unusedVariables false
set_option linter.unusedSimpArgs false
def MOk54 (g : Gr) (mark : List UInt8) : Prop := VG g ∧ g.1 ≤ 16 ∧ mark ≠ [] ∧ mark.length ≤ 32 ∧ ∀ c ∈ mark, c ∈ lets g
theorem check54_tot (g : Gr) (mark : List UInt8) : ∃ e, m_syncmark_check g mark = some e ∧ (e = 0 ↔ MOk54 g mark) := by
  unfold m_syncmark_check MOk54
  obtain ⟨e, he, hz⟩ := Check_tot g
  obtain ⟨f, hf, hy⟩ := wcheck g.1 mark
  rw [Check_ref, he, Option.bind_some]
  by_cases h0 : e = 0
  case neg =>
    rw [if_pos h0]
    exact ⟨1, rfl, ⟨fun h => absurd h (by decide), fun h => absurd (hz.2 h.1) h0⟩⟩
  have hv := hz.1 h0
  rw [if_neg (by omega)]
  by_cases h1 : 16 < g.1
  · rw [if_pos h1]
    exact ⟨12, rfl, ⟨fun h => absurd h (by decide), fun h => by have := h.2.1; omega⟩⟩
  rw [if_neg h1]
  by_cases h2 : mark = []
  · rw [if_pos h2]
    exact ⟨5, rfl, ⟨fun h => absurd h (by decide), fun h => absurd h2 h.2.2.1⟩⟩
  rw [if_neg h2]
  by_cases h3 : 32 < (mark.length : Int)
  · rw [if_pos h3]
    exact ⟨4, rfl, ⟨fun h => absurd h (by decide), fun h => by have := h.2.2.2.1; omega⟩⟩
  rw [if_neg h3, hf]
  refine ⟨f, rfl, hy.trans ⟨fun h => ⟨hv, by omega, h2, by omega, h.2.2⟩, fun h => ⟨⟨hv.l1, by omega⟩, by omega, h.2.2.2.2⟩⟩⟩
theorem checkNumber54_tot (g : Gr) (mark : List UInt8) (n : Int) : ∃ e, m_syncmark_checkNumber g mark n = some e ∧ (e = 0 ↔ MOk54 g mark ∧ 0 ≤ n ∧ n ≤ 4096) ∧ (∀ f, m_syncmark_check g mark = some f → f ≠ 0 → e = f) ∧ (MOk54 g mark → e = if n < 0 ∨ 4096 < n then 2 else 0) := by
  obtain ⟨e, he, hz⟩ := check54_tot g mark
  unfold m_syncmark_checkNumber
  rw [he, Option.bind_some]
  by_cases h0 : e = 0
  case neg =>
    rw [if_pos h0]
    refine ⟨e, rfl, ⟨fun h => absurd h h0, fun h => absurd (hz.2 h.1) h0⟩, fun f hf _ => (Option.some.inj hf), fun h => absurd (hz.2 h) h0⟩
  rw [if_neg (by omega)]
  have hm := hz.1 h0
  simp only [jp]
  by_cases h1 : n < 0
  · rw [if_pos h1, if_pos trivial]
    exact ⟨2, rfl, ⟨fun h => absurd h (by decide), fun h => by omega⟩, fun f hf h => absurd (Option.some.inj hf ▸ h0) h, fun _ => (if_pos (.inl h1)).symm⟩
  rw [if_neg h1]
  by_cases h2 : 4096 < n
  · rw [if_pos (decide_eq_true h2)]
    exact ⟨2, rfl, ⟨fun h => absurd h (by decide), fun h => by omega⟩, fun f hf h => absurd (Option.some.inj hf ▸ h0) h, fun _ => (if_pos (.inr h2)).symm⟩
  · rw [if_neg (by rw [decide_eq_true_eq]; exact h2)]
    exact ⟨0, rfl, ⟨fun _ => ⟨hm, by omega, by omega⟩, fun _ => rfl⟩, fun f hf h => absurd (Option.some.inj hf ▸ h0) h, fun _ => (if_neg (by omega)).symm⟩
theorem lets_sub (g : Gr) {c : UInt8} (h : c ∈ lets g) : c ∈ letters := List.mem_of_mem_take h
theorem bad_eq {g : Gr} {mark : List UInt8} (h : MOk54 g mark) {n : Nat} (hn : n ≤ 4096) : m_syncmark_bad g mark (n : Int) = some ((badsW g mark n).headD [], decide (badsW g mark n ≠ [])) := by
  obtain ⟨hv, h16, h1, h2, h3⟩ := h
  unfold m_syncmark_bad
  have hok : badOk g mark (n : Int) := by
    have := hv.l1
    have := hv.s0
    have := hv.s1
    refine ⟨⟨by omega, h16⟩, ⟨by omega, by omega⟩, hv.el, fun x hx => ?_, h1, by omega, fun c hc => lets_sub g (h3 c hc), by omega, by omega⟩
    obtain ⟨e1, e2, e3, e4, e5, e6⟩ := hv.ed x hx
    exact ⟨⟨e1, e2⟩, ⟨e5, e6⟩, e3, e4⟩
  rw [if_pos hok, badF_eq hv h16]
theorem Valid_eq {g : Gr} {mark : List UInt8} (h : MOk54 g mark) {n : Nat} (hn : n ≤ 4096) : m_syncmark_Valid g mark (n : Int) = some (decide (badsW g mark n = []), 0) := by
  obtain ⟨e, he, hz, _⟩ := checkNumber54_tot g mark n
  unfold m_syncmark_Valid
  rw [he, Option.bind_some, if_neg (by rw [hz.2 ⟨h, by omega, by omega⟩]; decide), bad_eq h hn, Option.bind_some]
  simp
theorem Bad_eq {g : Gr} {mark : List UInt8} (h : MOk54 g mark) {n : Nat} (hn : n ≤ 4096) : m_syncmark_Bad g mark (n : Int) = some ((badsW g mark n).headD [], decide (badsW g mark n ≠ []), 0) := by
  obtain ⟨e, he, hz, _⟩ := checkNumber54_tot g mark n
  unfold m_syncmark_Bad
  rw [he, Option.bind_some, if_neg (by rw [hz.2 ⟨h, by omega, by omega⟩]; decide), bad_eq h hn, Option.bind_some]
theorem Free_eq {g : Gr} {mark : List UInt8} (h : MOk54 g mark) : m_syncmark_Free g mark = some (!accB g mark, 0) := by
  obtain ⟨e, he, hz⟩ := check54_tot g mark
  unfold m_syncmark_Free
  rw [he, Option.bind_some, if_neg (by rw [hz.2 h]; decide), Accepts_eq h.1 h.2.1 (w := mark) ⟨by have := h.2.2.2.1; omega, h.2.2.2.2⟩, Option.bind_some]
  rfl
end Go.AW

/- Models, printed by lk.py. -/
namespace Go.AW
open Go
set_option linter.unusedVariables false
end Go.AW

/- Models, printed by lk.py. -/
namespace Go.AW
open Go
set_option linter.unusedVariables false
end Go.AW

/- Which graphs and marks the statements examine; the law of marks that are no words. -/
namespace Go.AW
open Go
set_option linter.unusedVariables false
set_option linter.unusedSimpArgs false
end Go.AW

/- Models, printed by lk.py. -/
namespace Go.AW
open Go
set_option linter.unusedVariables false
noncomputable def m_cmp_Less_int (p0 : Int) (p1 : Int) : Option (Bool) :=
 jp (fun (a1 : Bool) =>
   some a1)
   fun k3 =>
  (m_cmp_isNaN_int p0).bind fun x4 =>
  if x4 = true then
   (m_cmp_isNaN_int p1).bind fun x6 =>
   if (!x6) = true then
    k3 true
   else
    k3 (decide (p0 < p1))
  else
   k3 (decide (p0 < p1))

noncomputable def m_slices_IsSorted_Lint_int (p0 : List (Int)) : Option (Bool) :=
 lpO (loopW (S := Int) (X := Ou (Unit) (Bool)) (fun a1 =>
     if 0 < a1 then
      (idx p0 a1).bind fun x5 =>
      (idx p0 (IntKind.wrap .i64 (a1 - 1))).bind fun x7 =>
      (m_cmp_Less_int x5 x7).bind fun x9 =>
      if x9 = true then
       some (Stp.exit (Ou.ret false))
      else
       some (Stp.next (IntKind.wrap .i64 (a1 - 1)))
     else
      some (Stp.exit (Ou.go ()))) (IntKind.wrap .i64 (((p0).length : Int) - 1))) (fun a11 =>
     some true) some

noncomputable def m_law54_SyncmarkOverlaps (p0 : List UInt8) : Option (Bool) :=
 jp (fun (a1 : Bool) =>
   if a1 = true then
    (m_law54_awake).bind fun x4 =>
    some x4
   else
    (m_syncmark_Overlaps p0).bind fun x6 =>
    lpO (loopW (S := Int) (X := Ou (Unit) (Bool)) (fun a8 =>
        if a8 < ((p0).length : Int) then
         if 0 ≤ (0 : Int) ∧ (0 : Int) ≤ a8 ∧ a8 ≤ (p0.length : Int) then
          (m_strings_HasSuffix p0 ((p0.take (a8).toNat).drop (0 : Int).toNat)).bind fun x13 =>
          (m_slices_Contains_Lint_int x6 a8).bind fun x15 =>
          if (!(x13 == x15)) = true then
           some (Stp.exit (Ou.ret false))
          else
           some (Stp.next (IntKind.wrap .i64 (a8 + 1)))
         else none
        else
         some (Stp.exit (Ou.go ()))) 1) (fun a17 =>
        if p0.length + p0.length ≤ maxLen then
         (m_syncmark_Occurs p0 (p0 ++ p0)).bind fun x20 =>
         if p0 = ([] : List UInt8) then
          jp (fun (a22 : Bool) =>
            some a22)
            fun k24 =>
           if ((x6).length : Int) = 0 then
            (m_law54_awake).bind fun x25 =>
            k24 x25
           else
            k24 false
         else
          if ((x6).length : Int) = 0 then
           jp (fun (a28 : Bool) =>
             some a28)
             fun k30 =>
            (m_slices_Equal_Lint_int x20 [0, ((p0).length : Int)]).bind fun x31 =>
            if x31 = true then
             (m_law54_awake).bind fun x33 =>
             k30 x33
            else
             k30 false
          else
           lpO (loopW (S := Int) (X := Ou (Unit) (Bool)) (fun a36 =>
               if a36 < ((x20).length : Int) then
                (idx x20 a36).bind fun x40 =>
                jp (fun (a42 : Bool) =>
                  if a42 = true then
                   some (Stp.exit (Ou.ret false))
                  else
                   some (Stp.next (IntKind.wrap .i64 (a36 + 1))))
                  fun k44 =>
                 if x40 ≠ 0 then
                  if x40 ≠ ((p0).length : Int) then
                   (m_slices_Contains_Lint_int x6 (IntKind.wrap .i64 (((p0).length : Int) - x40))).bind fun x45 =>
                   if x45 = true then
                    (m_slices_Contains_Lint_int x6 x40).bind fun x47 =>
                    k44 (!x47)
                   else
                    k44 true
                  else
                   k44 false
                 else
                  k44 false
               else
                some (Stp.exit (Ou.go ()))) 0) (fun a52 =>
               jp (fun (a54 : Bool) =>
                 some a54)
                 fun k56 =>
                (m_slices_IsSorted_Lint_int x6).bind fun x57 =>
                if x57 = true then
                 (m_law54_awake).bind fun x59 =>
                 k56 x59
                else
                 k56 false) some
        else none) some)
   fun k3 =>
  if 20 < ((p0).length : Int) then
   k3 true
  else
   (m_word_Check 16 p0).bind fun x62 =>
   k3 (decide (x62 ≠ 0))

end Go.AW

/- Overlaps, and where marks stand in a mark behind a mark. -/
namespace Go.AW
open Go
set_option linter.unusedVariables false
set_option linter.unusedSimpArgs false
def ovB (mark : List UInt8) (n : Nat) : List Int := ((List.range n).filter fun k => decide (1 ≤ k) && (mark.take k).isSuffixOf mark).map Int.ofNat
def ovL (mark : List UInt8) : List Int := ovB mark (mark.length - 1 + 1)
theorem ovB_succ (mark : List UInt8) {k : Nat} (hk : 1 ≤ k) : ovB mark (k + 1) = ovB mark k ++ if (mark.take k).isSuffixOf mark = true then [(k : Int)] else [] := by
  unfold ovB
  rw [List.range_succ, List.filter_append, List.map_append]
  congr 1
  rw [List.filter_cons, decide_eq_true hk, Bool.true_and]
  split <;> rfl
theorem ovB_len (mark : List UInt8) (n : Nat) : (ovB mark n).length ≤ n := by
  unfold ovB
  rw [List.length_map]
  have := List.length_filter_le (fun k => decide (1 ≤ k) && (mark.take k).isSuffixOf mark) (List.range n)
  rw [List.length_range] at this
  exact this
theorem mem_ovL {mark : List UInt8} {x : Int} : x ∈ ovL mark ↔ 1 ≤ x ∧ x < mark.length ∧ mark.take x.toNat <:+ mark := by
  unfold ovL ovB
  rw [List.mem_map]
  constructor
  · rintro ⟨k, hk, rfl⟩
    obtain ⟨h1, h2⟩ := List.mem_filter.1 hk
    rw [List.mem_range] at h1
    obtain ⟨h3, h4⟩ := Bool.and_eq_true_iff.1 h2
    have h3 := of_decide_eq_true h3
    simp only [Int.ofNat_eq_natCast, Int.toNat_natCast]
    exact ⟨by omega, by omega, List.isSuffixOf_iff_suffix.1 h4⟩
  · rintro ⟨h1, h2, h3⟩
    refine ⟨x.toNat, List.mem_filter.2 ⟨List.mem_range.2 (by omega), ?_⟩, by simp only [Int.ofNat_eq_natCast]; omega⟩
    rw [Bool.and_eq_true, decide_eq_true_eq]
    exact ⟨by omega, List.isSuffixOf_iff_suffix.2 h3⟩
theorem ovL_asc (mark : List UInt8) : (ovL mark).Pairwise (· < ·) := by
  unfold ovL ovB
  rw [List.pairwise_map]
  refine ((List.pairwise_lt_range (n := mark.length - 1 + 1)).filter _).imp fun {x y} h => ?_
  show (x : Int) < (y : Int)
  omega
theorem ovL_len (mark : List UInt8) : (ovL mark).length ≤ mark.length + 1 := by
  have := ovB_len mark (mark.length - 1 + 1)
  unfold ovL
  omega
theorem Overlaps_eq {mark : List UInt8} (hm : mark.length ≤ 1000000) : m_syncmark_Overlaps mark = some (ovL mark) := by
  unfold m_syncmark_Overlaps
  refine bindL (loop_is (fun i => (((i + 1 : Nat) : Int), ovB mark (i + 1))) (mark.length - 1) (ovL mark) (fun i hi => ?_) ?_ rfl) rfl
  · dsimp only
    rw [if_pos (by omega)]
    simp only [jp]
    rw [if_pos ⟨Int.le_refl _, by omega, by omega⟩, HasSuffix_eq (by omega), Option.bind_some, Int.toNat_natCast, nx (n := 1000001) (by omega) (by omega), ovB_succ mark (k := i + 1) (by omega)]
    have hb := ovB_len mark (i + 1)
    rw [show ((mark.take (i + 1)).drop (0 : Int).toNat) = mark.take (i + 1) from rfl]
    by_cases h : (mark.take (i + 1)).isSuffixOf mark = true
    · rw [if_pos h, if_pos h, if_pos ⟨by simp; omega, by simp; have : 2000000 ≤ maxLen := by decide
                                                         omega⟩]
    · rw [if_neg h, if_neg h, List.append_nil]
  · dsimp only
    rw [if_neg (by omega)]
    rfl
theorem mem_occL {w u : List UInt8} {x : Int} : x ∈ occL w u ↔ 0 ≤ x ∧ x ≤ w.length ∧ u <+: w.drop x.toNat := by
  unfold occL occB
  rw [List.mem_map]
  constructor
  · rintro ⟨k, hk, rfl⟩
    obtain ⟨h1, h2⟩ := List.mem_filter.1 hk
    rw [List.mem_range] at h1
    simp only [Int.ofNat_eq_natCast, Int.toNat_natCast]
    exact ⟨by omega, by omega, List.isPrefixOf_iff_prefix.1 h2⟩
  · rintro ⟨h1, h2, h3⟩
    exact ⟨x.toNat, List.mem_filter.2 ⟨List.mem_range.2 (by omega), List.isPrefixOf_iff_prefix.2 h3⟩, by simp only [Int.ofNat_eq_natCast]; omega⟩
theorem occL_asc (w u : List UInt8) : (occL w u).Pairwise (· < ·) := by
  unfold occL occB
  rw [List.pairwise_map]
  refine ((List.pairwise_lt_range (n := w.length + 1)).filter _).imp fun {x y} h => ?_
  show (x : Int) < (y : Int)
  omega
theorem occL_len (w u : List UInt8) : (occL w u).length ≤ w.length + 1 := by
  unfold occL occB
  rw [List.length_map]
  have := List.length_filter_le (fun i => u.isPrefixOf (w.drop i)) (List.range (w.length + 1))
  rw [List.length_range] at this
  exact this
theorem Find_eq {w u : List UInt8} (hw : w.length ≤ 1000000) (hu : u.length ≤ 1000000) : m_word_Find w u = some (occL w u) := by
  unfold m_word_Find y_word_occurrences
  rw [if_pos ⟨by omega, by omega⟩, Option.bind_some]
  have hl := occL_len w u
  have hgen : ∀ (L acc : List Int), acc.length + L.length ≤ 1000001 → forL (S := (List Int)) (X := Unit) (fun a5 (x7 : Int) =>
     if fits 8 ((a5 : List Int).length + ([x7]).length) then
      some (Stp.next (a5 ++ [x7]))
     else none) L acc = some (.go (acc ++ L)) := by
    intro L
    induction L with
    | nil => intro acc _; rw [List.append_nil]; rfl
    | cons x L ih =>
      intro acc h
      rw [List.length_cons] at h
      unfold forL
      rw [if_pos ⟨by simp; omega, by simp; have : 2000000 ≤ maxLen := by decide
                                     omega⟩]
      dsimp only
      rw [ih (acc ++ [x]) (by rw [List.length_append, List.length_singleton]; omega), List.append_assoc]
      rfl
  rw [hgen (occL w u) [] (by rw [List.length_nil]; omega), List.nil_append]
  rfl
theorem Occurs_eq {w u : List UInt8} (hw : w.length ≤ 1000000) (hu : u.length ≤ 1000000) : m_syncmark_Occurs u w = some (occL w u) := by
  unfold m_syncmark_Occurs
  rw [Find_eq hw hu]
  rfl
theorem twice_at {mark : List UInt8} {x : Int} (h : x ∈ occL (mark ++ mark) mark) (h0 : x ≠ 0) (h1 : x ≠ mark.length) : x ∈ ovL mark ∧ (mark.length : Int) - x ∈ ovL mark := by
  obtain ⟨a0, a1, a2⟩ := mem_occL.1 h
  obtain ⟨k, rfl⟩ := Int.eq_ofNat_of_zero_le a0
  rw [Int.toNat_natCast] at a2
  have hl := a2.length_le
  rw [List.length_drop, List.length_append] at hl
  rw [List.length_append] at a1
  have hk : k < mark.length := by omega
  rw [show (mark ++ mark).drop k = mark.drop k ++ mark from List.drop_append_of_le_length (Nat.le_of_lt hk)] at a2
  obtain ⟨t, ht⟩ := a2
  have hlk : (mark.drop k).length = mark.length - k := List.length_drop ..
  have hd : mark.drop k = mark.take (mark.length - k) := by
    have h2 := congrArg (List.take (mark.length - k)) ht
    rw [List.take_left' hlk, List.take_append_of_le_length (by omega)] at h2
    exact h2.symm
  have hlm : (mark.drop (mark.length - k)).length = k := by rw [List.length_drop]; omega
  have he : mark.drop (mark.length - k) = mark.take k := by
    have h2 := congrArg (List.drop (mark.length - k)) ht
    rw [List.drop_left' hlk, List.drop_append_of_le_length (by omega)] at h2
    have h3 := congrArg (List.take k) h2
    rw [List.take_left' hlm] at h3
    exact h3
  refine ⟨mem_ovL.2 ⟨by omega, by omega, ?_⟩, mem_ovL.2 ⟨by omega, by omega, ?_⟩⟩
  · rw [Int.toNat_natCast, ← he]
    exact List.drop_suffix _ _
  · rw [show ((mark.length : Int) - (k : Int)).toNat = mark.length - k by omega, ← hd]
    exact List.drop_suffix _ _
theorem twice_none {mark : List UInt8} (hm : mark ≠ []) (h : ovL mark = []) : occL (mark ++ mark) mark = [0, (mark.length : Int)] := by
  have hl := List.length_pos_iff.2 hm
  refine asc_uniq (occL_asc _ _) (by simp; omega) fun x => ?_
  constructor
  · intro hx
    by_cases h0 : x = 0
    · subst h0; simp
    · by_cases h1 : x = mark.length
      · subst h1; simp
      · have := (twice_at hx h0 h1).1
        rw [h] at this
        cases this
  · intro hx
    simp only [List.mem_cons, List.not_mem_nil, or_false] at hx
    rcases hx with rfl | rfl
    · exact mem_occL.2 ⟨Int.le_refl _, by omega, by simp⟩
    · exact mem_occL.2 ⟨by omega, by rw [List.length_append]; omega, by rw [Int.toNat_natCast, List.drop_left]; exact List.prefix_refl _⟩
theorem LessI54 (a b : Int) : m_cmp_Less_int a b = some (decide (a < b)) := by
  unfold m_cmp_Less_int m_cmp_isNaN_int
  simp [jp]
theorem IsSorted54 {l : List Int} (hm : l.length ≤ 1000000) (h : l.Pairwise (· < ·)) : m_slices_IsSorted_Lint_int l = some true := by
  unfold m_slices_IsSorted_Lint_int
  by_cases h0 : l.length = 0
  · rw [h0]
    refine lpL (loopW_exit (x := .go ()) ?_) rfl
    rw [if_neg (by decide)]
  · refine lpL (loop_is (fun i => ((l.length - 1 - i : Nat) : Int)) (l.length - 1) (Ou.go ()) (fun i hi => ?_) ?_ ?_) rfl
    · have hlt : l.length - 1 - i < l.length := by omega
      rw [if_pos (by omega), ix hlt]
      simp only [Option.bind_some]
      rw [ix_pred hlt (by omega) (by omega)]
      simp only [Option.bind_some, LessI54]
      have hp := List.pairwise_iff_getElem.1 h (l.length - 1 - i - 1) (l.length - 1 - i) (by omega) hlt (by omega)
      rw [if_neg (by rw [decide_eq_true_eq]; omega), show IntKind.wrap .i64 (((l.length - 1 - i : Nat) : Int) - 1) = ((l.length - 1 - (i + 1) : Nat) : Int) by rw [w64 (by omega) (by omega)]; omega]
    · rw [if_neg (by omega)]
    · rw [w64 (by omega) (by omega)]; omega
theorem law54_overlaps (mark : List UInt8) : m_law54_SyncmarkOverlaps mark = some true := by
  obtain ⟨e, he, hz⟩ := wcheck 16 mark
  unfold m_law54_SyncmarkOverlaps
  simp only [jp, he, Option.bind_some, m_law54_awake, if_true]
  by_cases hl : 20 < (mark.length : Int)
  · rw [if_pos hl]
  rw [if_neg hl]
  by_cases h0 : e = 0
  case neg => rw [if_pos (decide_eq_true h0)]
  rw [if_neg (by rw [decide_eq_true_eq]; exact fun h => h h0), Overlaps_eq (by omega), Option.bind_some]
  have hol := ovL_len mark
  refine lpL (loop_is (fun i => ((i + 1 : Nat) : Int)) (mark.length - 1) (.go ()) (fun i hi => ?_) ?_ rfl) ?_
  · rw [if_pos (by omega), if_pos ⟨Int.le_refl _, by omega, by omega⟩, HasSuffix_eq (by omega), Option.bind_some, ContainsI_eq (by omega), Option.bind_some, nx (n := 1000001) (by omega) (by omega)]
    rw [if_neg]
    have hd : decide (((i + 1 : Nat) : Int) ∈ ovL mark) = (mark.take (i + 1)).isSuffixOf mark := by
      rw [Bool.eq_iff_iff, decide_eq_true_eq, mem_ovL, List.isSuffixOf_iff_suffix, Int.toNat_natCast]
      exact ⟨fun h => h.2.2, fun h => ⟨by omega, by omega, h⟩⟩
    rw [hd]
    rw [show ((mark.take (((i + 1 : Nat) : Int)).toNat).drop (0 : Int).toNat) = mark.take (i + 1) from rfl]
    simp
  · rw [if_neg (by omega)]
  · simp only [lpO]
    have hmx : 2000000 ≤ maxLen := by decide
    rw [if_pos (by omega), Occurs_eq (by rw [List.length_append]; omega) (by omega), Option.bind_some]
    by_cases hm : mark = []
    · subst hm
      rw [if_pos rfl]
      rfl
    rw [if_neg hm]
    by_cases hv : ovL mark = []
    · rw [if_pos (by rw [hv]; rfl), twice_none hm hv, EqI_eq (by simp), Option.bind_some]
      simp
    · rw [if_neg (by have := List.length_pos_iff.2 hv; omega)]
      have hpl := occL_len (mark ++ mark) mark
      rw [List.length_append] at hpl
      refine lpL (loop_is (fun i => (i : Int)) (occL (mark ++ mark) mark).length (.go ()) (fun i hi => ?_) ?_ rfl) ?_
      · rw [if_pos (lt_int hi), ix hi, Option.bind_some, nx (n := 1000) (by omega) (by omega)]
        have hx := List.getElem_mem hi
        by_cases h1 : (occL (mark ++ mark) mark)[i] = 0
        · rw [if_neg (fun h => h h1)]; rfl
        rw [if_pos h1]
        by_cases h2 : (occL (mark ++ mark) mark)[i] = (mark.length : Int)
        · rw [if_neg (fun h => h h2)]; rfl
        rw [if_pos h2]
        obtain ⟨b1, b2⟩ := twice_at hx h1 h2
        obtain ⟨c1, c2, _⟩ := mem_ovL.1 b2
        rw [w64 (by omega) (by omega), ContainsI_eq (by omega), Option.bind_some, decide_eq_true b2, if_pos rfl, ContainsI_eq (by omega), Option.bind_some, decide_eq_true b1]
        rfl
      · rw [if_neg (not_lt_int _)]
      · simp only [lpO]
        rw [IsSorted54 (by omega) (ovL_asc mark), Option.bind_some]
        rfl
end Go.AW

/- The anchor of chapter 54. -/
namespace Go.AW
open Go
set_option linter.unusedVariables false
def gEx54 : Gr := (2, 2, [(0, 0, 0), (0, 1, 1), (1, 0, 0)])
theorem gEx54_ok : VG gEx54 where
  l1 := by decide
  l2 := by decide
  s0 := by decide
  s1 := by decide
  el := by decide
  ed := by decide
  ord := fun i h => match i, h with
    | 0, _ => by show cmp3 ((0, 0, 0) : Int × Int × Int) (0, 1, 1) < 0; decide
    | 1, _ => by show cmp3 ((0, 1, 1) : Int × Int × Int) (1, 0, 0) < 0; decide
    | n + 2, h => absurd h (by show ¬ n + 2 + 1 < 3; omega)
theorem mEx54_ok {mark : List UInt8} (h1 : mark ≠ []) (h2 : mark.length ≤ 32) (h3 : ∀ c ∈ mark, c ∈ lets gEx54) : MOk54 gEx54 mark := ⟨gEx54_ok, by decide, h1, h2, h3⟩
theorem awake54_eq : m_law54_awakeG = some true := by
  unfold m_law54_awakeG
  have v1 := Valid_eq (mEx54_ok (mark := [49, 49]) (by decide) (by decide) (by decide)) (n := 1) (by decide)
  have v2 := Bad_eq (mEx54_ok (mark := [49, 49]) (by decide) (by decide) (by decide)) (n := 1) (by decide)
  have v3 := Valid_eq (mEx54_ok (mark := [49, 49, 48]) (by decide) (by decide) (by decide)) (n := 1) (by decide)
  have v4 := Free_eq (mEx54_ok (mark := [49, 49, 48]) (by decide) (by decide) (by decide))
  have b1 : badsW gEx54 [49, 49] 1 = [[49]] := by decide +kernel
  have b2 : badsW gEx54 [49, 49, 48] 1 = [] := by decide +kernel
  have b3 : accB gEx54 [49, 49, 48] = false := by decide +kernel
  rw [b1] at v1 v2
  rw [b2] at v3
  rw [b3] at v4
  rw [show m_syncmark_Valid (2, 2, [(0, 0, 0), (0, 1, 1), (1, 0, 0)]) [49, 49] 1 = some (false, 0) from v1, show m_syncmark_Bad (2, 2, [(0, 0, 0), (0, 1, 1), (1, 0, 0)]) [49, 49] 1 = some ([49], true, 0) from v2, show m_syncmark_Valid (2, 2, [(0, 0, 0), (0, 1, 1), (1, 0, 0)]) [49, 49, 48] 1 = some (true, 0) from v3, show m_syncmark_Free (2, 2, [(0, 0, 0), (0, 1, 1), (1, 0, 0)]) [49, 49, 48] = some (true, 0) from v4]
  rw [Overlaps_eq (by decide), Occurs_eq (by decide) (by decide), show ovL [48, 49, 49, 48] = [1] by decide +kernel, show occL [49, 49, 49, 49, 49] [49, 49] = [0, 1, 2, 3] by decide +kernel]
  simp only [jp, Option.bind_some]
  rw [EqI_eq (by decide), EqI_eq (by decide)]
  rfl
end Go.AW

/- The anchor of chapter 54. -/
namespace Go.AW
open Go Go.Proofs
theorem w_law54_awake {r : Bool} (h : m_law54_awake = some r) : Pure Try.prog 9 [] (· = HV.bool r) := by
  cases h
  exact w_law54_awakeG awake54_eq
end Go.AW

namespace Go.AW
open Go Go.Proofs
set_option linter.unusedVariables false
set_option maxHeartbeats 1600000 in
set_option maxRecDepth 100000 in
theorem w_slices_Index_Lint_int {p0 : List (Int)} {p1 : Int} {r : Int} (h : m_slices_Index_Lint_int p0 p1 = some r) : Pure Try.prog 48 [slE eInt p0, HV.int .i64 p1] (· = HV.int .i64 r) := by
 unfold m_slices_Index_Lint_int at h
 refine Pure.of_body Try.func48 rfl rfl (Nat.le_of_ble_eq_true rfl) fun hf => ?_
 unfold Try.f48
 dsimp only [enumS, Nat.reduceAdd]
 refine AW.rgs rfl fun K hK => ?_
 refine mv rfl rfl ?_
 refine b_fin hK (s' := ⟨[(0, slE eInt p0), (1, HV.int .i64 p1)], []⟩) (le_q rfl rfl) ?_
 clear hK K
 refine AW.seq ?_
 refine AW.rgs rfl fun K hK => ?_
 refine mv rfl rfl ?_
 refine bv rfl (v_lenF rfl rfl ty35 rfl) ?_
 refine mv rfl rfl ?_
 refine b_fin hK (s' := ⟨[(0, slE eInt p0), (1, HV.int .i64 p1), (7, HV.int .i64 ((p0).length : Int)), (8, HV.int .i64 0)], []⟩) (le_q rfl rfl) ?_
 clear hK K
 refine AW.lpR h (by first | exact up_then | exact up_to) (S := Int) (V := Unit) (fun a v => ⟨[(0, slE eInt p0), (1, HV.int .i64 p1), (7, HV.int .i64 ((p0).length : Int)), (8, HV.int .i64 a)], []⟩) ?_ (X := Unit) (W := Unit) (fun a v => ⟨[], []⟩) (fun a7 w8 h => ?_) (fun a1 w2 st3 h hr4=> ?_)
 ·exact to_le (s' := ⟨[(0, slE eInt p0), (1, HV.int .i64 p1), (7, HV.int .i64 ((p0).length : Int)), (8, HV.int .i64 0)], []⟩) (AS.le_of ⟨rfl, rfl, rfl, rfl, trivial⟩ trivial) ⟨(), rfl⟩
 ·refine AW.rgs rfl fun K hK => ?_
  refine mv rfl rfl ?_
  refine b_fin hK (s' := ⟨[(4, HV.int .i64 (-1))], []⟩) (le_q rfl rfl) ?_
  clear hK K
  refine AW.ret ?_
  have h := Option.some.inj h
  subst h
  exact ret_pure (hs := [HV.int .i64 (-1)]) (q := HV.int .i64 (-1)) (.inr rfl) (resT rfl rfl) rfl trivial
 refine AW.rgs rfl fun K hK => ?_
 refine bv rfl (v_bin rfl rfl b_lss) ?_
 refine b_fin hK (s' := ⟨[(0, slE eInt p0), (1, HV.int .i64 p1), (7, HV.int .i64 ((p0).length : Int)), (8, HV.int .i64 a1), (9, HV.bool (decide (a1 < ((p0).length : Int))))], []⟩) (le_q rfl rfl) ?_
 clear hK K
 refine AW.cseq rfl (fun hc => ?_) (fun hc => ?_)
 ·have hc := of_decide_eq_true hc
  have h := ifT hc h
  refine AW.skip ?_
  refine AW.seq (AW.block ?_)
  refine AW.rgs rfl fun K hK => ?_
  refine mv rfl rfl ?_
  refine mv rfl rfl ?_
  refine b_fin hK (s' := ⟨[(0, slE eInt p0), (1, HV.int .i64 p1), (5, HV.int .i64 a1), (7, HV.int .i64 ((p0).length : Int)), (8, HV.int .i64 a1)], []⟩) (le_q rfl rfl) ?_
  clear hK K
  refine AW.rgs rfl fun K hK => ?_
  refine mv rfl rfl ?_
  refine mv rfl rfl ?_
  refine mv rfl rfl ?_
  obtain ⟨x5, h6, h⟩ := bS h
  refine bv rfl (v_idxF ty35 es35 rfl rfl (idx_lt h6)) ?_
  refine bv rfl (v_loadF ty3 rfl (l_cell eInt h6 (o := 0) rfl rfl)) ?_
  refine bv rfl (v_bin rfl rfl b_eql) ?_
  refine b_fin hK (s' := ⟨[(0, slE eInt p0), (1, HV.int .i64 p1), (5, HV.int .i64 a1), (7, HV.int .i64 ((p0).length : Int)), (8, HV.int .i64 a1), (16, HV.bool (decide (p1 = x5)))], []⟩) (le_q rfl rfl) ?_
  clear hK K
  refine AW.cond rfl (fun hc => ?_) (fun hc => ?_)
  ·have hc := of_decide_eq_true hc
   have h := ifT hc h
   refine AW.rgs rfl fun K hK => ?_
   refine mv rfl rfl ?_
   refine mv rfl rfl ?_
   refine b_fin hK (s' := ⟨[(4, HV.int .i64 a1)], []⟩) (le_q rfl rfl) ?_
   clear hK K
   have h := hr4 _ h
   refine AW.ret ?_
   have h := Option.some.inj h
   subst h
   exact ret_pure (hs := [HV.int .i64 a1]) (q := HV.int .i64 a1) (.inr rfl) (resT rfl rfl) rfl trivial
  have hc := of_decide_eq_false hc
  have h := ifF hc h
  refine AW.skip ?_
  refine AW.rg rfl fun K hK => ?_
  refine bv rfl (v_bin rfl rfl b_add) ?_
  refine mv rfl rfl ?_
  refine b_nil (hK _ ?_)
  clear hK K
  exact to_le (s' := ⟨[(0, slE eInt p0), (1, HV.int .i64 p1), (7, HV.int .i64 ((p0).length : Int)), (8, HV.int .i64 (IntKind.wrap .i64 (a1 + 1)))], []⟩) (AS.le_of ⟨rfl, rfl, rfl, rfl, trivial⟩ trivial) ⟨IntKind.wrap .i64 (a1 + 1), (), h, rfl⟩
 have hc := of_decide_eq_false hc
 have h := ifF hc h
 refine AW.exit ?_
 exact to_le (s' := ⟨[], []⟩) (AS.le_of trivial trivial) ⟨(), (), h, rfl⟩

set_option maxHeartbeats 1600000 in
set_option maxRecDepth 100000 in
theorem w_slices_Contains_Lint_int {p0 : List (Int)} {p1 : Int} {r : Bool} (h : m_slices_Contains_Lint_int p0 p1 = some r) : Pure Try.prog 26 [slE eInt p0, HV.int .i64 p1] (· = HV.bool r) := by
 unfold m_slices_Contains_Lint_int at h
 refine Pure.of_body Try.func26 rfl rfl (Nat.le_of_ble_eq_true rfl) fun hf => ?_
 unfold Try.f26
 dsimp only [enumS, Nat.reduceAdd]
 refine AW.rgs rfl fun K hK => ?_
 refine mv rfl rfl ?_
 refine b_fin hK (s' := ⟨[(0, slE eInt p0), (1, HV.int .i64 p1)], []⟩) (le_q rfl rfl) ?_
 clear hK K
 refine AW.rgs rfl fun K hK => ?_
 refine mv rfl rfl ?_
 refine mv rfl rfl ?_
 obtain ⟨x1, h2, h⟩ := bS h
 refine b_op rfl (o_call rfl rfl rfl rfl (ACallD.pure0 (w_slices_Index_Lint_int h2)) ?_)
 refine bv rfl (v_bin rfl rfl b_geq) ?_
 refine mv rfl rfl ?_
 refine b_fin hK (s' := ⟨[(4, HV.bool (decide (0 ≤ x1)))], []⟩) (le_q rfl rfl) ?_
 clear hK K
 refine AW.ret ?_
 have h := Option.some.inj h
 subst h
 exact ret_pure (hs := [HV.bool (decide (0 ≤ x1))]) (q := HV.bool (decide (0 ≤ x1))) (.inr rfl) (resT rfl rfl) rfl trivial

set_option maxHeartbeats 1600000 in
set_option maxRecDepth 100000 in
theorem w_cmp_Less_int {p0 : Int} {p1 : Int} {r : Bool} (h : m_cmp_Less_int p0 p1 = some r) : Pure Try.prog 49 [HV.int .i64 p0, HV.int .i64 p1] (· = HV.bool r) := by
 unfold m_cmp_Less_int at h
 refine Pure.of_body Try.func49 rfl rfl (Nat.le_of_ble_eq_true rfl) fun hf => ?_
 unfold Try.f49
 dsimp only [enumS, Nat.reduceAdd]
 refine AW.rgs rfl fun K hK => ?_
 refine mv rfl rfl ?_
 refine b_fin hK (s' := ⟨[(0, HV.int .i64 p0), (1, HV.int .i64 p1)], []⟩) (le_q rfl rfl) ?_
 clear hK K
 refine AW.seqJ h (S := Bool) (V := Unit) (fun a v => ⟨[(4, HV.bool a)], []⟩) (fun a1 w2 h => ?_) (fun k3 h => ?_)
 ·refine AW.ret ?_
  have h := Option.some.inj h
  subst h
  exact ret_pure (hs := [HV.bool a1]) (q := HV.bool a1) (.inr rfl) (resT rfl rfl) rfl trivial
 refine AW.rg rfl fun K hK => ?_
 refine mv rfl rfl ?_
 obtain ⟨x4, h5, h⟩ := bS h
 refine b_op rfl (o_call rfl rfl rfl rfl (ACallD.pure0 (w_cmp_isNaN_int h5)) ?_)
 refine mv rfl rfl ?_
 by_cases hg9 : x4 = true
 ·have h := ifT hg9 h
  refine b_T rfl rfl rfl rfl hg9 (o_val rfl (mv_val rfl rfl).2 ?_)
  obtain ⟨x6, h7, h⟩ := bS h
  refine b_T rfl rfl rfl rfl rfl (o_call rfl rfl rfl rfl (ACallD.pure0 (w_cmp_isNaN_int h7)) ?_)
  refine b_T rfl rfl rfl rfl rfl (o_val rfl (v_not rfl) ?_)
  refine bv rfl (v_pickT rfl rfl rfl) ?_
  refine mv rfl rfl ?_
  by_cases hg8 : (!x6) = true
  ·have h := ifT hg8 h
   refine b_F rfl rfl rfl rfl rfl hg8 ?_
   refine b_F rfl rfl rfl rfl rfl rfl ?_
   refine b_F rfl rfl rfl rfl rfl rfl ?_
   refine bv rfl (v_pickT rfl rfl rfl) ?_
   refine mv rfl rfl ?_
   refine b_nil (hK _ ?_)
   clear hK K
   exact to_le (s' := ⟨[(4, HV.bool true)], []⟩) (AS.le_of ⟨rfl, trivial⟩ trivial) ⟨true, (), h, rfl⟩
  have h := ifF hg8 h
  refine b_T rfl rfl rfl rfl (bF hg8) (o_val rfl (mv_val rfl rfl).2 ?_)
  refine b_T rfl rfl rfl rfl rfl (o_val rfl (mv_val rfl rfl).2 ?_)
  refine b_T rfl rfl rfl rfl rfl (o_val rfl (v_bin rfl rfl b_lss) ?_)
  refine bv rfl (v_pickF rfl rfl rfl) ?_
  refine mv rfl rfl ?_
  refine b_nil (hK _ ?_)
  clear hK K
  exact to_le (s' := ⟨[(4, HV.bool (decide (p0 < p1)))], []⟩) (AS.le_of ⟨rfl, trivial⟩ trivial) ⟨decide (p0 < p1), (), h, rfl⟩
 have h := ifF hg9 h
 refine b_F rfl rfl rfl rfl rfl (bF hg9) ?_
 refine b_F rfl rfl rfl rfl rfl rfl ?_
 refine b_F rfl rfl rfl rfl rfl rfl ?_
 refine bv rfl (v_pickF rfl rfl rfl) ?_
 refine mv rfl rfl ?_
 refine b_T rfl rfl rfl rfl rfl (o_val rfl (mv_val rfl rfl).2 ?_)
 refine b_T rfl rfl rfl rfl rfl (o_val rfl (mv_val rfl rfl).2 ?_)
 refine b_T rfl rfl rfl rfl rfl (o_val rfl (v_bin rfl rfl b_lss) ?_)
 refine bv rfl (v_pickF rfl rfl rfl) ?_
 refine mv rfl rfl ?_
 refine b_nil (hK _ ?_)
 clear hK K
 exact to_le (s' := ⟨[(4, HV.bool (decide (p0 < p1)))], []⟩) (AS.le_of ⟨rfl, trivial⟩ trivial) ⟨decide (p0 < p1), (), h, rfl⟩

set_option maxHeartbeats 1600000 in
set_option maxRecDepth 100000 in
theorem w_slices_IsSorted_Lint_int {p0 : List (Int)} {r : Bool} (h : m_slices_IsSorted_Lint_int p0 = some r) : Pure Try.prog 27 [slE eInt p0] (· = HV.bool r) := by
 unfold m_slices_IsSorted_Lint_int at h
 refine Pure.of_body Try.func27 rfl rfl (Nat.le_of_ble_eq_true rfl) fun hf => ?_
 unfold Try.f27
 dsimp only [enumS, Nat.reduceAdd]
 refine AW.rgs rfl fun K hK => ?_
 refine mv rfl rfl ?_
 refine b_fin hK (s' := ⟨[(0, slE eInt p0)], []⟩) (le_q rfl rfl) ?_
 clear hK K
 refine AW.seq ?_
 refine AW.rgs rfl fun K hK => ?_
 refine mv rfl rfl ?_
 refine bv rfl (v_lenF rfl rfl ty35 rfl) ?_
 refine bv rfl (v_bin rfl rfl b_sub) ?_
 refine mv rfl rfl ?_
 refine b_fin hK (s' := ⟨[(0, slE eInt p0), (3, HV.int .i64 (IntKind.wrap .i64 (((p0).length : Int) - 1)))], []⟩) (le_q rfl rfl) ?_
 clear hK K
 refine AW.lpR h (by first | exact up_then | exact up_to) (S := Int) (V := Unit) (fun a v => ⟨[(0, slE eInt p0), (3, HV.int .i64 a)], []⟩) ?_ (X := Unit) (W := Unit) (fun a v => ⟨[], []⟩) (fun a11 w12 h => ?_) (fun a1 w2 st3 h hr4=> ?_)
 ·exact to_le (s' := ⟨[(0, slE eInt p0), (3, HV.int .i64 (IntKind.wrap .i64 (((p0).length : Int) - 1)))], []⟩) (AS.le_of ⟨rfl, rfl, trivial⟩ trivial) ⟨(), rfl⟩
 ·refine AW.rgs rfl fun K hK => ?_
  refine mv rfl rfl ?_
  refine b_fin hK (s' := ⟨[(2, HV.bool true)], []⟩) (le_q rfl rfl) ?_
  clear hK K
  refine AW.ret ?_
  have h := Option.some.inj h
  subst h
  exact ret_pure (hs := [HV.bool true]) (q := HV.bool true) (.inr rfl) (resT rfl rfl) rfl trivial
 refine AW.seq ?_
 refine AW.rgs rfl fun K hK => ?_
 refine mv rfl rfl ?_
 refine bv rfl (v_bin rfl rfl b_gtr) ?_
 refine b_fin hK (s' := ⟨[(0, slE eInt p0), (3, HV.int .i64 a1), (8, HV.bool (decide (0 < a1)))], []⟩) (le_q rfl rfl) ?_
 clear hK K
 refine AW.cond rfl (fun hc => ?_) (fun hc => ?_)
 ·have hc := of_decide_eq_true hc
  have h := ifT hc h
  refine AW.skip ?_
  refine AW.seq (AW.block ?_)
  refine AW.dgs 10 follows rfl rfl fun K hK => ?_
  refine sm rfl rfl ?_
  refine sm rfl rfl ?_
  obtain ⟨x5, h6, h⟩ := bS h
  refine sv rfl (v_idxF ty35 es35 rfl rfl (idx_lt h6)) ?_
  refine sv rfl (v_loadF ty3 rfl (l_cell eInt h6 (o := 0) rfl rfl)) ?_
  refine sm rfl rfl ?_
  refine sm rfl rfl ?_
  refine sv rfl (v_bin rfl rfl b_sub) ?_
  obtain ⟨x7, h8, h⟩ := bS h
  refine sv rfl (v_idxF ty35 es35 rfl rfl (idx_lt h8)) ?_
  refine sv rfl (v_loadF ty3 rfl (l_cell eInt h8 (o := 0) rfl rfl)) ?_
  obtain ⟨x9, h10, h⟩ := bS h
  refine s_op rfl rfl (ops_call rfl rfl rfl rfl (ACallD.pure0 (w_cmp_Less_int h10)) ?_)
  refine s_nil ?_
  refine b_fin hK (s' := ⟨[(0, slE eInt p0), (3, HV.int .i64 a1), (20, HV.bool x9)], []⟩) (le_q rfl rfl) ?_
  clear hK K
  refine AW.cond rfl (fun hc => ?_) (fun hc => ?_)
  ·have h := ifT hc h
   refine AW.rgs rfl fun K hK => ?_
   refine mv rfl rfl ?_
   refine b_fin hK (s' := ⟨[(2, HV.bool false)], []⟩) (le_q rfl rfl) ?_
   clear hK K
   have h := hr4 _ h
   refine AW.ret ?_
   have h := Option.some.inj h
   subst h
   exact ret_pure (hs := [HV.bool false]) (q := HV.bool false) (.inr rfl) (resT rfl rfl) rfl trivial
  have h := ifF (bF' hc) h
  refine AW.skip ?_
  refine AW.rg rfl fun K hK => ?_
  refine mv rfl rfl ?_
  refine bv rfl (v_bin rfl rfl b_sub) ?_
  refine mv rfl rfl ?_
  refine b_nil (hK _ ?_)
  clear hK K
  exact to_le (s' := ⟨[(0, slE eInt p0), (3, HV.int .i64 (IntKind.wrap .i64 (a1 - 1)))], []⟩) (AS.le_of ⟨rfl, rfl, trivial⟩ trivial) ⟨IntKind.wrap .i64 (a1 - 1), (), h, rfl⟩
 have hc := of_decide_eq_false hc
 have h := ifF hc h
 refine AW.exit ?_
 exact to_le (s' := ⟨[], []⟩) (AS.le_of trivial trivial) ⟨(), (), h, rfl⟩

set_option maxHeartbeats 1600000 in
set_option maxRecDepth 100000 in
theorem w_law54_SyncmarkOverlaps {p0 : List UInt8} {r : Bool} (h : m_law54_SyncmarkOverlaps p0 = some r) : Pure Try.prog 5 [HV.str p0] (· = HV.bool r) := by
 unfold m_law54_SyncmarkOverlaps at h
 refine Pure.of_body Try.func5 rfl rfl (Nat.le_of_ble_eq_true rfl) fun hf => ?_
 unfold Try.f5
 dsimp only [enumS, Nat.reduceAdd]
 refine AW.rgs rfl fun K hK => ?_
 refine mv rfl rfl ?_
 refine b_fin hK (s' := ⟨[(0, HV.str p0)], []⟩) (le_q rfl rfl) ?_
 clear hK K
 refine AW.seq ?_
 refine AW.seqJ h (S := Bool) (V := Unit) (fun a v => ⟨[(0, HV.str p0), (15, HV.bool a)], []⟩) (fun a1 w2 h => ?_) (fun k3 h => ?_)
 ·refine AW.cond rfl (fun hc => ?_) (fun hc => ?_)
  ·have h := ifT hc h
   refine AW.rgs rfl fun K hK => ?_
   obtain ⟨x4, h5, h⟩ := bS h
   refine b_op rfl (o_call rfl rfl rfl rfl (ACallD.pure0 (w_law54_awake h5)) ?_)
   refine mv rfl rfl ?_
   refine b_fin hK (s' := ⟨[(2, HV.bool x4)], []⟩) (le_q rfl rfl) ?_
   clear hK K
   refine AW.ret ?_
   have h := Option.some.inj h
   subst h
   exact ret_pure (hs := [HV.bool x4]) (q := HV.bool x4) (.inr rfl) (resT rfl rfl) rfl trivial
  have h := ifF (bF' hc) h
  refine AW.skip ?_
  refine AW.rgs rfl fun K hK => ?_
  refine mv rfl rfl ?_
  obtain ⟨x6, h7, h⟩ := bS h
  refine b_op rfl (o_call rfl rfl rfl rfl (ACallD.pure0 (w_syncmark_Overlaps h7)) ?_)
  refine mv rfl rfl ?_
  refine b_fin hK (s' := ⟨[(0, HV.str p0), (3, slE eInt x6)], []⟩) (le_q rfl rfl) ?_
  clear hK K
  refine AW.seq ?_
  refine AW.rgs rfl fun K hK => ?_
  refine mv rfl rfl ?_
  refine b_fin hK (s' := ⟨[(0, HV.str p0), (3, slE eInt x6), (4, HV.int .i64 1)], []⟩) (le_q rfl rfl) ?_
  clear hK K
  refine AW.lpR h (by first | exact up_then | exact up_to) (S := Int) (V := Unit) (fun a v => ⟨[(0, HV.str p0), (3, slE eInt x6), (4, HV.int .i64 a)], []⟩) ?_ (X := Unit) (W := Unit) (fun a v => ⟨[(0, HV.str p0), (3, slE eInt x6)], []⟩) (fun a17 w18 h => ?_) (fun a8 w9 st10 h hr11=> ?_)
  ·exact to_le (s' := ⟨[(0, HV.str p0), (3, slE eInt x6), (4, HV.int .i64 1)], []⟩) (AS.le_of ⟨rfl, rfl, rfl, trivial⟩ trivial) ⟨(), rfl⟩
  ·refine AW.rgs rfl fun K hK => ?_
   refine mv rfl rfl ?_
   refine mv rfl rfl ?_
   refine mv rfl rfl ?_
   obtain ⟨h19, h⟩ := ifN h
   refine bv rfl (v_bin rfl rfl (b_sadd h19)) ?_
   obtain ⟨x20, h21, h⟩ := bS h
   refine b_op rfl (o_call rfl rfl rfl rfl (ACallD.pure0 (w_syncmark_Occurs h21)) ?_)
   refine mv rfl rfl ?_
   refine b_fin hK (s' := ⟨[(0, HV.str p0), (3, slE eInt x6), (5, slE eInt x20)], []⟩) (le_q rfl rfl) ?_
   clear hK K
   refine AW.seq ?_
   refine AW.rgs rfl fun K hK => ?_
   refine mv rfl rfl ?_
   refine bv rfl (v_bin rfl rfl b_seql) ?_
   refine b_fin hK (s' := ⟨[(0, HV.str p0), (3, slE eInt x6), (5, slE eInt x20), (40, HV.bool (decide (p0 = ([] : List UInt8))))], []⟩) (le_q rfl rfl) ?_
   clear hK K
   refine AW.cond rfl (fun hc => ?_) (fun hc => ?_)
   ·have hc := of_decide_eq_true hc
    have h := ifT hc h
    refine AW.seqJ h (S := Bool) (V := Unit) (fun a v => ⟨[(2, HV.bool a)], []⟩) (fun a22 w23 h => ?_) (fun k24 h => ?_)
    ·refine AW.ret ?_
     have h := Option.some.inj h
     subst h
     exact ret_pure (hs := [HV.bool a22]) (q := HV.bool a22) (.inr rfl) (resT rfl rfl) rfl trivial
    refine AW.rg rfl fun K hK => ?_
    refine mv rfl rfl ?_
    refine bv rfl (v_lenF rfl rfl ty35 rfl) ?_
    refine bv rfl (v_bin rfl rfl b_eql) ?_
    refine mv rfl rfl ?_
    by_cases hg27 : ((x6).length : Int) = 0
    ·have h := ifT hg27 h
     obtain ⟨x25, h26, h⟩ := bS h
     refine b_T rfl rfl rfl rfl (decide_eq_true hg27) (o_call rfl rfl rfl rfl (ACallD.pure0 (w_law54_awake h26)) ?_)
     refine bv rfl (v_pickT rfl rfl rfl) ?_
     refine mv rfl rfl ?_
     refine b_nil (hK _ ?_)
     clear hK K
     exact to_le (s' := ⟨[(2, HV.bool x25)], []⟩) (AS.le_of ⟨rfl, trivial⟩ trivial) ⟨x25, (), h, rfl⟩
    have h := ifF hg27 h
    refine b_F rfl rfl rfl rfl rfl (decide_eq_false hg27) ?_
    refine bv rfl (v_pickF rfl rfl rfl) ?_
    refine mv rfl rfl ?_
    refine b_nil (hK _ ?_)
    clear hK K
    exact to_le (s' := ⟨[(2, HV.bool false)], []⟩) (AS.le_of ⟨rfl, trivial⟩ trivial) ⟨false, (), h, rfl⟩
   have hc := of_decide_eq_false hc
   have h := ifF hc h
   refine AW.skip ?_
   refine AW.seq ?_
   refine AW.rgs rfl fun K hK => ?_
   refine mv rfl rfl ?_
   refine bv rfl (v_lenF rfl rfl ty35 rfl) ?_
   refine bv rfl (v_bin rfl rfl b_eql) ?_
   refine b_fin hK (s' := ⟨[(0, HV.str p0), (3, slE eInt x6), (5, slE eInt x20), (49, HV.bool (decide (((x6).length : Int) = 0)))], []⟩) (le_q rfl rfl) ?_
   clear hK K
   refine AW.cond rfl (fun hc => ?_) (fun hc => ?_)
   ·have hc := of_decide_eq_true hc
    have h := ifT hc h
    refine AW.seqJ h (S := Bool) (V := Unit) (fun a v => ⟨[(2, HV.bool a)], []⟩) (fun a28 w29 h => ?_) (fun k30 h => ?_)
    ·refine AW.ret ?_
     have h := Option.some.inj h
     subst h
     exact ret_pure (hs := [HV.bool a28]) (q := HV.bool a28) (.inr rfl) (resT rfl rfl) rfl trivial
    refine AW.rg rfl fun K hK => ?_
    refine mv rfl rfl ?_
    refine mv rfl rfl ?_
    refine bv rfl (v_lenS rfl rfl ty9 rfl) ?_
    refine b_op rfl (o_bsl rfl rfl (as_of (cs := [HV.int .i64 0, HV.int .i64 ((p0).length : Int)]) ty35 ty3 rfl rfl rfl rfl rfl) ?_)
    obtain ⟨x31, h32, h⟩ := bS h
    refine b_op rfl (o_call rfl rfl rfl rfl (ACallD.pure0 (w_slices_Equal_Lint_int h32)) ?_)
    refine mv rfl rfl ?_
    by_cases hg35 : x31 = true
    ·have h := ifT hg35 h
     obtain ⟨x33, h34, h⟩ := bS h
     refine b_T rfl rfl rfl rfl hg35 (o_call rfl rfl rfl rfl (ACallD.pure0 (w_law54_awake h34)) ?_)
     refine bv rfl (v_pickT rfl rfl rfl) ?_
     refine mv rfl rfl ?_
     refine b_nil (hK _ ?_)
     clear hK K
     exact to_le (s' := ⟨[(2, HV.bool x33)], []⟩) (AS.le_of ⟨rfl, trivial⟩ trivial) ⟨x33, (), h, rfl⟩
    have h := ifF hg35 h
    refine b_F rfl rfl rfl rfl rfl (bF hg35) ?_
    refine bv rfl (v_pickF rfl rfl rfl) ?_
    refine mv rfl rfl ?_
    refine b_nil (hK _ ?_)
    clear hK K
    exact to_le (s' := ⟨[(2, HV.bool false)], []⟩) (AS.le_of ⟨rfl, trivial⟩ trivial) ⟨false, (), h, rfl⟩
   have hc := of_decide_eq_false hc
   have h := ifF hc h
   refine AW.skip ?_
   refine AW.seq ?_
   refine AW.rgs rfl fun K hK => ?_
   refine mv rfl rfl ?_
   refine bv rfl (v_lenF rfl rfl ty35 rfl) ?_
   refine mv rfl rfl ?_
   refine b_fin hK (s' := ⟨[(0, HV.str p0), (3, slE eInt x6), (58, slE eInt x20), (59, HV.int .i64 ((x20).length : Int)), (60, HV.int .i64 0)], []⟩) (le_q rfl rfl) ?_
   clear hK K
   refine AW.lpR h (by first | exact up_then | exact up_to) (S := Int) (V := Unit) (fun a v => ⟨[(0, HV.str p0), (3, slE eInt x6), (58, slE eInt x20), (59, HV.int .i64 ((x20).length : Int)), (60, HV.int .i64 a)], []⟩) ?_ (X := Unit) (W := Unit) (fun a v => ⟨[(3, slE eInt x6)], []⟩) (fun a52 w53 h => ?_) (fun a36 w37 st38 h hr39=> ?_)
   ·exact to_le (s' := ⟨[(0, HV.str p0), (3, slE eInt x6), (58, slE eInt x20), (59, HV.int .i64 ((x20).length : Int)), (60, HV.int .i64 0)], []⟩) (AS.le_of ⟨rfl, rfl, rfl, rfl, rfl, trivial⟩ trivial) ⟨(), rfl⟩
   ·refine AW.seqJ h (S := Bool) (V := Unit) (fun a v => ⟨[(2, HV.bool a)], []⟩) (fun a54 w55 h => ?_) (fun k56 h => ?_)
    ·refine AW.ret ?_
     have h := Option.some.inj h
     subst h
     exact ret_pure (hs := [HV.bool a54]) (q := HV.bool a54) (.inr rfl) (resT rfl rfl) rfl trivial
    refine AW.rg rfl fun K hK => ?_
    refine mv rfl rfl ?_
    obtain ⟨x57, h58, h⟩ := bS h
    refine b_op rfl (o_call rfl rfl rfl rfl (ACallD.pure0 (w_slices_IsSorted_Lint_int h58)) ?_)
    refine mv rfl rfl ?_
    by_cases hg61 : x57 = true
    ·have h := ifT hg61 h
     obtain ⟨x59, h60, h⟩ := bS h
     refine b_T rfl rfl rfl rfl hg61 (o_call rfl rfl rfl rfl (ACallD.pure0 (w_law54_awake h60)) ?_)
     refine bv rfl (v_pickT rfl rfl rfl) ?_
     refine mv rfl rfl ?_
     refine b_nil (hK _ ?_)
     clear hK K
     exact to_le (s' := ⟨[(2, HV.bool x59)], []⟩) (AS.le_of ⟨rfl, trivial⟩ trivial) ⟨x59, (), h, rfl⟩
    have h := ifF hg61 h
    refine b_F rfl rfl rfl rfl rfl (bF hg61) ?_
    refine bv rfl (v_pickF rfl rfl rfl) ?_
    refine mv rfl rfl ?_
    refine b_nil (hK _ ?_)
    clear hK K
    exact to_le (s' := ⟨[(2, HV.bool false)], []⟩) (AS.le_of ⟨rfl, trivial⟩ trivial) ⟨false, (), h, rfl⟩
   refine AW.rgs rfl fun K hK => ?_
   refine bv rfl (v_bin rfl rfl b_lss) ?_
   refine b_fin hK (s' := ⟨[(0, HV.str p0), (3, slE eInt x6), (58, slE eInt x20), (59, HV.int .i64 ((x20).length : Int)), (60, HV.int .i64 a36), (61, HV.bool (decide (a36 < ((x20).length : Int))))], []⟩) (le_q rfl rfl) ?_
   clear hK K
   refine AW.cseq rfl (fun hc => ?_) (fun hc => ?_)
   ·have hc := of_decide_eq_true hc
    have h := ifT hc h
    refine AW.skip ?_
    refine AW.seq (AW.block ?_)
    refine AW.rgs rfl fun K hK => ?_
    obtain ⟨x40, h41, h⟩ := bS h
    refine bv rfl (v_idxF ty35 es35 rfl rfl (idx_lt h41)) ?_
    refine bv rfl (v_loadF ty3 rfl (l_cell eInt h41 (o := 0) rfl rfl)) ?_
    refine mv rfl rfl ?_
    refine b_fin hK (s' := ⟨[(0, HV.str p0), (3, slE eInt x6), (7, HV.int .i64 x40), (58, slE eInt x20), (59, HV.int .i64 ((x20).length : Int)), (60, HV.int .i64 a36)], []⟩) (le_q rfl rfl) ?_
    clear hK K
    refine AW.seqJ h (S := Bool) (V := Unit) (fun a v => ⟨[(0, HV.str p0), (3, slE eInt x6), (58, slE eInt x20), (59, HV.int .i64 ((x20).length : Int)), (60, HV.int .i64 a36), (85, HV.bool a)], []⟩) (fun a42 w43 h => ?_) (fun k44 h => ?_)
    ·refine AW.cond rfl (fun hc => ?_) (fun hc => ?_)
     ·have h := ifT hc h
      refine AW.rgs rfl fun K hK => ?_
      refine mv rfl rfl ?_
      refine b_fin hK (s' := ⟨[(2, HV.bool false)], []⟩) (le_q rfl rfl) ?_
      clear hK K
      have h := hr39 _ h
      refine AW.ret ?_
      have h := Option.some.inj h
      subst h
      exact ret_pure (hs := [HV.bool false]) (q := HV.bool false) (.inr rfl) (resT rfl rfl) rfl trivial
     have h := ifF (bF' hc) h
     refine AW.skip ?_
     refine AW.rg rfl fun K hK => ?_
     refine bv rfl (v_bin rfl rfl b_add) ?_
     refine mv rfl rfl ?_
     refine b_nil (hK _ ?_)
     clear hK K
     exact to_le (s' := ⟨[(0, HV.str p0), (3, slE eInt x6), (58, slE eInt x20), (59, HV.int .i64 ((x20).length : Int)), (60, HV.int .i64 (IntKind.wrap .i64 (a36 + 1)))], []⟩) (AS.le_of ⟨rfl, rfl, rfl, rfl, rfl, trivial⟩ trivial) ⟨IntKind.wrap .i64 (a36 + 1), (), h, rfl⟩
    refine AW.rg rfl fun K hK => ?_
    refine mv rfl rfl ?_
    refine bv rfl (v_bin rfl rfl b_neq) ?_
    refine mv rfl rfl ?_
    by_cases hg51 : x40 ≠ 0
    ·have h := ifT hg51 h
     refine b_T rfl rfl rfl rfl (decide_eq_true hg51) (o_val rfl (mv_val rfl rfl).2 ?_)
     refine b_T rfl rfl rfl rfl rfl (o_val rfl (mv_val rfl rfl).2 ?_)
     refine b_T rfl rfl rfl rfl rfl (o_val rfl (v_lenS rfl rfl ty9 rfl) ?_)
     refine b_T rfl rfl rfl rfl rfl (o_val rfl (v_bin rfl rfl b_neq) ?_)
     refine bv rfl (v_pickT rfl rfl rfl) ?_
     refine mv rfl rfl ?_
     by_cases hg50 : x40 ≠ ((p0).length : Int)
     ·have h := ifT hg50 h
      refine b_T rfl rfl rfl rfl (decide_eq_true hg50) (o_val rfl (mv_val rfl rfl).2 ?_)
      refine b_T rfl rfl rfl rfl rfl (o_val rfl (mv_val rfl rfl).2 ?_)
      refine b_T rfl rfl rfl rfl rfl (o_val rfl (v_lenS rfl rfl ty9 rfl) ?_)
      refine b_T rfl rfl rfl rfl rfl (o_val rfl (mv_val rfl rfl).2 ?_)
      refine b_T rfl rfl rfl rfl rfl (o_val rfl (v_bin rfl rfl b_sub) ?_)
      obtain ⟨x45, h46, h⟩ := bS h
      refine b_T rfl rfl rfl rfl rfl (o_call rfl rfl rfl rfl (ACallD.pure0 (w_slices_Contains_Lint_int h46)) ?_)
      refine b_T rfl rfl rfl rfl rfl (o_val rfl (mv_val rfl rfl).2 ?_)
      by_cases hg49 : x45 = true
      ·have h := ifT hg49 h
       refine b_T rfl rfl rfl rfl hg49 (o_val rfl (mv_val rfl rfl).2 ?_)
       refine b_T rfl rfl rfl rfl rfl (o_val rfl (mv_val rfl rfl).2 ?_)
       obtain ⟨x47, h48, h⟩ := bS h
       refine b_T rfl rfl rfl rfl rfl (o_call rfl rfl rfl rfl (ACallD.pure0 (w_slices_Contains_Lint_int h48)) ?_)
       refine b_T rfl rfl rfl rfl rfl (o_val rfl (v_pickT rfl rfl rfl) ?_)
       refine b_T rfl rfl rfl rfl rfl (o_val rfl (v_not rfl) ?_)
       refine bv rfl (v_pickT rfl rfl rfl) ?_
       refine b_nil (hK _ ?_)
       clear hK K
       exact to_le (s' := ⟨[(0, HV.str p0), (3, slE eInt x6), (58, slE eInt x20), (59, HV.int .i64 ((x20).length : Int)), (60, HV.int .i64 a36), (85, HV.bool (!x47))], []⟩) (AS.le_of ⟨rfl, rfl, rfl, rfl, rfl, rfl, trivial⟩ trivial) ⟨!x47, (), h, rfl⟩
      have h := ifF hg49 h
      refine b_F rfl rfl rfl rfl rfl (bF hg49) ?_
      refine b_F rfl rfl rfl rfl rfl rfl ?_
      refine b_F rfl rfl rfl rfl rfl rfl ?_
      refine b_T rfl rfl rfl rfl rfl (o_val rfl (v_pickF rfl rfl rfl) ?_)
      refine b_T rfl rfl rfl rfl rfl (o_val rfl (v_not rfl) ?_)
      refine bv rfl (v_pickT rfl rfl rfl) ?_
      refine b_nil (hK _ ?_)
      clear hK K
      exact to_le (s' := ⟨[(0, HV.str p0), (3, slE eInt x6), (58, slE eInt x20), (59, HV.int .i64 ((x20).length : Int)), (60, HV.int .i64 a36), (85, HV.bool true)], []⟩) (AS.le_of ⟨rfl, rfl, rfl, rfl, rfl, rfl, trivial⟩ trivial) ⟨true, (), h, rfl⟩
     have h := ifF hg50 h
     refine b_F rfl rfl rfl rfl rfl (decide_eq_false hg50) ?_
     refine b_F rfl rfl rfl rfl rfl rfl ?_
     refine b_F rfl rfl rfl rfl rfl rfl ?_
     refine b_F rfl rfl rfl rfl rfl rfl ?_
     refine b_F rfl rfl rfl rfl rfl rfl ?_
     refine b_F rfl rfl rfl rfl rfl rfl ?_
     refine b_F rfl rfl rfl rfl rfl rfl ?_
     refine b_U rfl rfl rfl rfl rfl ?_
     refine b_U rfl rfl rfl rfl rfl ?_
     refine b_U rfl rfl rfl rfl rfl ?_
     refine b_F rfl rfl rfl rfl rfl rfl ?_
     refine b_F rfl rfl rfl rfl rfl rfl ?_
     refine bv rfl (v_pickF rfl rfl rfl) ?_
     refine b_nil (hK _ ?_)
     clear hK K
     exact to_le (s' := ⟨[(0, HV.str p0), (3, slE eInt x6), (58, slE eInt x20), (59, HV.int .i64 ((x20).length : Int)), (60, HV.int .i64 a36), (85, HV.bool false)], []⟩) (AS.le_of ⟨rfl, rfl, rfl, rfl, rfl, rfl, trivial⟩ trivial) ⟨false, (), h, rfl⟩
    have h := ifF hg51 h
    refine b_F rfl rfl rfl rfl rfl (decide_eq_false hg51) ?_
    refine b_F rfl rfl rfl rfl rfl rfl ?_
    refine b_F rfl rfl rfl rfl rfl rfl ?_
    refine b_F rfl rfl rfl rfl rfl rfl ?_
    refine bv rfl (v_pickF rfl rfl rfl) ?_
    refine mv rfl rfl ?_
    refine b_F rfl rfl rfl rfl rfl rfl ?_
    refine b_F rfl rfl rfl rfl rfl rfl ?_
    refine b_F rfl rfl rfl rfl rfl rfl ?_
    refine b_F rfl rfl rfl rfl rfl rfl ?_
    refine b_F rfl rfl rfl rfl rfl rfl ?_
    refine b_F rfl rfl rfl rfl rfl rfl ?_
    refine b_F rfl rfl rfl rfl rfl rfl ?_
    refine b_U rfl rfl rfl rfl rfl ?_
    refine b_U rfl rfl rfl rfl rfl ?_
    refine b_U rfl rfl rfl rfl rfl ?_
    refine b_F rfl rfl rfl rfl rfl rfl ?_
    refine b_F rfl rfl rfl rfl rfl rfl ?_
    refine bv rfl (v_pickF rfl rfl rfl) ?_
    refine b_nil (hK _ ?_)
    clear hK K
    exact to_le (s' := ⟨[(0, HV.str p0), (3, slE eInt x6), (58, slE eInt x20), (59, HV.int .i64 ((x20).length : Int)), (60, HV.int .i64 a36), (85, HV.bool false)], []⟩) (AS.le_of ⟨rfl, rfl, rfl, rfl, rfl, rfl, trivial⟩ trivial) ⟨false, (), h, rfl⟩
   have hc := of_decide_eq_false hc
   have h := ifF hc h
   refine AW.exit ?_
   exact to_le (s' := ⟨[(3, slE eInt x6)], []⟩) (AS.le_of ⟨rfl, trivial⟩ trivial) ⟨(), (), h, rfl⟩
  refine AW.seq ?_
  refine AW.rgs rfl fun K hK => ?_
  refine mv rfl rfl ?_
  refine mv rfl rfl ?_
  refine bv rfl (v_lenS rfl rfl ty9 rfl) ?_
  refine bv rfl (v_bin rfl rfl b_lss) ?_
  refine b_fin hK (s' := ⟨[(0, HV.str p0), (3, slE eInt x6), (4, HV.int .i64 a8), (22, HV.bool (decide (a8 < ((p0).length : Int))))], []⟩) (le_q rfl rfl) ?_
  clear hK K
  refine AW.cond rfl (fun hc => ?_) (fun hc => ?_)
  ·have hc := of_decide_eq_true hc
   have h := ifT hc h
   refine AW.skip ?_
   refine AW.seq (AW.block ?_)
   refine AW.rgs rfl fun K hK => ?_
   refine mv rfl rfl ?_
   refine mv rfl rfl ?_
   refine mv rfl rfl ?_
   obtain ⟨h12, h⟩ := ifN h
   refine bv rfl (v_sliceS ty9 rfl rfl rfl h12) ?_
   obtain ⟨x13, h14, h⟩ := bS h
   refine b_op rfl (o_call rfl rfl rfl rfl (ACallD.pure0 (w_strings_HasSuffix h14)) ?_)
   refine mv rfl rfl ?_
   refine mv rfl rfl ?_
   obtain ⟨x15, h16, h⟩ := bS h
   refine b_op rfl (o_call rfl rfl rfl rfl (ACallD.pure0 (w_slices_Contains_Lint_int h16)) ?_)
   refine bv rfl (v_bin rfl rfl (b_neB ty4)) ?_
   refine b_fin hK (s' := ⟨[(0, HV.str p0), (3, slE eInt x6), (4, HV.int .i64 a8), (33, HV.bool (!(x13 == x15)))], []⟩) (le_q rfl rfl) ?_
   clear hK K
   refine AW.cond rfl (fun hc => ?_) (fun hc => ?_)
   ·have h := ifT hc h
    refine AW.rgs rfl fun K hK => ?_
    refine mv rfl rfl ?_
    refine b_fin hK (s' := ⟨[(2, HV.bool false)], []⟩) (le_q rfl rfl) ?_
    clear hK K
    have h := hr11 _ h
    refine AW.ret ?_
    have h := Option.some.inj h
    subst h
    exact ret_pure (hs := [HV.bool false]) (q := HV.bool false) (.inr rfl) (resT rfl rfl) rfl trivial
   have h := ifF (bF' hc) h
   refine AW.skip ?_
   refine AW.rg rfl fun K hK => ?_
   refine mv rfl rfl ?_
   refine bv rfl (v_bin rfl rfl b_add) ?_
   refine mv rfl rfl ?_
   refine b_nil (hK _ ?_)
   clear hK K
   exact to_le (s' := ⟨[(0, HV.str p0), (3, slE eInt x6), (4, HV.int .i64 (IntKind.wrap .i64 (a8 + 1)))], []⟩) (AS.le_of ⟨rfl, rfl, rfl, trivial⟩ trivial) ⟨IntKind.wrap .i64 (a8 + 1), (), h, rfl⟩
  have hc := of_decide_eq_false hc
  have h := ifF hc h
  refine AW.exit ?_
  exact to_le (s' := ⟨[(0, HV.str p0), (3, slE eInt x6)], []⟩) (AS.le_of ⟨rfl, rfl, trivial⟩ trivial) ⟨(), (), h, rfl⟩
 refine AW.rg rfl fun K hK => ?_
 refine mv rfl rfl ?_
 refine bv rfl (v_lenS rfl rfl ty9 rfl) ?_
 refine bv rfl (v_bin rfl rfl b_gtr) ?_
 refine mv rfl rfl ?_
 by_cases hg64 : 20 < ((p0).length : Int)
 ·have h := ifT hg64 h
  refine b_F rfl rfl rfl rfl rfl (decide_eq_true hg64) ?_
  refine b_F rfl rfl rfl rfl rfl rfl ?_
  refine b_F rfl rfl rfl rfl rfl rfl ?_
  refine bv rfl (v_pickT rfl rfl rfl) ?_
  refine b_nil (hK _ ?_)
  clear hK K
  exact to_le (s' := ⟨[(0, HV.str p0), (15, HV.bool true)], []⟩) (AS.le_of ⟨rfl, rfl, trivial⟩ trivial) ⟨true, (), h, rfl⟩
 have h := ifF hg64 h
 refine b_T rfl rfl rfl rfl (decide_eq_false hg64) (o_val rfl (mv_val rfl rfl).2 ?_)
 obtain ⟨x62, h63, h⟩ := bS h
 refine b_T rfl rfl rfl rfl rfl (o_call rfl rfl rfl rfl (ACallD.pure0 (w_word_Check h63)) ?_)
 refine b_T rfl rfl rfl rfl rfl (o_val rfl (v_bin rfl rfl b_neq) ?_)
 refine bv rfl (v_pickF rfl rfl rfl) ?_
 refine b_nil (hK _ ?_)
 clear hK K
 exact to_le (s' := ⟨[(0, HV.str p0), (15, HV.bool (decide (x62 ≠ 0)))], []⟩) (AS.le_of ⟨rfl, rfl, trivial⟩ trivial) ⟨decide (x62 ≠ 0), (), h, rfl⟩

end Go.AW



namespace Go.AW
open Go Go.ChangeShapes Go.WideShapes Go.ChangeAt Go.RowKit

def Kept (W W' : World) : Prop := W'.os = W.os ∧ W'.output = W.output ∧ W.heap.size ≤ W'.heap.size ∧ ∀ b : Nat, b < W.heap.size → W'.heap[b]? = W.heap[b]?

theorem Kept.frame {W W' : World} (h : Kept W W') (may : MemPlace → Prop) : W.keptBut W' may := by
  refine ⟨h.1, h.2.1, fun i hi => ?_⟩
  rw [h.2.2.2 i hi]
  cases W.heap[i]? with
  | none => rfl
  | some o => cases o with
    | cells c t fr => exact ⟨rfl, rfl, rfl, fun _ _ => rfl⟩
    | map es clock => exact .inr ⟨rfl, rfl⟩
    | _ => rfl

theorem Kept.frozen {W W' : World} (h : Kept W W') (a : Addr) (ha : a.block < W.heap.size) : W'.frozen? a = W.frozen? a := by
  simp only [World.frozen?, h.2.2.2 _ ha]

def Mu.zero : Mu := { nx := 0, loc := fun _ => none, held := fun _ => False }

theorem SR.zero (W : World) : SR W Mu.zero [] :=
  ⟨(fun _ _ _ h => by cases h), (fun _ _ _ h => by cases h), (fun _ _ h => by cases h), (fun _ _ _ _ _ h => by cases h), (fun _ h => h.elim)⟩

theorem calls_of_pure {P : Program} {f : FuncId} {args : List HV} {vs : List Value} {W : World} (hp : Pure P f args (· = .bool true)) (hr : RepL W Mu.zero args vs) (hgl : GlOk W Mu.zero := by exact fun _ h => by cases h) :
    Calls P f vs.toArray W fun e W' => e = .returned (.bool true) ∧ Kept W W' := by
  refine (hp.2 Mu.zero W vs (SR.zero W) hr hgl).mono ?_
  rintro e W' ⟨v, r, H', μ', rfl, ⟨rfl, _, _⟩, hs, hv, E⟩
  have hv' : v = .bool true := hv
  subst hv'
  exact ⟨rfl, E.os, E.output, E.size, fun b hb => E.keep b hb fun ⟨_, _, hl⟩ => by cases hl⟩

theorem rep_string {W : World} {μ : Mu} (s : ByteArray) (h : s.size ≤ maxLen) : Rep W μ (.str s.data.toList) (.string s) := by
  refine ⟨by cases s; simp, ?_⟩
  have : s.data.toList.length = s.size := by simp
  omega

theorem post_of_kept {H : Type} {enc : TypeId × Value → H} {P : Program} {f : Func} {s : ChangeSpec} {apart fresh handsOn again : Bool} {W W' : World} {args : Array Value} {v : Value} {ds gs : List (DataW H)} {before pa pv : List MemPlace}
    (hW : DataW.Whole enc P f.params.toList s.vars apart W args.toList ds gs before)
    (hres : ∀ (b : Nat) (sp : Nat → Bool) (hd : Bool), DataW.TrodAll enc P W' b sp hd f.resultTypes.toList (v.resultList f.resultTypes.size) (s.fn H (ds ++ gs)).results [])
    (hargs : ∀ sp : Nat → Bool, (∀ p ∈ before, sp p.block = true) → DataW.TrodAll enc P W' 0 sp true f.params.toList args.toList (s.fn H (ds ++ gs)).args pa)
    (hvars : ∀ sp : Nat → Bool, (∀ p ∈ before, sp p.block = true) → DataW.TrodVars enc P W' sp s.vars (s.fn H (ds ++ gs)).vars pv)
    (hps : before = pa ++ pv) (hk : Kept W W')
    (hok : ∀ (j : Nat) (t : TypeId) (r : Value), f.resultTypes[j]? = some t → (v.resultList f.resultTypes.size)[j]? = some r → Value.okWide P W' .any 0 t r) :
    s.post enc P f apart fresh handsOn again W args v W' := by
  have hold : ∀ p ∈ before, (fun b => decide (b < W.heap.size)) p.block = true := fun p hp => by simpa using hW.lt p hp
  refine ⟨ds, gs, before, [], pa, pv, hW, hres _ _ _, hargs _ hold, hvars _ hold, World.keptBut_mono (fun p hp => ⟨hp, ?_⟩) (hk.frame (· ∈ before)), fun _ => ?_⟩
  · rw [hps, List.mem_append] at hp
    exact Or.inr hp
  · have hlt := hW.lt
    obtain ⟨_, _, _, _, _, hz, hn⟩ := hW
    refine ⟨hok, _, _, ([] ++ pa) ++ pv, ⟨[] ++ pa, pv, trodAll_append (hargs _ (fun _ _ => rfl)) (hres _ _ _), hvars _ (fun _ _ => rfl), rfl, ?_, ?_⟩, ?_⟩
    · intro b off hp
      have hp' : MemPlace.cell b off ∈ before := by rw [hps]; simpa using hp
      rw [hk.frozen _ (hlt _ hp')]
      exact hz b off hp'
    · intro ha
      have := hn ha
      rw [hps] at this
      simpa using this
    · intro p hp _
      rw [hps]
      simpa using hp
end Go.AW

/- Arguments: from what is read of them to what the layer says of them; and the law's end for any arguments. -/
namespace Go.AW
open Go Go.ChangeShapes Go.WideShapes Go.ChangeAt Go.RowKit

theorem trodAll_stays {H : Type} {enc : TypeId × Value → H} {P : Program} (hl : laidOutB P = true) {W W' : World} {sp : Nat → Bool} : ∀ {ts : List TypeId} {vs : List Value} {ds : List (DataW H)} {ps : List MemPlace},
    (ts.all fun t => P.readableRec t && decide (t < P.types.size)) = true → DataW.TrodAll enc P W 0 (fun _ => true) true ts vs ds ps → (∀ p ∈ ps, W.sameAt W' p) → (∀ p ∈ ps, sp p.block = true) → DataW.TrodAll enc P W' 0 sp true ts vs ds ps
  | [], vs, ds, ps, _, h, _, _ => by
    obtain ⟨rfl, rfl, rfl⟩ := trodAll_nil h
    exact trodAll_mk0
  | t :: ts, vs, ds, ps, ht, h, h1, h2 => by
    obtain ⟨v, vs', d, ds', p, q, rfl, rfl, rfl, h3, h4⟩ := trodAll_cons h
    simp only [List.all_cons, Bool.and_eq_true, decide_eq_true_eq] at ht
    exact trodAll_cons_mk (WideElems.Trod_stays hl ht.1.1 ht.1.2 h3 (fun x hx => h1 x (List.mem_append_left _ hx)) (fun x hx => h2 x (List.mem_append_left _ hx)))
      (trodAll_stays hl ht.2 h4 (fun x hx => h1 x (List.mem_append_right _ hx)) (fun x hx => h2 x (List.mem_append_right _ hx)))

theorem Kept.same {W W' : World} (h : Kept W W') (p : MemPlace) (hp : p.block < W.heap.size) : W.sameAt W' p := by
  cases p with
  | cell b off =>
    show W'.cell? ⟨b, off, none⟩ = W.cell? ⟨b, off, none⟩
    unfold World.cell?
    rw [h.2.2.2 b hp]
  | map b => exact h.2.2.2 b hp

theorem post_of_true {H : Type} {enc : TypeId × Value → H} {P : Program} {f : Func} {s : ChangeSpec} {apart fresh handsOn again : Bool} {W W' : World} {args : Array Value} {ds gs : List (DataW H)} {before : List MemPlace} {t : TypeId}
    (hl : laidOutB P = true) (hps : (f.params.toList.all fun t => P.readableRec t && decide (t < P.types.size)) = true) (hres : f.resultTypes = #[t]) (ht : P.underlying t = some .bool) (hv : s.vars = [])
    (hW : DataW.Whole enc P f.params.toList s.vars apart W args.toList ds gs before) (hk : Kept W W')
    (h1 : (s.fn H (ds ++ gs)).results = [.lit (.bool true)]) (h2 : (s.fn H (ds ++ gs)).args = ds) (h3 : (s.fn H (ds ++ gs)).vars = []) :
    s.post enc P f apart fresh handsOn again W args (.bool true) W' := by
  have hlt := hW.lt
  have hW' := hW
  obtain ⟨p, q, hA, hV, rfl, _, _⟩ := hW
  rw [hv] at hV
  obtain ⟨rfl, rfl⟩ := trodVars_none hV
  refine post_of_kept (pa := p) (pv := []) hW' (fun _ _ _ => ?_) (fun sp hsp => ?_) (fun _ _ => ?_) (by simp) hk (ok_one hres rfl (okWide_bool_mk ht _))
  · rw [hres, h1]
    exact trodAll_cons_mk (shut_bool ht _) trodAll_mk0
  · rw [h2]
    exact trodAll_stays hl hps hA (fun x hx => hk.same x (hlt x (by simpa using hx))) (fun x hx => hsp x (by simpa using hx))
  · rw [h3, hv]
    rfl
end Go.AW

/- Arguments that are graphs: what is read of them, and what the layer says of them. -/
namespace Go.AW
open Go Go.ChangeShapes Go.WideShapes Go.ChangeAt Go.RowKit

section
variable {H : Type} {enc : TypeId × Value → H} {P : Program} {W : World} {base : Nat}

end
end Go.AW

/- Arguments that are lists of numbers. -/
namespace Go.AW
open Go Go.ChangeShapes Go.WideShapes Go.ChangeAt Go.RowKit
section
variable {H : Type} {enc : TypeId × Value → H} {P : Program} {W : World} {base : Nat}
end
end Go.AW

/- Arguments that are lists of bytes. -/
namespace Go.AW
open Go Go.ChangeShapes Go.WideShapes Go.ChangeAt Go.RowKit
section
variable {H : Type} {enc : TypeId × Value → H} {P : Program} {W : World} {base : Nat}
end
end Go.AW

/- A parameter that is a struct of two lists of strings. -/
namespace Go.AW
open Go Go.ChangeShapes Go.WideShapes Go.ChangeAt Go.RowKit
section
variable {H : Type} {enc : TypeId × Value → H} {P : Program} {W : World} {base : Nat}
end
end Go.AW

namespace Go.Proofs.Ytnjepajbbkejeaa
open Go Go.AW Go.ChangeShapes Go.WideShapes Go.ChangeAt Go.RowKit Go.ChangeMaps
set_option linter.unusedVariables false

theorem ownM : ownKnob Try.prog.godebug = none := by kernel_rfl
theorem laidB : laidOutB Try.prog = true := by kernel_rfl

theorem wLaw (a0 : List UInt8) : Pure Try.prog 5 [.str a0] (· = .bool true) := w_law54_SyncmarkOverlaps (law54_overlaps a0)

set_option maxRecDepth 100000 in
theorem liftedL (os : Os) (started : os.Started) (H : Type) (enc : TypeId × Value → H) :
    ReturnsInHanded {} Try.checked os 5 .any (Rows.syncmarkOverlapsSpec.pre6 enc Try.prog Try.f5 Rows.syncmarkOverlapsRow.domain false) (Rows.syncmarkOverlapsSpec.post enc Try.prog Try.f5 false true false false) := by
  refine returnsInHanded_of_change_shaped (C := Try.checked) ownM started (by kernel_rfl) Try.func5
    (ChangeSpec.witness6 (enc := enc) (C := Try.checked) false ⟨#[], #[.string ⟨#[]⟩], []⟩ 8 (by kernel_rfl) (by kernel_rfl) (by kernel_rfl) (by kernel_rfl)) ?_
  intro W base args ds gs before hval0 hW hcnd _ hsh _
  have hval : ∀ (j : Nat) t v, Try.f5.params[j]? = some t → args[j]? = some v → Value.okWide Try.prog W .any base t v := hval0
  have hW' := hW
  obtain ⟨p, q, hA0, hV, rfl, hfz, hnd⟩ := hW
  have hA : DataW.TrodAll enc Try.prog W 0 (fun _ => true) true Try.f5.params.toList args.toList ds p := hA0
  rw [Try.params5] at hA hval
  obtain ⟨v0, vs0, d0, ds0, p0, q0, hargs, rfl, rfl, h0, r0⟩ := trodAll_cons hA
  obtain ⟨rfl, rfl, rfl⟩ := trodAll_nil r0
  obtain rfl : args = #[v0] := by cases args; simp_all
  obtain ⟨rfl, rfl⟩ := trodVars_none hV
  obtain ⟨s0, rfl, _, _, l0⟩ := open_string Try.underlying9 (hval 0 9 v0 rfl rfl) h0
  have hgl : GlOk W Mu.zero := fun g hg => by
    obtain rfl : g = 0 := by simpa [gNos] using hg
    exact ⟨Try.index.s1_3 W hsh, fun ⟨_, _, h⟩ => by cases h⟩
  refine (calls_of_pure (hgl := hgl) (vs := [.string s0]) (wLaw s0.data.toList) ⟨_, _, rfl, rep_string s0 l0, rfl⟩).mono fun e W' ⟨he, hk⟩ => ?_
  subst he
  exact ⟨_, rfl, post_of_true laidB (by kernel_rfl) rfl Try.underlying4 rfl hW' hk rfl rfl rfl⟩

theorem syncmarkOverlapsProved : Rows.SyncmarkOverlapsSaid :=
  OpenClaim.holds_of_wide 5 Try.f5 rfl rfl rfl rfl rfl rfl rfl ⟨rfl, rfl, rfl, rfl, rfl⟩ rfl rfl rfl rfl rfl (by kernel_rfl) Try.func5 (by kernel_rfl)
    (of_decide_eq_true (by kernel_rfl)) (by unfold Func.isWrapper; first | (rw [if_pos (by decide +kernel)]; kernel_rfl) | (rw [if_neg (by decide +kernel)]; exact ⟨rfl, rfl⟩))
    (fun os started H enc _ => liftedL os started H enc)
#print axioms syncmarkOverlapsProved
end Go.Proofs.Ytnjepajbbkejeaa
