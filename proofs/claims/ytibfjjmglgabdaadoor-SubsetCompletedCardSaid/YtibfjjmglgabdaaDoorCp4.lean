import Derived.Test.YtibfjjmglgabdaaDoorCp3
namespace Go.AW
open Go Go.Proofs
set_option linter.unusedVariables false
set_option maxHeartbeats 1600000 in
set_option maxRecDepth 100000 in
theorem w_graph_list {p0 : TFromLabelTo} {r : (List (Int))} (h : m_graph_list p0 = some r) : Pure Tryd.prog 30 [HV.agg [HV.int .i64 p0.1, HV.int .i64 p0.2.1, HV.int .i64 p0.2.2]] (· = slE eInt r) := by
 unfold m_graph_list at h
 refine Pure.of_body Tryd.func30 rfl rfl (Nat.le_of_ble_eq_true rfl) fun hf => ?_
 unfold Tryd.f30
 dsimp only [enumS, Nat.reduceAdd]
 refine AW.rgs rfl fun K hK => ?_
 refine b_op rfl (o_box rfl rfl rfl ?_)
 refine mv rfl rfl ?_
 refine b_fin hK (s' := ⟨[(1, HV.fptr [HV.int .i64 p0.1, HV.int .i64 p0.2.1, HV.int .i64 p0.2.2] 0)], []⟩) (le_q rfl rfl) ?_
 clear hK K
 refine AW.rgs rfl fun K hK => ?_
 refine bv rfl (v_fieldAddrF fo49_0 rfl) ?_
 refine bv rfl (v_loadF ty3 rfl (l_lit rfl rfl)) ?_
 refine bv rfl (v_fieldAddrF fo49_1 rfl) ?_
 refine bv rfl (v_loadF ty3 rfl (l_lit rfl rfl)) ?_
 refine bv rfl (v_fieldAddrF fo49_2 rfl) ?_
 refine bv rfl (v_loadF ty3 rfl (l_lit rfl rfl)) ?_
 refine b_op rfl (o_bsl rfl rfl (as_of (cs := [HV.int .i64 p0.1, HV.int .i64 p0.2.1, HV.int .i64 p0.2.2]) ty30 ty3 rfl rfl rfl rfl rfl) ?_)
 refine mv rfl rfl ?_
 refine b_fin hK (s' := ⟨[(2, slE eInt [p0.1, p0.2.1, p0.2.2])], []⟩) (le_q rfl rfl) ?_
 clear hK K
 refine AW.ret ?_
 have h := Option.some.inj h
 subst h
 exact ret_pure (hs := [slE eInt [p0.1, p0.2.1, p0.2.2]]) (q := slE eInt [p0.1, p0.2.1, p0.2.2]) (.inr rfl) (resT rfl rfl) rfl (clean_slE fun _ _ => ⟨trivial, trivial⟩)

set_option maxHeartbeats 1600000 in
set_option maxRecDepth 100000 in
theorem w_cmp_isNaN_int {p0 : Int} {r : Bool} (h : m_cmp_isNaN_int p0 = some r) : Pure Tryd.prog 56 [HV.int .i64 p0] (· = HV.bool r) := by
 unfold m_cmp_isNaN_int at h
 refine Pure.of_body Tryd.func56 rfl rfl (Nat.le_of_ble_eq_true rfl) fun hf => ?_
 unfold Tryd.f56
 dsimp only [enumS, Nat.reduceAdd]
 refine AW.rgs rfl fun K hK => ?_
 refine mv rfl rfl ?_
 refine b_fin hK (s' := ⟨[(0, HV.int .i64 p0)], []⟩) (le_q rfl rfl) ?_
 clear hK K
 refine AW.rgs rfl fun K hK => ?_
 refine mv rfl rfl ?_
 refine mv rfl rfl ?_
 refine bv rfl (v_bin rfl rfl b_neq) ?_
 refine mv rfl rfl ?_
 refine b_fin hK (s' := ⟨[(2, HV.bool (decide (p0 ≠ p0)))], []⟩) (le_q rfl rfl) ?_
 clear hK K
 refine AW.ret ?_
 have h := Option.some.inj h
 subst h
 exact ret_pure (hs := [HV.bool (decide (p0 ≠ p0))]) (q := HV.bool (decide (p0 ≠ p0))) (.inr rfl) (resT rfl rfl) rfl trivial

set_option maxHeartbeats 1600000 in
set_option maxRecDepth 100000 in
theorem w_cmp_Compare_int {p0 : Int} {p1 : Int} {r : Int} (h : m_cmp_Compare_int p0 p1 = some r) : Pure Tryd.prog 40 [HV.int .i64 p0, HV.int .i64 p1] (· = HV.int .i64 r) := by
 unfold m_cmp_Compare_int at h
 refine Pure.of_body Tryd.func40 rfl rfl (Nat.le_of_ble_eq_true rfl) fun hf => ?_
 unfold Tryd.f40
 dsimp only [enumS, Nat.reduceAdd]
 refine AW.rgs rfl fun K hK => ?_
 refine mv rfl rfl ?_
 refine b_fin hK (s' := ⟨[(0, HV.int .i64 p0), (1, HV.int .i64 p1)], []⟩) (le_q rfl rfl) ?_
 clear hK K
 refine AW.rgs rfl fun K hK => ?_
 refine mv rfl rfl ?_
 obtain ⟨x1, h2, h⟩ := bS h
 refine b_op rfl (o_call rfl rfl rfl rfl (ACallD.pure0 (w_cmp_isNaN_int h2)) ?_)
 refine mv rfl rfl ?_
 refine b_fin hK (s' := ⟨[(0, HV.int .i64 p0), (1, HV.int .i64 p1), (5, HV.bool x1)], []⟩) (le_q rfl rfl) ?_
 clear hK K
 refine AW.rgs rfl fun K hK => ?_
 refine mv rfl rfl ?_
 obtain ⟨x3, h4, h⟩ := bS h
 refine b_op rfl (o_call rfl rfl rfl rfl (ACallD.pure0 (w_cmp_isNaN_int h4)) ?_)
 refine mv rfl rfl ?_
 refine b_fin hK (s' := ⟨[(0, HV.int .i64 p0), (1, HV.int .i64 p1), (5, HV.bool x1), (6, HV.bool x3)], []⟩) (le_q rfl rfl) ?_
 clear hK K
 refine AW.seq ?_
 refine AW.rgs rfl fun K hK => ?_
 refine mv rfl rfl ?_
 refine b_fin hK (s' := ⟨[(0, HV.int .i64 p0), (1, HV.int .i64 p1), (6, HV.bool x3), (11, HV.bool x1)], []⟩) (le_q rfl rfl) ?_
 clear hK K
 refine AW.cond rfl (fun hc => ?_) (fun hc => ?_)
 ·have h := ifT hc h
  refine AW.seq ?_
  refine AW.rgs rfl fun K hK => ?_
  refine mv rfl rfl ?_
  refine b_fin hK (s' := ⟨[(12, HV.bool x3)], []⟩) (le_q rfl rfl) ?_
  clear hK K
  refine AW.cond rfl (fun hc => ?_) (fun hc => ?_)
  ·have h := ifT hc h
   refine AW.rgs rfl fun K hK => ?_
   refine mv rfl rfl ?_
   refine b_fin hK (s' := ⟨[(4, HV.int .i64 0)], []⟩) (le_q rfl rfl) ?_
   clear hK K
   refine AW.ret ?_
   have h := Option.some.inj h
   subst h
   exact ret_pure (hs := [HV.int .i64 0]) (q := HV.int .i64 0) (.inr rfl) (resT rfl rfl) rfl trivial
  have h := ifF (bF' hc) h
  refine AW.skip ?_
  refine AW.rgs rfl fun K hK => ?_
  refine mv rfl rfl ?_
  refine b_fin hK (s' := ⟨[(4, HV.int .i64 (-1))], []⟩) (le_q rfl rfl) ?_
  clear hK K
  refine AW.ret ?_
  have h := Option.some.inj h
  subst h
  exact ret_pure (hs := [HV.int .i64 (-1)]) (q := HV.int .i64 (-1)) (.inr rfl) (resT rfl rfl) rfl trivial
 have h := ifF (bF' hc) h
 refine AW.skip ?_
 refine AW.seq ?_
 refine AW.rgs rfl fun K hK => ?_
 refine mv rfl rfl ?_
 refine b_fin hK (s' := ⟨[(0, HV.int .i64 p0), (1, HV.int .i64 p1), (13, HV.bool x3)], []⟩) (le_q rfl rfl) ?_
 clear hK K
 refine AW.cond rfl (fun hc => ?_) (fun hc => ?_)
 ·have h := ifT hc h
  refine AW.rgs rfl fun K hK => ?_
  refine mv rfl rfl ?_
  refine b_fin hK (s' := ⟨[(4, HV.int .i64 1)], []⟩) (le_q rfl rfl) ?_
  clear hK K
  refine AW.ret ?_
  have h := Option.some.inj h
  subst h
  exact ret_pure (hs := [HV.int .i64 1]) (q := HV.int .i64 1) (.inr rfl) (resT rfl rfl) rfl trivial
 have h := ifF (bF' hc) h
 refine AW.skip ?_
 refine AW.seq ?_
 refine AW.rgs rfl fun K hK => ?_
 refine mv rfl rfl ?_
 refine mv rfl rfl ?_
 refine bv rfl (v_bin rfl rfl b_lss) ?_
 refine b_fin hK (s' := ⟨[(0, HV.int .i64 p0), (1, HV.int .i64 p1), (16, HV.bool (decide (p0 < p1)))], []⟩) (le_q rfl rfl) ?_
 clear hK K
 refine AW.cond rfl (fun hc => ?_) (fun hc => ?_)
 ·have hc := of_decide_eq_true hc
  have h := ifT hc h
  refine AW.rgs rfl fun K hK => ?_
  refine mv rfl rfl ?_
  refine b_fin hK (s' := ⟨[(4, HV.int .i64 (-1))], []⟩) (le_q rfl rfl) ?_
  clear hK K
  refine AW.ret ?_
  have h := Option.some.inj h
  subst h
  exact ret_pure (hs := [HV.int .i64 (-1)]) (q := HV.int .i64 (-1)) (.inr rfl) (resT rfl rfl) rfl trivial
 have hc := of_decide_eq_false hc
 have h := ifF hc h
 refine AW.skip ?_
 refine AW.seq ?_
 refine AW.rgs rfl fun K hK => ?_
 refine mv rfl rfl ?_
 refine mv rfl rfl ?_
 refine bv rfl (v_bin rfl rfl b_gtr) ?_
 refine b_fin hK (s' := ⟨[(19, HV.bool (decide (p1 < p0)))], []⟩) (le_q rfl rfl) ?_
 clear hK K
 refine AW.cond rfl (fun hc => ?_) (fun hc => ?_)
 ·have hc := of_decide_eq_true hc
  have h := ifT hc h
  refine AW.rgs rfl fun K hK => ?_
  refine mv rfl rfl ?_
  refine b_fin hK (s' := ⟨[(4, HV.int .i64 1)], []⟩) (le_q rfl rfl) ?_
  clear hK K
  refine AW.ret ?_
  have h := Option.some.inj h
  subst h
  exact ret_pure (hs := [HV.int .i64 1]) (q := HV.int .i64 1) (.inr rfl) (resT rfl rfl) rfl trivial
 have hc := of_decide_eq_false hc
 have h := ifF hc h
 refine AW.skip ?_
 refine AW.rgs rfl fun K hK => ?_
 refine mv rfl rfl ?_
 refine b_fin hK (s' := ⟨[(4, HV.int .i64 0)], []⟩) (le_q rfl rfl) ?_
 clear hK K
 refine AW.ret ?_
 have h := Option.some.inj h
 subst h
 exact ret_pure (hs := [HV.int .i64 0]) (q := HV.int .i64 0) (.inr rfl) (resT rfl rfl) rfl trivial

set_option maxHeartbeats 1600000 in
set_option maxRecDepth 100000 in
theorem w_slices_Compare_Lint_int {p0 : List (Int)} {p1 : List (Int)} {r : Int} (h : m_slices_Compare_Lint_int p0 p1 = some r) : Pure Tryd.prog 15 [slE eInt p0, slE eInt p1] (· = HV.int .i64 r) := by
 unfold m_slices_Compare_Lint_int at h
 refine Pure.of_body Tryd.func15 rfl rfl (Nat.le_of_ble_eq_true rfl) fun hf => ?_
 unfold Tryd.f15
 dsimp only [enumS, Nat.reduceAdd]
 refine AW.rgs rfl fun K hK => ?_
 refine mv rfl rfl ?_
 refine b_fin hK (s' := ⟨[(0, slE eInt p0), (1, slE eInt p1)], []⟩) (le_q rfl rfl) ?_
 clear hK K
 refine AW.seq ?_
 refine AW.rgs rfl fun K hK => ?_
 refine mv rfl rfl ?_
 refine bv rfl (v_lenF rfl rfl ty30 rfl) ?_
 refine mv rfl rfl ?_
 refine b_fin hK (s' := ⟨[(0, slE eInt p0), (1, slE eInt p1), (9, slE eInt p0), (10, HV.int .i64 ((p0).length : Int)), (11, HV.int .i64 0)], []⟩) (le_q rfl rfl) ?_
 clear hK K
 refine AW.lpR h (by first | exact up_then | exact up_to) (S := Int) (V := Unit) (fun a v => ⟨[(0, slE eInt p0), (1, slE eInt p1), (9, slE eInt p0), (10, HV.int .i64 ((p0).length : Int)), (11, HV.int .i64 a)], []⟩) ?_ (X := Unit) (W := Unit) (fun a v => ⟨[(0, slE eInt p0), (1, slE eInt p1)], []⟩) (fun a11 w12 h => ?_) (fun a1 w2 st3 h hr4=> ?_)
 ·exact to_le (s' := ⟨[(0, slE eInt p0), (1, slE eInt p1), (9, slE eInt p0), (10, HV.int .i64 ((p0).length : Int)), (11, HV.int .i64 0)], []⟩) (AS.le_of ⟨rfl, rfl, rfl, rfl, rfl, trivial⟩ trivial) ⟨(), rfl⟩
 ·refine AW.seq ?_
  refine AW.rgs rfl fun K hK => ?_
  refine mv rfl rfl ?_
  refine bv rfl (v_lenF rfl rfl ty30 rfl) ?_
  refine mv rfl rfl ?_
  refine bv rfl (v_lenF rfl rfl ty30 rfl) ?_
  refine bv rfl (v_bin rfl rfl b_lss) ?_
  refine b_fin hK (s' := ⟨[(35, HV.bool (decide (((p0).length : Int) < ((p1).length : Int))))], []⟩) (le_q rfl rfl) ?_
  clear hK K
  refine AW.cond rfl (fun hc => ?_) (fun hc => ?_)
  ·have hc := of_decide_eq_true hc
   have h := ifT hc h
   refine AW.rgs rfl fun K hK => ?_
   refine mv rfl rfl ?_
   refine b_fin hK (s' := ⟨[(4, HV.int .i64 (-1))], []⟩) (le_q rfl rfl) ?_
   clear hK K
   refine AW.ret ?_
   have h := Option.some.inj h
   subst h
   exact ret_pure (hs := [HV.int .i64 (-1)]) (q := HV.int .i64 (-1)) (.inr rfl) (resT rfl rfl) rfl trivial
  have hc := of_decide_eq_false hc
  have h := ifF hc h
  refine AW.skip ?_
  refine AW.rgs rfl fun K hK => ?_
  refine mv rfl rfl ?_
  refine b_fin hK (s' := ⟨[(4, HV.int .i64 0)], []⟩) (le_q rfl rfl) ?_
  clear hK K
  refine AW.ret ?_
  have h := Option.some.inj h
  subst h
  exact ret_pure (hs := [HV.int .i64 0]) (q := HV.int .i64 0) (.inr rfl) (resT rfl rfl) rfl trivial
 refine AW.rgs rfl fun K hK => ?_
 refine bv rfl (v_bin rfl rfl b_lss) ?_
 refine b_fin hK (s' := ⟨[(0, slE eInt p0), (1, slE eInt p1), (9, slE eInt p0), (10, HV.int .i64 ((p0).length : Int)), (11, HV.int .i64 a1), (12, HV.bool (decide (a1 < ((p0).length : Int))))], []⟩) (le_q rfl rfl) ?_
 clear hK K
 refine AW.cseq rfl (fun hc => ?_) (fun hc => ?_)
 ·have hc := of_decide_eq_true hc
  have h := ifT hc h
  refine AW.skip ?_
  refine AW.seq (AW.block ?_)
  refine AW.rgs rfl fun K hK => ?_
  refine mv rfl rfl ?_
  obtain ⟨x5, h6, h⟩ := bS h
  refine bv rfl (v_idxF ty30 es30 rfl rfl (idx_lt h6)) ?_
  refine bv rfl (v_loadF ty3 rfl (l_cell eInt h6 (o := 0) rfl rfl)) ?_
  refine mv rfl rfl ?_
  refine mv rfl rfl ?_
  refine b_fin hK (s' := ⟨[(0, slE eInt p0), (1, slE eInt p1), (5, HV.int .i64 a1), (6, HV.int .i64 x5), (9, slE eInt p0), (10, HV.int .i64 ((p0).length : Int)), (11, HV.int .i64 a1)], []⟩) (le_q rfl rfl) ?_
  clear hK K
  refine AW.seq ?_
  refine AW.rgs rfl fun K hK => ?_
  refine mv rfl rfl ?_
  refine mv rfl rfl ?_
  refine bv rfl (v_lenF rfl rfl ty30 rfl) ?_
  refine bv rfl (v_bin rfl rfl b_geq) ?_
  refine b_fin hK (s' := ⟨[(0, slE eInt p0), (1, slE eInt p1), (5, HV.int .i64 a1), (6, HV.int .i64 x5), (9, slE eInt p0), (10, HV.int .i64 ((p0).length : Int)), (11, HV.int .i64 a1), (19, HV.bool (decide (((p1).length : Int) ≤ a1)))], []⟩) (le_q rfl rfl) ?_
  clear hK K
  refine AW.cond rfl (fun hc => ?_) (fun hc => ?_)
  ·have hc := of_decide_eq_true hc
   have h := ifT hc h
   refine AW.rgs rfl fun K hK => ?_
   refine mv rfl rfl ?_
   refine b_fin hK (s' := ⟨[(4, HV.int .i64 1)], []⟩) (le_q rfl rfl) ?_
   clear hK K
   have h := hr4 _ h
   refine AW.ret ?_
   have h := Option.some.inj h
   subst h
   exact ret_pure (hs := [HV.int .i64 1]) (q := HV.int .i64 1) (.inr rfl) (resT rfl rfl) rfl trivial
  have hc := of_decide_eq_false hc
  have h := ifF hc h
  refine AW.skip ?_
  refine AW.rgs rfl fun K hK => ?_
  refine mv rfl rfl ?_
  refine mv rfl rfl ?_
  obtain ⟨x7, h8, h⟩ := bS h
  refine bv rfl (v_idxF ty30 es30 rfl rfl (idx_lt h8)) ?_
  refine bv rfl (v_loadF ty3 rfl (l_cell eInt h8 (o := 0) rfl rfl)) ?_
  refine mv rfl rfl ?_
  refine b_fin hK (s' := ⟨[(0, slE eInt p0), (1, slE eInt p1), (6, HV.int .i64 x5), (7, HV.int .i64 x7), (9, slE eInt p0), (10, HV.int .i64 ((p0).length : Int)), (11, HV.int .i64 a1)], []⟩) (le_q rfl rfl) ?_
  clear hK K
  refine AW.rgs rfl fun K hK => ?_
  refine mv rfl rfl ?_
  refine mv rfl rfl ?_
  obtain ⟨x9, h10, h⟩ := bS h
  refine b_op rfl (o_call rfl rfl rfl rfl (ACallD.pure0 (w_cmp_Compare_int h10)) ?_)
  refine mv rfl rfl ?_
  refine b_fin hK (s' := ⟨[(0, slE eInt p0), (1, slE eInt p1), (8, HV.int .i64 x9), (9, slE eInt p0), (10, HV.int .i64 ((p0).length : Int)), (11, HV.int .i64 a1)], []⟩) (le_q rfl rfl) ?_
  clear hK K
  refine AW.rgs rfl fun K hK => ?_
  refine mv rfl rfl ?_
  refine bv rfl (v_bin rfl rfl b_neq) ?_
  refine b_fin hK (s' := ⟨[(0, slE eInt p0), (1, slE eInt p1), (8, HV.int .i64 x9), (9, slE eInt p0), (10, HV.int .i64 ((p0).length : Int)), (11, HV.int .i64 a1), (28, HV.bool (decide (x9 ≠ 0)))], []⟩) (le_q rfl rfl) ?_
  clear hK K
  refine AW.cond rfl (fun hc => ?_) (fun hc => ?_)
  ·have hc := of_decide_eq_true hc
   have h := ifT hc h
   refine AW.rgs rfl fun K hK => ?_
   refine mv rfl rfl ?_
   refine mv rfl rfl ?_
   refine b_fin hK (s' := ⟨[(4, HV.int .i64 x9)], []⟩) (le_q rfl rfl) ?_
   clear hK K
   have h := hr4 _ h
   refine AW.ret ?_
   have h := Option.some.inj h
   subst h
   exact ret_pure (hs := [HV.int .i64 x9]) (q := HV.int .i64 x9) (.inr rfl) (resT rfl rfl) rfl trivial
  have hc := of_decide_eq_false hc
  have h := ifF hc h
  refine AW.skip ?_
  refine AW.rg rfl fun K hK => ?_
  refine bv rfl (v_bin rfl rfl b_add) ?_
  refine mv rfl rfl ?_
  refine b_nil (hK _ ?_)
  clear hK K
  exact to_le (s' := ⟨[(0, slE eInt p0), (1, slE eInt p1), (9, slE eInt p0), (10, HV.int .i64 ((p0).length : Int)), (11, HV.int .i64 (IntKind.wrap .i64 (a1 + 1)))], []⟩) (AS.le_of ⟨rfl, rfl, rfl, rfl, rfl, trivial⟩ trivial) ⟨IntKind.wrap .i64 (a1 + 1), (), h, rfl⟩
 have hc := of_decide_eq_false hc
 have h := ifF hc h
 refine AW.exit ?_
 exact to_le (s' := ⟨[(0, slE eInt p0), (1, slE eInt p1)], []⟩) (AS.le_of ⟨rfl, rfl, trivial⟩ trivial) ⟨(), (), h, rfl⟩

set_option maxHeartbeats 1600000 in
set_option maxRecDepth 100000 in
theorem w_graph_by_api_Edge_1 {p0 : TFromLabelTo} {p1 : TFromLabelTo} {r : Int} (h : m_graph_by_api_Edge_1 p0 p1 = some r) : Pure Tryd.prog 49 [HV.agg [HV.int .i64 p0.1, HV.int .i64 p0.2.1, HV.int .i64 p0.2.2], HV.agg [HV.int .i64 p1.1, HV.int .i64 p1.2.1, HV.int .i64 p1.2.2], HV.fptr [HV.fn (.func 30) [] []] 0] (· = HV.int .i64 r) := by
 unfold m_graph_by_api_Edge_1 at h
 refine Pure.of_body Tryd.func49 rfl rfl (Nat.le_of_ble_eq_true rfl) fun hf => ?_
 unfold Tryd.f49
 dsimp only [enumS, Nat.reduceAdd]
 refine AW.rgs rfl fun K hK => ?_
 refine b_op rfl (o_box rfl rfl rfl ?_)
 refine b_op rfl (o_box rfl rfl rfl ?_)
 refine mv rfl rfl ?_
 refine b_fin hK (s' := ⟨[(2, HV.fptr [HV.fn (.func 30) [] []] 0), (3, HV.fptr [HV.int .i64 p0.1, HV.int .i64 p0.2.1, HV.int .i64 p0.2.2] 0), (4, HV.fptr [HV.int .i64 p1.1, HV.int .i64 p1.2.1, HV.int .i64 p1.2.2] 0)], []⟩) (le_q rfl rfl) ?_
 clear hK K
 refine AW.dgs 8 follows rfl rfl fun K hK => ?_
 refine sv rfl (v_loadF ty60 rfl (l_lit rfl rfl)) ?_
 refine sv rfl (v_loadF ty49 rfl (l_litA rfl (Nat.le_of_ble_eq_true rfl) rfl)) ?_
 obtain ⟨x1, h2, h⟩ := bS h
 refine s_op rfl rfl (ops_call rfl rfl rfl rfl (ACallD.pure0 (w_graph_list h2)) ?_)
 refine sv rfl (v_loadF ty60 rfl (l_lit rfl rfl)) ?_
 refine sv rfl (v_loadF ty49 rfl (l_litA rfl (Nat.le_of_ble_eq_true rfl) rfl)) ?_
 obtain ⟨x3, h4, h⟩ := bS h
 refine s_op rfl rfl (ops_call rfl rfl rfl rfl (ACallD.pure0 (w_graph_list h4)) ?_)
 obtain ⟨x5, h6, h⟩ := bS h
 refine s_op rfl rfl (ops_call rfl rfl rfl rfl (ACallD.pure0 (w_slices_Compare_Lint_int h6)) ?_)
 refine sm rfl rfl ?_
 refine s_nil ?_
 refine b_fin hK (s' := ⟨[(5, HV.int .i64 x5)], []⟩) (le_q rfl rfl) ?_
 clear hK K
 refine AW.ret ?_
 have h := Option.some.inj h
 subst h
 exact ret_pure (hs := [HV.int .i64 x5]) (q := HV.int .i64 x5) (.inr rfl) (resT rfl rfl) rfl trivial

set_option maxHeartbeats 1600000 in
set_option maxRecDepth 100000 in
theorem w_graph_by_api_Edge  : Pure Tryd.prog 29 [HV.fn (.func 30) [] []] (· = HV.fn (.func 49) [] [HV.fptr [HV.fn (.func 30) [] []] 0]) := by
 refine Pure.of_body Tryd.func29 rfl rfl (Nat.le_of_ble_eq_true rfl) fun hf => ?_
 unfold Tryd.f29
 dsimp only [enumS, Nat.reduceAdd]
 refine AW.rgs rfl fun K hK => ?_
 refine b_op rfl (o_box rfl rfl rfl ?_)
 refine mv rfl rfl ?_
 refine b_fin hK (s' := ⟨[(1, HV.fptr [HV.fn (.func 30) [] []] 0)], []⟩) (le_q rfl rfl) ?_
 clear hK K
 refine AW.rgs rfl fun K hK => ?_
 refine bv rfl (v_func rfl rfl) ?_
 refine mv rfl rfl ?_
 refine b_fin hK (s' := ⟨[(2, HV.fn (.func 49) [] [HV.fptr [HV.fn (.func 30) [] []] 0])], []⟩) (le_q rfl rfl) ?_
 clear hK K
 refine AW.ret ?_
 exact ret_pure (hs := [HV.fn (.func 49) [] [HV.fptr [HV.fn (.func 30) [] []] 0]]) (q := HV.fn (.func 49) [] [HV.fptr [HV.fn (.func 30) [] []] 0]) (.inr rfl) (resT rfl rfl) rfl ⟨trivial, ⟨⟨⟨trivial, trivial⟩, trivial⟩, trivial⟩⟩

set_option maxHeartbeats 1600000 in
set_option maxRecDepth 100000 in
theorem w_graph_Check {p0 : TLabelsStatesEdges} {r : Int} (h : m_graph_Check p0 = some r) : Pure Tryd.prog 9 [HV.agg [HV.int .i64 p0.1, HV.int .i64 p0.2.1, slE eFromLabelTo p0.2.2]] (· = HV.int .i64 r) := by
 unfold m_graph_Check at h
 refine Pure.of_body Tryd.func9 rfl rfl (Nat.le_of_ble_eq_true rfl) fun hf => ?_
 unfold Tryd.f9
 dsimp only [enumS, Nat.reduceAdd]
 refine AW.rgs rfl fun K hK => ?_
 refine b_op rfl (o_box rfl rfl rfl ?_)
 refine mv rfl rfl ?_
 refine b_fin hK (s' := ⟨[(1, HV.fptr [HV.int .i64 p0.1, HV.int .i64 p0.2.1, slE eFromLabelTo p0.2.2] 0)], []⟩) (le_q rfl rfl) ?_
 clear hK K
 refine AW.seq (AW.block ?_)
 refine AW.seqJ h (S := Bool) (V := Unit) (fun a v => ⟨[(1, HV.fptr [HV.int .i64 p0.1, HV.int .i64 p0.2.1, slE eFromLabelTo p0.2.2] 0), (6, HV.bool a)], []⟩) (fun a1 w2 h => ?_) (fun k3 h => ?_)
 ·refine AW.cond rfl (fun hc => ?_) (fun hc => ?_)
  ·have h := ifT hc h
   refine AW.rgs rfl fun K hK => ?_
   refine mv rfl rfl ?_
   refine b_fin hK (s' := ⟨[(2, HV.int .i64 12)], []⟩) (le_q rfl rfl) ?_
   clear hK K
   refine AW.ret ?_
   have h := Option.some.inj h
   subst h
   exact ret_pure (hs := [HV.int .i64 12]) (q := HV.int .i64 12) (.inr rfl) (resT rfl rfl) rfl trivial
  have h := ifF (bF' hc) h
  refine AW.rgs rfl fun K hK => ?_
  refine bv rfl (v_fieldAddrF fo24_1 rfl) ?_
  refine bv rfl (v_loadF ty3 rfl (l_lit rfl rfl)) ?_
  refine bv rfl (v_bin rfl rfl b_lss) ?_
  refine mv rfl rfl ?_
  refine b_fin hK (s' := ⟨[(1, HV.fptr [HV.int .i64 p0.1, HV.int .i64 p0.2.1, slE eFromLabelTo p0.2.2] 0), (15, HV.bool (decide (p0.2.1 < 0)))], []⟩) (le_q rfl rfl) ?_
  clear hK K
  refine AW.cond rfl (fun hc => ?_) (fun hc => ?_)
  ·have hc := of_decide_eq_true hc
   have h := ifT hc h
   refine AW.rgs rfl fun K hK => ?_
   refine mv rfl rfl ?_
   refine b_fin hK (s' := ⟨[(2, HV.int .i64 2)], []⟩) (le_q rfl rfl) ?_
   clear hK K
   refine AW.ret ?_
   have h := Option.some.inj h
   subst h
   exact ret_pure (hs := [HV.int .i64 2]) (q := HV.int .i64 2) (.inr rfl) (resT rfl rfl) rfl trivial
  have hc := of_decide_eq_false hc
  have h := ifF hc h
  refine AW.seqJ h (S := Bool) (V := Unit) (fun a v => ⟨[(1, HV.fptr [HV.int .i64 p0.1, HV.int .i64 p0.2.1, slE eFromLabelTo p0.2.2] 0), (19, HV.bool a)], []⟩) (fun a4 w5 h => ?_) (fun k6 h => ?_)
  ·refine AW.cond rfl (fun hc => ?_) (fun hc => ?_)
   ·have h := ifT hc h
    refine AW.rgs rfl fun K hK => ?_
    refine mv rfl rfl ?_
    refine b_fin hK (s' := ⟨[(2, HV.int .i64 4)], []⟩) (le_q rfl rfl) ?_
    clear hK K
    refine AW.ret ?_
    have h := Option.some.inj h
    subst h
    exact ret_pure (hs := [HV.int .i64 4]) (q := HV.int .i64 4) (.inr rfl) (resT rfl rfl) rfl trivial
   have h := ifF (bF' hc) h
   refine AW.skip ?_
   refine AW.rgs rfl fun K hK => ?_
   refine b_op rfl (o_call rfl rfl rfl rfl (ACallD.pure0 (w_graph_by_api_Edge )) ?_)
   refine mv rfl rfl ?_
   refine b_fin hK (s' := ⟨[(1, HV.fptr [HV.int .i64 p0.1, HV.int .i64 p0.2.1, slE eFromLabelTo p0.2.2] 0), (3, HV.fn (.func 49) [] [HV.fptr [HV.fn (.func 30) [] []] 0])], []⟩) (le_q rfl rfl) ?_
   clear hK K
   refine AW.seq ?_
   refine AW.rgs rfl fun K hK => ?_
   refine bv rfl (v_fieldAddrF fo24_2 rfl) ?_
   refine bv rfl (v_loadF ty22 rfl (l_lit rfl rfl)) ?_
   refine bv rfl (v_lenF rfl rfl ty22 rfl) ?_
   refine mv rfl rfl ?_
   refine b_fin hK (s' := ⟨[(1, HV.fptr [HV.int .i64 p0.1, HV.int .i64 p0.2.1, slE eFromLabelTo p0.2.2] 0), (3, HV.fn (.func 49) [] [HV.fptr [HV.fn (.func 30) [] []] 0]), (31, slE eFromLabelTo p0.2.2), (32, HV.int .i64 ((p0.2.2).length : Int)), (33, HV.int .i64 0)], []⟩) (le_q rfl rfl) ?_
   clear hK K
   refine AW.lpR h (by first | exact up_then | exact up_to) (S := Int) (V := Unit) (fun a v => ⟨[(1, HV.fptr [HV.int .i64 p0.1, HV.int .i64 p0.2.1, slE eFromLabelTo p0.2.2] 0), (3, HV.fn (.func 49) [] [HV.fptr [HV.fn (.func 30) [] []] 0]), (31, slE eFromLabelTo p0.2.2), (32, HV.int .i64 ((p0.2.2).length : Int)), (33, HV.int .i64 a)], []⟩) ?_ (X := Unit) (W := Unit) (fun a v => ⟨[], []⟩) (fun a27 w28 h => ?_) (fun a7 w8 st9 h hr10=> ?_)
   ·exact to_le (s' := ⟨[(1, HV.fptr [HV.int .i64 p0.1, HV.int .i64 p0.2.1, slE eFromLabelTo p0.2.2] 0), (3, HV.fn (.func 49) [] [HV.fptr [HV.fn (.func 30) [] []] 0]), (31, slE eFromLabelTo p0.2.2), (32, HV.int .i64 ((p0.2.2).length : Int)), (33, HV.int .i64 0)], []⟩) (AS.le_of ⟨rfl, rfl, rfl, rfl, rfl, trivial⟩ trivial) ⟨(), rfl⟩
   ·refine AW.rgs rfl fun K hK => ?_
    refine mv rfl rfl ?_
    refine b_fin hK (s' := ⟨[(2, HV.int .i64 0)], []⟩) (le_q rfl rfl) ?_
    clear hK K
    refine AW.ret ?_
    have h := Option.some.inj h
    subst h
    exact ret_pure (hs := [HV.int .i64 0]) (q := HV.int .i64 0) (.inr rfl) (resT rfl rfl) rfl trivial
   refine AW.rgs rfl fun K hK => ?_
   refine bv rfl (v_bin rfl rfl b_lss) ?_
   refine b_fin hK (s' := ⟨[(1, HV.fptr [HV.int .i64 p0.1, HV.int .i64 p0.2.1, slE eFromLabelTo p0.2.2] 0), (3, HV.fn (.func 49) [] [HV.fptr [HV.fn (.func 30) [] []] 0]), (31, slE eFromLabelTo p0.2.2), (32, HV.int .i64 ((p0.2.2).length : Int)), (33, HV.int .i64 a7), (34, HV.bool (decide (a7 < ((p0.2.2).length : Int))))], []⟩) (le_q rfl rfl) ?_
   clear hK K
   refine AW.cseq rfl (fun hc => ?_) (fun hc => ?_)
   ·have hc := of_decide_eq_true hc
    have h := ifT hc h
    refine AW.skip ?_
    refine AW.seq (AW.block ?_)
    refine AW.rgs rfl fun K hK => ?_
    refine mv rfl rfl ?_
    obtain ⟨x11, h12, h⟩ := bS h
    refine bv rfl (v_idxF ty22 es22 rfl rfl (idx_lt h12)) ?_
    refine bv rfl (v_loadF ty49 rfl (l_agg eFromLabelTo h12 rfl rfl)) ?_
    refine b_op rfl (o_alloc (fid := 9) (zs := [HV.int .i64 0, HV.int .i64 0, HV.int .i64 0]) 9005 rfl rfl ty49 rfl (fun v13 => ?_))
    refine mv rfl rfl ?_
    refine b_op rfl (o_store (cs := [HV.int .i64 x11.1, HV.int .i64 x11.2.1, HV.int .i64 x11.2.2]) (zs := [HV.int .i64 x11.1, HV.int .i64 x11.2.1, HV.int .i64 x11.2.2]) rfl rfl rfl ty49 rfl rfl rfl rfl rfl ?_)
    refine b_fin hK (s' := ⟨[(1, HV.fptr [HV.int .i64 p0.1, HV.int .i64 p0.2.1, slE eFromLabelTo p0.2.2] 0), (3, HV.fn (.func 49) [] [HV.fptr [HV.fn (.func 30) [] []] 0]), (4, HV.int .i64 a7), (5, HV.ptr 9005 v13 0), (31, slE eFromLabelTo p0.2.2), (32, HV.int .i64 ((p0.2.2).length : Int)), (33, HV.int .i64 a7)], [(9005, v13, .arr 3 49 [HV.int .i64 x11.1, HV.int .i64 x11.2.1, HV.int .i64 x11.2.2])]⟩) (le_q rfl rfl) ?_
    clear hK K
    refine AW.seq ?_
    refine AW.seqJ h (S := Bool) (V := Unit) (fun a v => ⟨[(1, HV.fptr [HV.int .i64 p0.1, HV.int .i64 p0.2.1, slE eFromLabelTo p0.2.2] 0), (3, HV.fn (.func 49) [] [HV.fptr [HV.fn (.func 30) [] []] 0]), (4, HV.int .i64 a7), (5, HV.ptr 9005 v13 0), (31, slE eFromLabelTo p0.2.2), (32, HV.int .i64 ((p0.2.2).length : Int)), (33, HV.int .i64 a7), (62, HV.bool a)], [(9005, v13, .arr 3 49 [HV.int .i64 x11.1, HV.int .i64 x11.2.1, HV.int .i64 x11.2.2])]⟩) (fun a14 w15 h => ?_) (fun k16 h => ?_)
    ·refine AW.cond rfl (fun hc => ?_) (fun hc => ?_)
     ·have h := ifT hc h
      refine AW.rgs rfl fun K hK => ?_
      refine mv rfl rfl ?_
      refine b_fin hK (s' := ⟨[(2, HV.int .i64 2)], []⟩) (le_q rfl rfl) ?_
      clear hK K
      have h := hr10 _ h
      refine AW.ret ?_
      have h := Option.some.inj h
      subst h
      exact ret_pure (hs := [HV.int .i64 2]) (q := HV.int .i64 2) (.inr rfl) (resT rfl rfl) rfl trivial
     have h := ifF (bF' hc) h
     refine AW.skip ?_
     refine AW.seqJ h (S := Bool) (V := Unit) (fun a v => ⟨[(1, HV.fptr [HV.int .i64 p0.1, HV.int .i64 p0.2.1, slE eFromLabelTo p0.2.2] 0), (3, HV.fn (.func 49) [] [HV.fptr [HV.fn (.func 30) [] []] 0]), (31, slE eFromLabelTo p0.2.2), (32, HV.int .i64 ((p0.2.2).length : Int)), (33, HV.int .i64 a7), (76, HV.bool a)], []⟩) (fun a17 w18 h => ?_) (fun k19 h => ?_)
     ·refine AW.cond rfl (fun hc => ?_) (fun hc => ?_)
      ·have h := ifT hc h
       refine AW.rgs rfl fun K hK => ?_
       refine mv rfl rfl ?_
       refine b_fin hK (s' := ⟨[(2, HV.int .i64 10)], []⟩) (le_q rfl rfl) ?_
       clear hK K
       have h := hr10 _ h
       refine AW.ret ?_
       have h := Option.some.inj h
       subst h
       exact ret_pure (hs := [HV.int .i64 10]) (q := HV.int .i64 10) (.inr rfl) (resT rfl rfl) rfl trivial
      have h := ifF (bF' hc) h
      refine AW.skip ?_
      refine AW.rg rfl fun K hK => ?_
      refine bv rfl (v_bin rfl rfl b_add) ?_
      refine mv rfl rfl ?_
      refine b_nil (hK _ ?_)
      clear hK K
      exact to_le (s' := ⟨[(1, HV.fptr [HV.int .i64 p0.1, HV.int .i64 p0.2.1, slE eFromLabelTo p0.2.2] 0), (3, HV.fn (.func 49) [] [HV.fptr [HV.fn (.func 30) [] []] 0]), (31, slE eFromLabelTo p0.2.2), (32, HV.int .i64 ((p0.2.2).length : Int)), (33, HV.int .i64 (IntKind.wrap .i64 (a7 + 1)))], []⟩) (AS.le_of ⟨rfl, rfl, rfl, rfl, rfl, trivial⟩ trivial) ⟨IntKind.wrap .i64 (a7 + 1), (), h, rfl⟩
     refine AW.dg 14 follows rfl rfl fun K hK => ?_
     refine sm rfl rfl ?_
     refine sv rfl (v_bin rfl rfl b_gtr) ?_
     refine sm rfl rfl ?_
     by_cases hg24 : 0 < a7
     ·have h := ifT hg24 h
      refine s_T rfl rfl rfl rfl rfl (decide_eq_true hg24) (ops_val rfl (mv_val rfl rfl).2 ?_)
      refine s_T rfl rfl rfl rfl rfl rfl (ops_val rfl (v_fieldAddrF fo24_2 rfl) ?_)
      refine s_T rfl rfl rfl rfl rfl rfl (ops_val rfl (v_loadF ty22 rfl (l_lit rfl rfl)) ?_)
      refine s_T rfl rfl rfl rfl rfl rfl (ops_val rfl (mv_val rfl rfl).2 ?_)
      refine s_T rfl rfl rfl rfl rfl rfl (ops_val rfl (v_bin rfl rfl b_sub) ?_)
      obtain ⟨x20, h21, h⟩ := bS h
      refine s_T rfl rfl rfl rfl rfl rfl (ops_val rfl (v_idxF ty22 es22 rfl rfl (idx_lt h21)) ?_)
      refine s_T rfl rfl rfl rfl rfl rfl (ops_val rfl (v_loadF ty49 rfl (l_agg eFromLabelTo h21 rfl rfl)) ?_)
      refine s_T rfl rfl rfl rfl rfl rfl (ops_val rfl (v_loadP ty49 rfl rfl (l_litA rfl (Nat.le_of_ble_eq_true rfl) rfl)) ?_)
      obtain ⟨x22, h23, h⟩ := bS h
      refine s_T rfl rfl rfl rfl rfl rfl (ops_call rfl rfl rfl rfl (ACallD.pure0 (w_graph_by_api_Edge_1 h23)) ?_)
      refine s_T rfl rfl rfl rfl rfl rfl (ops_val rfl (v_bin rfl rfl b_geq) ?_)
      refine sv rfl (v_pickT rfl rfl rfl) ?_
      refine s_nil ?_
      refine b_nil (hK _ ?_)
      clear hK K
      exact to_le (s' := ⟨[(1, HV.fptr [HV.int .i64 p0.1, HV.int .i64 p0.2.1, slE eFromLabelTo p0.2.2] 0), (3, HV.fn (.func 49) [] [HV.fptr [HV.fn (.func 30) [] []] 0]), (31, slE eFromLabelTo p0.2.2), (32, HV.int .i64 ((p0.2.2).length : Int)), (33, HV.int .i64 a7), (76, HV.bool (decide (0 ≤ x22)))], []⟩) (AS.le_of ⟨rfl, rfl, rfl, rfl, rfl, rfl, trivial⟩ trivial) ⟨decide (0 ≤ x22), (), h, rfl⟩
     have h := ifF hg24 h
     refine s_F rfl rfl rfl rfl rfl (decide_eq_false hg24) ?_
     refine s_F rfl rfl rfl rfl rfl rfl ?_
     refine s_F rfl rfl rfl rfl rfl rfl ?_
     refine s_F rfl rfl rfl rfl rfl rfl ?_
     refine s_F rfl rfl rfl rfl rfl rfl ?_
     refine s_F rfl rfl rfl rfl rfl rfl ?_
     refine s_F rfl rfl rfl rfl rfl rfl ?_
     refine s_F rfl rfl rfl rfl rfl rfl ?_
     refine s_F rfl rfl rfl rfl rfl rfl ?_
     refine s_F rfl rfl rfl rfl rfl rfl ?_
     refine sv rfl (v_pickF rfl rfl rfl) ?_
     refine s_nil ?_
     refine b_nil (hK _ ?_)
     clear hK K
     exact to_le (s' := ⟨[(1, HV.fptr [HV.int .i64 p0.1, HV.int .i64 p0.2.1, slE eFromLabelTo p0.2.2] 0), (3, HV.fn (.func 49) [] [HV.fptr [HV.fn (.func 30) [] []] 0]), (31, slE eFromLabelTo p0.2.2), (32, HV.int .i64 ((p0.2.2).length : Int)), (33, HV.int .i64 a7), (76, HV.bool false)], []⟩) (AS.le_of ⟨rfl, rfl, rfl, rfl, rfl, rfl, trivial⟩ trivial) ⟨false, (), h, rfl⟩
    refine AW.rg rfl fun K hK => ?_
    refine bv rfl (v_fieldAddrP fo49_0 rfl rfl) ?_
    refine bv rfl (v_loadP ty3 rfl rfl (l_lit rfl rfl)) ?_
    refine bv rfl (v_fieldAddrP fo49_1 rfl rfl) ?_
    refine bv rfl (v_loadP ty3 rfl rfl (l_lit rfl rfl)) ?_
    refine bv rfl (v_fieldAddrP fo49_2 rfl rfl) ?_
    refine bv rfl (v_loadP ty3 rfl rfl (l_lit rfl rfl)) ?_
    refine bv rfl (v_min3 rfl rfl rfl rfl) ?_
    refine bv rfl (v_bin rfl rfl b_lss) ?_
    refine mv rfl rfl ?_
    by_cases hg26 : (min (min x11.1 x11.2.1) x11.2.2) < 0
    ·have h := ifT hg26 h
     refine b_F rfl rfl rfl rfl rfl (decide_eq_true hg26) ?_
     refine b_F rfl rfl rfl rfl rfl rfl ?_
     refine b_F rfl rfl rfl rfl rfl rfl ?_
     refine b_F rfl rfl rfl rfl rfl rfl ?_
     refine b_F rfl rfl rfl rfl rfl rfl ?_
     refine b_F rfl rfl rfl rfl rfl rfl ?_
     refine b_F rfl rfl rfl rfl rfl rfl ?_
     refine b_F rfl rfl rfl rfl rfl rfl ?_
     refine bv rfl (v_pickT rfl rfl rfl) ?_
     refine mv rfl rfl ?_
     refine b_F rfl rfl rfl rfl rfl rfl ?_
     refine b_F rfl rfl rfl rfl rfl rfl ?_
     refine b_F rfl rfl rfl rfl rfl rfl ?_
     refine b_F rfl rfl rfl rfl rfl rfl ?_
     refine b_F rfl rfl rfl rfl rfl rfl ?_
     refine bv rfl (v_pickT rfl rfl rfl) ?_
     refine b_nil (hK _ ?_)
     clear hK K
     exact to_le (s' := ⟨[(1, HV.fptr [HV.int .i64 p0.1, HV.int .i64 p0.2.1, slE eFromLabelTo p0.2.2] 0), (3, HV.fn (.func 49) [] [HV.fptr [HV.fn (.func 30) [] []] 0]), (4, HV.int .i64 a7), (5, HV.ptr 9005 v13 0), (31, slE eFromLabelTo p0.2.2), (32, HV.int .i64 ((p0.2.2).length : Int)), (33, HV.int .i64 a7), (62, HV.bool true)], [(9005, v13, .arr 3 49 [HV.int .i64 x11.1, HV.int .i64 x11.2.1, HV.int .i64 x11.2.2])]⟩) (AS.le_of ⟨rfl, rfl, rfl, rfl, rfl, rfl, rfl, rfl, trivial⟩ ⟨rfl, trivial⟩) ⟨true, (), h, rfl⟩
    have h := ifF hg26 h
    refine b_T rfl rfl rfl rfl (decide_eq_false hg26) (o_val rfl (v_fieldAddrP fo49_0 rfl rfl) ?_)
    refine b_T rfl rfl rfl rfl rfl (o_val rfl (v_loadP ty3 rfl rfl (l_lit rfl rfl)) ?_)
    refine b_T rfl rfl rfl rfl rfl (o_val rfl (v_fieldAddrP fo49_2 rfl rfl) ?_)
    refine b_T rfl rfl rfl rfl rfl (o_val rfl (v_loadP ty3 rfl rfl (l_lit rfl rfl)) ?_)
    refine b_T rfl rfl rfl rfl rfl (o_val rfl (v_max rfl rfl rfl) ?_)
    refine b_T rfl rfl rfl rfl rfl (o_val rfl (v_fieldAddrF fo24_1 rfl) ?_)
    refine b_T rfl rfl rfl rfl rfl (o_val rfl (v_loadF ty3 rfl (l_lit rfl rfl)) ?_)
    refine b_T rfl rfl rfl rfl rfl (o_val rfl (v_bin rfl rfl b_geq) ?_)
    refine bv rfl (v_pickF rfl rfl rfl) ?_
    refine mv rfl rfl ?_
    by_cases hg25 : p0.2.1 ≤ (max x11.1 x11.2.2)
    ·have h := ifT hg25 h
     refine b_F rfl rfl rfl rfl rfl (decide_eq_true hg25) ?_
     refine b_F rfl rfl rfl rfl rfl rfl ?_
     refine b_F rfl rfl rfl rfl rfl rfl ?_
     refine b_F rfl rfl rfl rfl rfl rfl ?_
     refine b_F rfl rfl rfl rfl rfl rfl ?_
     refine bv rfl (v_pickT rfl rfl rfl) ?_
     refine b_nil (hK _ ?_)
     clear hK K
     exact to_le (s' := ⟨[(1, HV.fptr [HV.int .i64 p0.1, HV.int .i64 p0.2.1, slE eFromLabelTo p0.2.2] 0), (3, HV.fn (.func 49) [] [HV.fptr [HV.fn (.func 30) [] []] 0]), (4, HV.int .i64 a7), (5, HV.ptr 9005 v13 0), (31, slE eFromLabelTo p0.2.2), (32, HV.int .i64 ((p0.2.2).length : Int)), (33, HV.int .i64 a7), (62, HV.bool true)], [(9005, v13, .arr 3 49 [HV.int .i64 x11.1, HV.int .i64 x11.2.1, HV.int .i64 x11.2.2])]⟩) (AS.le_of ⟨rfl, rfl, rfl, rfl, rfl, rfl, rfl, rfl, trivial⟩ ⟨rfl, trivial⟩) ⟨true, (), h, rfl⟩
    have h := ifF hg25 h
    refine b_T rfl rfl rfl rfl (decide_eq_false hg25) (o_val rfl (v_fieldAddrP fo49_1 rfl rfl) ?_)
    refine b_T rfl rfl rfl rfl rfl (o_val rfl (v_loadP ty3 rfl rfl (l_lit rfl rfl)) ?_)
    refine b_T rfl rfl rfl rfl rfl (o_val rfl (v_fieldAddrF fo24_0 rfl) ?_)
    refine b_T rfl rfl rfl rfl rfl (o_val rfl (v_loadF ty3 rfl (l_lit rfl rfl)) ?_)
    refine b_T rfl rfl rfl rfl rfl (o_val rfl (v_bin rfl rfl b_geq) ?_)
    refine bv rfl (v_pickF rfl rfl rfl) ?_
    refine b_nil (hK _ ?_)
    clear hK K
    exact to_le (s' := ⟨[(1, HV.fptr [HV.int .i64 p0.1, HV.int .i64 p0.2.1, slE eFromLabelTo p0.2.2] 0), (3, HV.fn (.func 49) [] [HV.fptr [HV.fn (.func 30) [] []] 0]), (4, HV.int .i64 a7), (5, HV.ptr 9005 v13 0), (31, slE eFromLabelTo p0.2.2), (32, HV.int .i64 ((p0.2.2).length : Int)), (33, HV.int .i64 a7), (62, HV.bool (decide (p0.1 ≤ x11.2.1)))], [(9005, v13, .arr 3 49 [HV.int .i64 x11.1, HV.int .i64 x11.2.1, HV.int .i64 x11.2.2])]⟩) (AS.le_of ⟨rfl, rfl, rfl, rfl, rfl, rfl, rfl, rfl, trivial⟩ ⟨rfl, trivial⟩) ⟨decide (p0.1 ≤ x11.2.1), (), h, rfl⟩
   have hc := of_decide_eq_false hc
   have h := ifF hc h
   refine AW.exit ?_
   exact to_le (s' := ⟨[], []⟩) (AS.le_of trivial trivial) ⟨(), (), h, rfl⟩
  refine AW.rg rfl fun K hK => ?_
  refine bv rfl (v_fieldAddrF fo24_1 rfl) ?_
  refine bv rfl (v_loadF ty3 rfl (l_lit rfl rfl)) ?_
  refine bv rfl (v_bin rfl rfl b_gtr) ?_
  refine mv rfl rfl ?_
  by_cases hg29 : 64 < p0.2.1
  ·have h := ifT hg29 h
   refine b_F rfl rfl rfl rfl rfl (decide_eq_true hg29) ?_
   refine b_F rfl rfl rfl rfl rfl rfl ?_
   refine b_F rfl rfl rfl rfl rfl rfl ?_
   refine b_F rfl rfl rfl rfl rfl rfl ?_
   refine bv rfl (v_pickT rfl rfl rfl) ?_
   refine mv rfl rfl ?_
   refine b_nil (hK _ ?_)
   clear hK K
   exact to_le (s' := ⟨[(1, HV.fptr [HV.int .i64 p0.1, HV.int .i64 p0.2.1, slE eFromLabelTo p0.2.2] 0), (19, HV.bool true)], []⟩) (AS.le_of ⟨rfl, rfl, trivial⟩ trivial) ⟨true, (), h, rfl⟩
  have h := ifF hg29 h
  refine b_T rfl rfl rfl rfl (decide_eq_false hg29) (o_val rfl (v_fieldAddrF fo24_2 rfl) ?_)
  refine b_T rfl rfl rfl rfl rfl (o_val rfl (v_loadF ty22 rfl (l_lit rfl rfl)) ?_)
  refine b_T rfl rfl rfl rfl rfl (o_val rfl (v_lenF rfl rfl ty22 rfl) ?_)
  refine b_T rfl rfl rfl rfl rfl (o_val rfl (v_bin rfl rfl b_gtr) ?_)
  refine bv rfl (v_pickF rfl rfl rfl) ?_
  refine mv rfl rfl ?_
  refine b_nil (hK _ ?_)
  clear hK K
  exact to_le (s' := ⟨[(1, HV.fptr [HV.int .i64 p0.1, HV.int .i64 p0.2.1, slE eFromLabelTo p0.2.2] 0), (19, HV.bool (decide (1024 < ((p0.2.2).length : Int))))], []⟩) (AS.le_of ⟨rfl, rfl, trivial⟩ trivial) ⟨decide (1024 < ((p0.2.2).length : Int)), (), h, rfl⟩
 refine AW.rg rfl fun K hK => ?_
 refine bv rfl (v_fieldAddrF fo24_0 rfl) ?_
 refine bv rfl (v_loadF ty3 rfl (l_lit rfl rfl)) ?_
 refine bv rfl (v_bin rfl rfl b_lss) ?_
 refine mv rfl rfl ?_
 by_cases hg30 : p0.1 < 1
 ·have h := ifT hg30 h
  refine b_F rfl rfl rfl rfl rfl (decide_eq_true hg30) ?_
  refine b_F rfl rfl rfl rfl rfl rfl ?_
  refine b_F rfl rfl rfl rfl rfl rfl ?_
  refine bv rfl (v_pickT rfl rfl rfl) ?_
  refine mv rfl rfl ?_
  refine b_nil (hK _ ?_)
  clear hK K
  exact to_le (s' := ⟨[(1, HV.fptr [HV.int .i64 p0.1, HV.int .i64 p0.2.1, slE eFromLabelTo p0.2.2] 0), (6, HV.bool true)], []⟩) (AS.le_of ⟨rfl, rfl, trivial⟩ trivial) ⟨true, (), h, rfl⟩
 have h := ifF hg30 h
 refine b_T rfl rfl rfl rfl (decide_eq_false hg30) (o_val rfl (v_fieldAddrF fo24_0 rfl) ?_)
 refine b_T rfl rfl rfl rfl rfl (o_val rfl (v_loadF ty3 rfl (l_lit rfl rfl)) ?_)
 refine b_T rfl rfl rfl rfl rfl (o_val rfl (v_bin rfl rfl b_gtr) ?_)
 refine bv rfl (v_pickF rfl rfl rfl) ?_
 refine mv rfl rfl ?_
 refine b_nil (hK _ ?_)
 clear hK K
 exact to_le (s' := ⟨[(1, HV.fptr [HV.int .i64 p0.1, HV.int .i64 p0.2.1, slE eFromLabelTo p0.2.2] 0), (6, HV.bool (decide (256 < p0.1)))], []⟩) (AS.le_of ⟨rfl, rfl, trivial⟩ trivial) ⟨decide (256 < p0.1), (), h, rfl⟩

set_option maxHeartbeats 1600000 in
set_option maxRecDepth 100000 in
theorem w_subset_key {p0 : List (Int)} {r : (List UInt8)} (h : m_subset_key p0 = some r) : Pure Tryd.prog 57 [slE eInt p0] (· = HV.str r) := by
 unfold m_subset_key at h
 refine Pure.of_body Tryd.func57 rfl rfl (Nat.le_of_ble_eq_true rfl) fun hf => ?_
 unfold Tryd.f57
 dsimp only [enumS, Nat.reduceAdd]
 refine AW.rgs rfl fun K hK => ?_
 refine mv rfl rfl ?_
 refine b_fin hK (s' := ⟨[(0, slE eInt p0)], []⟩) (le_q rfl rfl) ?_
 clear hK K
 refine AW.rgs rfl fun K hK => ?_
 refine b_op rfl (o_alloc (fid := 57) (zs := [HV.v (.pointer none), HV.v (.slice none 0 0)]) 57003 rfl rfl ty116 rfl (fun v1 => ?_))
 refine b_to (to_ownC 57503 57003 v1 2 1 1 5 116 rfl rfl (by decide) fun v2 => ?_)
 refine b_fin hK (s' := ⟨[(0, slE eInt p0), (3, HV.ptr 57003 v1 0)], [(57003, v1, bldO 57003 v1 57503 v2 false ([] : List UInt8)), (57503, v2, bytO ([] : List UInt8))]⟩) (le_q rfl rfl) ?_
 clear hK K
 refine AW.seq ?_
 refine AW.rgs rfl fun K hK => ?_
 refine mv rfl rfl ?_
 refine bv rfl (v_lenF rfl rfl ty30 rfl) ?_
 refine mv rfl rfl ?_
 refine b_fin hK (s' := ⟨[(3, HV.ptr 57003 v1 0), (6, slE eInt p0), (7, HV.int .i64 ((p0).length : Int)), (8, HV.int .i64 0)], [(57003, v1, bldO 57003 v1 57503 v2 false ([] : List UInt8)), (57503, v2, bytO ([] : List UInt8))]⟩) (le_q rfl rfl) ?_
 clear hK K
 refine AW.lpX h (by first | exact up_then | exact up_to) (S := Int × (List UInt8)) (V := Bool × Nat) (fun a v => ⟨[(3, HV.ptr 57003 v1 0), (6, slE eInt p0), (7, HV.int .i64 ((p0).length : Int)), (8, HV.int .i64 a.1)], [(57003, v1, bldO 57003 v1 57503 v.2 v.1 a.2), (57503, v.2, bytO a.2)]⟩) ?_ (X := (List UInt8)) (W := Bool × Nat) (fun a v => ⟨[(3, HV.ptr 57003 v1 0)], [(57003, v1, bldO 57003 v1 57503 v.2 v.1 a), (57503, v.2, bytO a)]⟩) (fun a14 w15 h => ?_) (fun a3 w4 st5 h => ?_)
 ·exact to_le (s' := ⟨[(3, HV.ptr 57003 v1 0), (6, slE eInt p0), (7, HV.int .i64 ((p0).length : Int)), (8, HV.int .i64 0)], [(57003, v1, bldO 57003 v1 57503 v2 false ([] : List UInt8)), (57503, v2, bytO ([] : List UInt8))]⟩) (AS.le_of ⟨rfl, rfl, rfl, rfl, trivial⟩ ⟨rfl, rfl, trivial⟩) ⟨(false, v2), rfl⟩
 ·refine AW.rgs rfl fun K hK => ?_
  refine b_op rfl (o_callA rfl rfl rfl rfl (c_String (id := 57003) (ver := v1) (aid := 57503) (aver := w15.2) (u := w15.1) (l := a14) rfl rfl fun v16 => ?_) )
  refine mv rfl rfl ?_
  refine b_fin hK (s' := ⟨[(2, HV.str a14)], []⟩) (le_q rfl rfl) ?_
  clear hK K
  refine AW.ret ?_
  have h := Option.some.inj h
  subst h
  exact ret_pure (hs := [HV.str a14]) (q := HV.str a14) (.inr rfl) (resT rfl rfl) rfl trivial
 refine AW.rgs rfl fun K hK => ?_
 refine bv rfl (v_bin rfl rfl b_lss) ?_
 refine b_fin hK (s' := ⟨[(3, HV.ptr 57003 v1 0), (6, slE eInt p0), (7, HV.int .i64 ((p0).length : Int)), (8, HV.int .i64 a3.1), (9, HV.bool (decide (a3.1 < ((p0).length : Int))))], [(57003, v1, bldO 57003 v1 57503 w4.2 w4.1 a3.2), (57503, w4.2, bytO a3.2)]⟩) (le_q rfl rfl) ?_
 clear hK K
 refine AW.cseq rfl (fun hc => ?_) (fun hc => ?_)
 ·have hc := of_decide_eq_true hc
  have h := ifT hc h
  refine AW.skip ?_
  refine AW.seq (AW.block ?_)
  refine AW.rgs rfl fun K hK => ?_
  obtain ⟨x7, h8, h⟩ := bS h
  refine bv rfl (v_idxF ty30 es30 rfl rfl (idx_lt h8)) ?_
  refine bv rfl (v_loadF ty3 rfl (l_cell eInt h8 (o := 0) rfl rfl)) ?_
  refine mv rfl rfl ?_
  refine b_fin hK (s' := ⟨[(3, HV.ptr 57003 v1 0), (5, HV.int .i64 x7), (6, slE eInt p0), (7, HV.int .i64 ((p0).length : Int)), (8, HV.int .i64 a3.1)], [(57003, v1, bldO 57003 v1 57503 w4.2 w4.1 a3.2), (57503, w4.2, bytO a3.2)]⟩) (le_q rfl rfl) ?_
  clear hK K
  refine AW.rg rfl fun K hK => ?_
  refine mv rfl rfl ?_
  obtain ⟨x9, h10, h⟩ := bS h
  refine b_op rfl (o_call rfl rfl rfl rfl (ACallD.pure0 (w_strconv_Itoa h10)) ?_)
  obtain ⟨h11, h⟩ := ifN h
  refine bv rfl (v_bin rfl rfl (b_sadd h11)) ?_
  obtain ⟨h13, h⟩ := ifN h
  refine b_op rfl (o_callA rfl rfl rfl rfl (c_WriteString (id := 57003) (ver := v1) (aid := 57503) (aver := w4.2) (u := w4.1) (l := a3.2) (m := (x9 ++ [32])) (by decide) rfl rfl h13 fun v12 => ?_) )
  refine b_fin hK (s' := ⟨[(3, HV.ptr 57003 v1 0), (6, slE eInt p0), (7, HV.int .i64 ((p0).length : Int)), (8, HV.int .i64 a3.1)], [(57003, v1, bldO 57003 v1 57503 v12 true (a3.2 ++ (x9 ++ [32]))), (57503, v12, bytO (a3.2 ++ (x9 ++ [32])))]⟩) (le_q rfl rfl) ?_
  clear hK K
  refine AW.rg rfl fun K hK => ?_
  refine bv rfl (v_bin rfl rfl b_add) ?_
  refine mv rfl rfl ?_
  refine b_nil (hK _ ?_)
  clear hK K
  exact to_le (s' := ⟨[(3, HV.ptr 57003 v1 0), (6, slE eInt p0), (7, HV.int .i64 ((p0).length : Int)), (8, HV.int .i64 (IntKind.wrap .i64 (a3.1 + 1)))], [(57003, v1, bldO 57003 v1 57503 v12 true (a3.2 ++ (x9 ++ [32]))), (57503, v12, bytO (a3.2 ++ (x9 ++ [32])))]⟩) (AS.le_of ⟨rfl, rfl, rfl, rfl, trivial⟩ ⟨rfl, rfl, trivial⟩) ⟨(IntKind.wrap .i64 (a3.1 + 1), a3.2 ++ (x9 ++ [32])), (true, v12), h, rfl⟩
 have hc := of_decide_eq_false hc
 have h := ifF hc h
 refine AW.exit ?_
 exact to_le (s' := ⟨[(3, HV.ptr 57003 v1 0)], [(57003, v1, bldO 57003 v1 57503 w4.2 w4.1 a3.2), (57503, w4.2, bytO a3.2)]⟩) (AS.le_of ⟨rfl, trivial⟩ ⟨rfl, rfl, trivial⟩) ⟨a3.2, (w4.1, w4.2), h, rfl⟩

set_option maxHeartbeats 1600000 in
set_option maxRecDepth 100000 in
theorem w_graph_checkSet {p0 : TLabelsStatesEdges} {p1 : List (Int)} {r : Int} (h : m_graph_checkSet p0 p1 = some r) : Pure Tryd.prog 36 [HV.agg [HV.int .i64 p0.1, HV.int .i64 p0.2.1, slE eFromLabelTo p0.2.2], slE eInt p1] (· = HV.int .i64 r) := by
 unfold m_graph_checkSet at h
 refine Pure.of_body Tryd.func36 rfl rfl (Nat.le_of_ble_eq_true rfl) fun hf => ?_
 unfold Tryd.f36
 dsimp only [enumS, Nat.reduceAdd]
 refine AW.rgs rfl fun K hK => ?_
 refine b_op rfl (o_box rfl rfl rfl ?_)
 refine mv rfl rfl ?_
 refine b_fin hK (s' := ⟨[(1, slE eInt p1), (2, HV.fptr [HV.int .i64 p0.1, HV.int .i64 p0.2.1, slE eFromLabelTo p0.2.2] 0)], []⟩) (le_q rfl rfl) ?_
 clear hK K
 refine AW.seq ?_
 refine AW.rgs rfl fun K hK => ?_
 refine mv rfl rfl ?_
 refine bv rfl (v_lenF rfl rfl ty30 rfl) ?_
 refine mv rfl rfl ?_
 refine b_fin hK (s' := ⟨[(1, slE eInt p1), (2, HV.fptr [HV.int .i64 p0.1, HV.int .i64 p0.2.1, slE eFromLabelTo p0.2.2] 0), (7, slE eInt p1), (8, HV.int .i64 ((p1).length : Int)), (9, HV.int .i64 0)], []⟩) (le_q rfl rfl) ?_
 clear hK K
 refine AW.lpR h (by first | exact up_then | exact up_to) (S := Int) (V := Unit) (fun a v => ⟨[(1, slE eInt p1), (2, HV.fptr [HV.int .i64 p0.1, HV.int .i64 p0.2.1, slE eFromLabelTo p0.2.2] 0), (7, slE eInt p1), (8, HV.int .i64 ((p1).length : Int)), (9, HV.int .i64 a)], []⟩) ?_ (X := Unit) (W := Unit) (fun a v => ⟨[], []⟩) (fun a17 w18 h => ?_) (fun a1 w2 st3 h hr4=> ?_)
 ·exact to_le (s' := ⟨[(1, slE eInt p1), (2, HV.fptr [HV.int .i64 p0.1, HV.int .i64 p0.2.1, slE eFromLabelTo p0.2.2] 0), (7, slE eInt p1), (8, HV.int .i64 ((p1).length : Int)), (9, HV.int .i64 0)], []⟩) (AS.le_of ⟨rfl, rfl, rfl, rfl, rfl, trivial⟩ trivial) ⟨(), rfl⟩
 ·refine AW.rgs rfl fun K hK => ?_
  refine mv rfl rfl ?_
  refine b_fin hK (s' := ⟨[(4, HV.int .i64 0)], []⟩) (le_q rfl rfl) ?_
  clear hK K
  refine AW.ret ?_
  have h := Option.some.inj h
  subst h
  exact ret_pure (hs := [HV.int .i64 0]) (q := HV.int .i64 0) (.inr rfl) (resT rfl rfl) rfl trivial
 refine AW.rgs rfl fun K hK => ?_
 refine bv rfl (v_bin rfl rfl b_lss) ?_
 refine b_fin hK (s' := ⟨[(1, slE eInt p1), (2, HV.fptr [HV.int .i64 p0.1, HV.int .i64 p0.2.1, slE eFromLabelTo p0.2.2] 0), (7, slE eInt p1), (8, HV.int .i64 ((p1).length : Int)), (9, HV.int .i64 a1), (10, HV.bool (decide (a1 < ((p1).length : Int))))], []⟩) (le_q rfl rfl) ?_
 clear hK K
 refine AW.cseq rfl (fun hc => ?_) (fun hc => ?_)
 ·have hc := of_decide_eq_true hc
  have h := ifT hc h
  refine AW.skip ?_
  refine AW.seq (AW.block ?_)
  refine AW.rgs rfl fun K hK => ?_
  refine mv rfl rfl ?_
  obtain ⟨x5, h6, h⟩ := bS h
  refine bv rfl (v_idxF ty30 es30 rfl rfl (idx_lt h6)) ?_
  refine bv rfl (v_loadF ty3 rfl (l_cell eInt h6 (o := 0) rfl rfl)) ?_
  refine mv rfl rfl ?_
  refine mv rfl rfl ?_
  refine b_fin hK (s' := ⟨[(1, slE eInt p1), (2, HV.fptr [HV.int .i64 p0.1, HV.int .i64 p0.2.1, slE eFromLabelTo p0.2.2] 0), (5, HV.int .i64 a1), (6, HV.int .i64 x5), (7, slE eInt p1), (8, HV.int .i64 ((p1).length : Int)), (9, HV.int .i64 a1)], []⟩) (le_q rfl rfl) ?_
  clear hK K
  refine AW.seq ?_
  refine AW.seqJ h (S := Bool) (V := Unit) (fun a v => ⟨[(1, slE eInt p1), (2, HV.fptr [HV.int .i64 p0.1, HV.int .i64 p0.2.1, slE eFromLabelTo p0.2.2] 0), (5, HV.int .i64 a1), (6, HV.int .i64 x5), (7, slE eInt p1), (8, HV.int .i64 ((p1).length : Int)), (9, HV.int .i64 a1), (21, HV.bool a)], []⟩) (fun a7 w8 h => ?_) (fun k9 h => ?_)
  ·refine AW.cond rfl (fun hc => ?_) (fun hc => ?_)
   ·have h := ifT hc h
    refine AW.rgs rfl fun K hK => ?_
    refine mv rfl rfl ?_
    refine b_fin hK (s' := ⟨[(4, HV.int .i64 25)], []⟩) (le_q rfl rfl) ?_
    clear hK K
    have h := hr4 _ h
    refine AW.ret ?_
    have h := Option.some.inj h
    subst h
    exact ret_pure (hs := [HV.int .i64 25]) (q := HV.int .i64 25) (.inr rfl) (resT rfl rfl) rfl trivial
   have h := ifF (bF' hc) h
   refine AW.skip ?_
   refine AW.seqJ h (S := Bool) (V := Unit) (fun a v => ⟨[(1, slE eInt p1), (2, HV.fptr [HV.int .i64 p0.1, HV.int .i64 p0.2.1, slE eFromLabelTo p0.2.2] 0), (7, slE eInt p1), (8, HV.int .i64 ((p1).length : Int)), (9, HV.int .i64 a1), (32, HV.bool a)], []⟩) (fun a10 w11 h => ?_) (fun k12 h => ?_)
   ·refine AW.cond rfl (fun hc => ?_) (fun hc => ?_)
    ·have h := ifT hc h
     refine AW.rgs rfl fun K hK => ?_
     refine mv rfl rfl ?_
     refine b_fin hK (s' := ⟨[(4, HV.int .i64 10)], []⟩) (le_q rfl rfl) ?_
     clear hK K
     have h := hr4 _ h
     refine AW.ret ?_
     have h := Option.some.inj h
     subst h
     exact ret_pure (hs := [HV.int .i64 10]) (q := HV.int .i64 10) (.inr rfl) (resT rfl rfl) rfl trivial
    have h := ifF (bF' hc) h
    refine AW.skip ?_
    refine AW.rg rfl fun K hK => ?_
    refine bv rfl (v_bin rfl rfl b_add) ?_
    refine mv rfl rfl ?_
    refine b_nil (hK _ ?_)
    clear hK K
    exact to_le (s' := ⟨[(1, slE eInt p1), (2, HV.fptr [HV.int .i64 p0.1, HV.int .i64 p0.2.1, slE eFromLabelTo p0.2.2] 0), (7, slE eInt p1), (8, HV.int .i64 ((p1).length : Int)), (9, HV.int .i64 (IntKind.wrap .i64 (a1 + 1)))], []⟩) (AS.le_of ⟨rfl, rfl, rfl, rfl, rfl, trivial⟩ trivial) ⟨IntKind.wrap .i64 (a1 + 1), (), h, rfl⟩
   refine AW.rg rfl fun K hK => ?_
   refine mv rfl rfl ?_
   refine bv rfl (v_bin rfl rfl b_gtr) ?_
   refine mv rfl rfl ?_
   by_cases hg15 : 0 < a1
   ·have h := ifT hg15 h
    refine b_T rfl rfl rfl rfl (decide_eq_true hg15) (o_val rfl (mv_val rfl rfl).2 ?_)
    refine b_T rfl rfl rfl rfl rfl (o_val rfl (mv_val rfl rfl).2 ?_)
    refine b_T rfl rfl rfl rfl rfl (o_val rfl (mv_val rfl rfl).2 ?_)
    refine b_T rfl rfl rfl rfl rfl (o_val rfl (v_bin rfl rfl b_sub) ?_)
    obtain ⟨x13, h14, h⟩ := bS h
    refine b_T rfl rfl rfl rfl rfl (o_val rfl (v_idxF ty30 es30 rfl rfl (idx_lt h14)) ?_)
    refine b_T rfl rfl rfl rfl rfl (o_val rfl (v_loadF ty3 rfl (l_cell eInt h14 (o := 0) rfl rfl)) ?_)
    refine b_T rfl rfl rfl rfl rfl (o_val rfl (v_bin rfl rfl b_leq) ?_)
    refine bv rfl (v_pickT rfl rfl rfl) ?_
    refine b_nil (hK _ ?_)
    clear hK K
    exact to_le (s' := ⟨[(1, slE eInt p1), (2, HV.fptr [HV.int .i64 p0.1, HV.int .i64 p0.2.1, slE eFromLabelTo p0.2.2] 0), (7, slE eInt p1), (8, HV.int .i64 ((p1).length : Int)), (9, HV.int .i64 a1), (32, HV.bool (decide (x5 ≤ x13)))], []⟩) (AS.le_of ⟨rfl, rfl, rfl, rfl, rfl, rfl, trivial⟩ trivial) ⟨decide (x5 ≤ x13), (), h, rfl⟩
   have h := ifF hg15 h
   refine b_F rfl rfl rfl rfl rfl (decide_eq_false hg15) ?_
   refine b_F rfl rfl rfl rfl rfl rfl ?_
   refine b_F rfl rfl rfl rfl rfl rfl ?_
   refine b_F rfl rfl rfl rfl rfl rfl ?_
   refine b_F rfl rfl rfl rfl rfl rfl ?_
   refine b_F rfl rfl rfl rfl rfl rfl ?_
   refine b_F rfl rfl rfl rfl rfl rfl ?_
   refine bv rfl (v_pickF rfl rfl rfl) ?_
   refine b_nil (hK _ ?_)
   clear hK K
   exact to_le (s' := ⟨[(1, slE eInt p1), (2, HV.fptr [HV.int .i64 p0.1, HV.int .i64 p0.2.1, slE eFromLabelTo p0.2.2] 0), (7, slE eInt p1), (8, HV.int .i64 ((p1).length : Int)), (9, HV.int .i64 a1), (32, HV.bool false)], []⟩) (AS.le_of ⟨rfl, rfl, rfl, rfl, rfl, rfl, trivial⟩ trivial) ⟨false, (), h, rfl⟩
  refine AW.rg rfl fun K hK => ?_
  refine mv rfl rfl ?_
  refine bv rfl (v_bin rfl rfl b_lss) ?_
  refine mv rfl rfl ?_
  by_cases hg16 : x5 < 0
  ·have h := ifT hg16 h
   refine b_F rfl rfl rfl rfl rfl (decide_eq_true hg16) ?_
   refine b_F rfl rfl rfl rfl rfl rfl ?_
   refine b_F rfl rfl rfl rfl rfl rfl ?_
   refine b_F rfl rfl rfl rfl rfl rfl ?_
   refine bv rfl (v_pickT rfl rfl rfl) ?_
   refine b_nil (hK _ ?_)
   clear hK K
   exact to_le (s' := ⟨[(1, slE eInt p1), (2, HV.fptr [HV.int .i64 p0.1, HV.int .i64 p0.2.1, slE eFromLabelTo p0.2.2] 0), (5, HV.int .i64 a1), (6, HV.int .i64 x5), (7, slE eInt p1), (8, HV.int .i64 ((p1).length : Int)), (9, HV.int .i64 a1), (21, HV.bool true)], []⟩) (AS.le_of ⟨rfl, rfl, rfl, rfl, rfl, rfl, rfl, rfl, trivial⟩ trivial) ⟨true, (), h, rfl⟩
  have h := ifF hg16 h
  refine b_T rfl rfl rfl rfl (decide_eq_false hg16) (o_val rfl (mv_val rfl rfl).2 ?_)
  refine b_T rfl rfl rfl rfl rfl (o_val rfl (v_fieldAddrF fo24_1 rfl) ?_)
  refine b_T rfl rfl rfl rfl rfl (o_val rfl (v_loadF ty3 rfl (l_lit rfl rfl)) ?_)
  refine b_T rfl rfl rfl rfl rfl (o_val rfl (v_bin rfl rfl b_geq) ?_)
  refine bv rfl (v_pickF rfl rfl rfl) ?_
  refine b_nil (hK _ ?_)
  clear hK K
  exact to_le (s' := ⟨[(1, slE eInt p1), (2, HV.fptr [HV.int .i64 p0.1, HV.int .i64 p0.2.1, slE eFromLabelTo p0.2.2] 0), (5, HV.int .i64 a1), (6, HV.int .i64 x5), (7, slE eInt p1), (8, HV.int .i64 ((p1).length : Int)), (9, HV.int .i64 a1), (21, HV.bool (decide (p0.2.1 ≤ x5)))], []⟩) (AS.le_of ⟨rfl, rfl, rfl, rfl, rfl, rfl, rfl, rfl, trivial⟩ trivial) ⟨decide (p0.2.1 ≤ x5), (), h, rfl⟩
 have hc := of_decide_eq_false hc
 have h := ifF hc h
 refine AW.exit ?_
 exact to_le (s' := ⟨[], []⟩) (AS.le_of trivial trivial) ⟨(), (), h, rfl⟩

set_option maxHeartbeats 1600000 in
set_option maxRecDepth 100000 in
theorem w_graph_leaving (p0 : TLabelsStatesEdges) (p1 : Int) : Pure Tryd.prog 37 [HV.agg [HV.int .i64 p0.1, HV.int .i64 p0.2.1, slE eFromLabelTo p0.2.2], HV.int .i64 p1] (· = HV.fn (.func 53) [] [HV.fptr [HV.int .i64 p0.1, HV.int .i64 p0.2.1, slE eFromLabelTo p0.2.2] 0, HV.fptr [HV.int .i64 p1] 0]) := by
 refine Pure.of_body Tryd.func37 rfl rfl (Nat.le_of_ble_eq_true rfl) fun hf => ?_
 unfold Tryd.f37
 dsimp only [enumS, Nat.reduceAdd]
 refine AW.rgs rfl fun K hK => ?_
 refine b_op rfl (o_box rfl rfl rfl ?_)
 refine b_op rfl (o_box rfl rfl rfl ?_)
 refine mv rfl rfl ?_
 refine b_fin hK (s' := ⟨[(2, HV.fptr [HV.int .i64 p0.1, HV.int .i64 p0.2.1, slE eFromLabelTo p0.2.2] 0), (3, HV.fptr [HV.int .i64 p1] 0)], []⟩) (le_q rfl rfl) ?_
 clear hK K
 refine AW.rgs rfl fun K hK => ?_
 refine bv rfl (v_func rfl rfl) ?_
 refine mv rfl rfl ?_
 refine b_fin hK (s' := ⟨[(4, HV.fn (.func 53) [] [HV.fptr [HV.int .i64 p0.1, HV.int .i64 p0.2.1, slE eFromLabelTo p0.2.2] 0, HV.fptr [HV.int .i64 p1] 0])], []⟩) (le_q rfl rfl) ?_
 clear hK K
 refine AW.ret ?_
 exact ret_pure (hs := [HV.fn (.func 53) [] [HV.fptr [HV.int .i64 p0.1, HV.int .i64 p0.2.1, slE eFromLabelTo p0.2.2] 0, HV.fptr [HV.int .i64 p1] 0]]) (q := HV.fn (.func 53) [] [HV.fptr [HV.int .i64 p0.1, HV.int .i64 p0.2.1, slE eFromLabelTo p0.2.2] 0, HV.fptr [HV.int .i64 p1] 0]) (.inr rfl) (resT rfl rfl) rfl ⟨trivial, ⟨⟨trivial, trivial, (clean_slE fun _ _ => ⟨trivial, trivial, trivial, trivial⟩), trivial⟩, ⟨trivial, trivial⟩, trivial⟩⟩

end Go.AW

namespace Go.AW
open Go Go.Proofs
set_option linter.unusedVariables false
set_option maxHeartbeats 1600000 in
set_option maxRecDepth 100000 in
theorem w_graph_Step {p0 : TLabelsStatesEdges} {p1 : List (Int)} {p2 : Int} {r : (List (Int)) × Int} (h : m_graph_Step p0 p1 p2 = some r) : Pure Tryd.prog 13 [HV.agg [HV.int .i64 p0.1, HV.int .i64 p0.2.1, slE eFromLabelTo p0.2.2], slE eInt p1, HV.int .i64 p2] (· = HV.tup [slE eInt r.1, HV.int .i64 r.2]) := by
 unfold m_graph_Step at h
 refine Pure.of_body Tryd.func13 rfl rfl (Nat.le_of_ble_eq_true rfl) fun hf => ?_
 unfold Tryd.f13
 dsimp only [enumS, Nat.reduceAdd]
 refine AW.rgs rfl fun K hK => ?_
 refine b_op rfl (o_box rfl rfl rfl ?_)
 refine b_op rfl (o_box rfl rfl rfl ?_)
 refine mv rfl rfl ?_
 refine mv rfl rfl ?_
 refine b_fin hK (s' := ⟨[(1, slE eInt p1), (3, HV.fptr [HV.int .i64 p0.1, HV.int .i64 p0.2.1, slE eFromLabelTo p0.2.2] 0), (5, HV.fptr [HV.int .i64 p2] 0)], []⟩) (le_q rfl rfl) ?_
 clear hK K
 refine AW.seq ?_
 refine AW.rgs rfl fun K hK => ?_
 refine bv rfl (v_loadF ty24 rfl (l_litA rfl (Nat.le_of_ble_eq_true rfl) rfl)) ?_
 obtain ⟨x1, h2, h⟩ := bS h
 refine b_op rfl (o_call rfl rfl rfl rfl (ACallD.pure0 (w_graph_Check h2)) ?_)
 refine bv rfl (v_bin rfl rfl b_neq) ?_
 refine b_fin hK (s' := ⟨[(1, slE eInt p1), (3, HV.fptr [HV.int .i64 p0.1, HV.int .i64 p0.2.1, slE eFromLabelTo p0.2.2] 0), (5, HV.fptr [HV.int .i64 p2] 0), (16, HV.bool (decide (x1 ≠ 0)))], []⟩) (le_q rfl rfl) ?_
 clear hK K
 refine AW.cond rfl (fun hc => ?_) (fun hc => ?_)
 ·have hc := of_decide_eq_true hc
  have h := ifT hc h
  refine AW.rgs rfl fun K hK => ?_
  refine mv rfl rfl ?_
  refine mv rfl rfl ?_
  refine b_fin hK (s' := ⟨[(6, HV.v (.slice none 0 0)), (7, HV.int .i64 1)], []⟩) (le_q rfl rfl) ?_
  clear hK K
  refine AW.to (to_weak ⟨[(6, slE eInt ([] : List Int)), (7, HV.int .i64 1)], []⟩ ⟨⟨_, rfl, .nil _⟩, ⟨_, rfl, .refl _⟩, trivial⟩ trivial ?_)
  refine AW.ret ?_
  have h := Option.some.inj h
  subst h
  exact ret_pure (hs := [slE eInt ([] : List Int), HV.int .i64 1]) (q := HV.tup [slE eInt ([] : List Int), HV.int .i64 1]) (.inr rfl) (resT rfl (resT rfl rfl)) rfl ⟨(clean_slE fun _ _ => ⟨trivial, trivial⟩), trivial, trivial⟩
 have hc := of_decide_eq_false hc
 have h := ifF hc h
 refine AW.skip ?_
 refine AW.seq ?_
 refine AW.rgs rfl fun K hK => ?_
 refine bv rfl (v_loadF ty24 rfl (l_litA rfl (Nat.le_of_ble_eq_true rfl) rfl)) ?_
 refine mv rfl rfl ?_
 obtain ⟨x3, h4, h⟩ := bS h
 refine b_op rfl (o_call rfl rfl rfl rfl (ACallD.pure0 (w_graph_checkSet h4)) ?_)
 refine mv rfl rfl ?_
 refine b_fin hK (s' := ⟨[(1, slE eInt p1), (3, HV.fptr [HV.int .i64 p0.1, HV.int .i64 p0.2.1, slE eFromLabelTo p0.2.2] 0), (5, HV.fptr [HV.int .i64 p2] 0), (8, HV.int .i64 x3)], []⟩) (le_q rfl rfl) ?_
 clear hK K
 refine AW.rgs rfl fun K hK => ?_
 refine mv rfl rfl ?_
 refine bv rfl (v_bin rfl rfl b_neq) ?_
 refine b_fin hK (s' := ⟨[(1, slE eInt p1), (3, HV.fptr [HV.int .i64 p0.1, HV.int .i64 p0.2.1, slE eFromLabelTo p0.2.2] 0), (5, HV.fptr [HV.int .i64 p2] 0), (8, HV.int .i64 x3), (21, HV.bool (decide (x3 ≠ 0)))], []⟩) (le_q rfl rfl) ?_
 clear hK K
 refine AW.cond rfl (fun hc => ?_) (fun hc => ?_)
 ·have hc := of_decide_eq_true hc
  have h := ifT hc h
  refine AW.rgs rfl fun K hK => ?_
  refine mv rfl rfl ?_
  refine mv rfl rfl ?_
  refine mv rfl rfl ?_
  refine b_fin hK (s' := ⟨[(6, HV.v (.slice none 0 0)), (7, HV.int .i64 x3)], []⟩) (le_q rfl rfl) ?_
  clear hK K
  refine AW.to (to_weak ⟨[(6, slE eInt ([] : List Int)), (7, HV.int .i64 x3)], []⟩ ⟨⟨_, rfl, .nil _⟩, ⟨_, rfl, .refl _⟩, trivial⟩ trivial ?_)
  refine AW.ret ?_
  have h := Option.some.inj h
  subst h
  exact ret_pure (hs := [slE eInt ([] : List Int), HV.int .i64 x3]) (q := HV.tup [slE eInt ([] : List Int), HV.int .i64 x3]) (.inr rfl) (resT rfl (resT rfl rfl)) rfl ⟨(clean_slE fun _ _ => ⟨trivial, trivial⟩), trivial, trivial⟩
 have hc := of_decide_eq_false hc
 have h := ifF hc h
 refine AW.skip ?_
 refine AW.seq ?_
 refine AW.seqJ h (S := Bool) (V := Unit) (fun a v => ⟨[(1, slE eInt p1), (3, HV.fptr [HV.int .i64 p0.1, HV.int .i64 p0.2.1, slE eFromLabelTo p0.2.2] 0), (5, HV.fptr [HV.int .i64 p2] 0), (30, HV.bool a)], []⟩) (fun a5 w6 h => ?_) (fun k7 h => ?_)
 ·refine AW.cond rfl (fun hc => ?_) (fun hc => ?_)
  ·have h := ifT hc h
   refine AW.rgs rfl fun K hK => ?_
   refine mv rfl rfl ?_
   refine mv rfl rfl ?_
   refine b_fin hK (s' := ⟨[(6, HV.v (.slice none 0 0)), (7, HV.int .i64 2)], []⟩) (le_q rfl rfl) ?_
   clear hK K
   refine AW.to (to_weak ⟨[(6, slE eInt ([] : List Int)), (7, HV.int .i64 2)], []⟩ ⟨⟨_, rfl, .nil _⟩, ⟨_, rfl, .refl _⟩, trivial⟩ trivial ?_)
   refine AW.ret ?_
   have h := Option.some.inj h
   subst h
   exact ret_pure (hs := [slE eInt ([] : List Int), HV.int .i64 2]) (q := HV.tup [slE eInt ([] : List Int), HV.int .i64 2]) (.inr rfl) (resT rfl (resT rfl rfl)) rfl ⟨(clean_slE fun _ _ => ⟨trivial, trivial⟩), trivial, trivial⟩
  have h := ifF (bF' hc) h
  refine AW.skip ?_
  refine AW.rgs rfl fun K hK => ?_
  refine b_op rfl (o_alloc (fid := 13) (zs := [HV.v (.slice none 0 0)]) 13009 rfl rfl ty30 rfl (fun v8 => ?_))
  refine b_fin hK (s' := ⟨[(1, slE eInt p1), (3, HV.fptr [HV.int .i64 p0.1, HV.int .i64 p0.2.1, slE eFromLabelTo p0.2.2] 0), (5, HV.fptr [HV.int .i64 p2] 0), (9, HV.ptr 13009 v8 0)], [(13009, v8, .arr 1 30 [HV.v (.slice none 0 0)])]⟩) (le_q rfl rfl) ?_
  clear hK K
  refine AW.seq ?_
  refine AW.rgs rfl fun K hK => ?_
  refine mv rfl rfl ?_
  refine bv rfl (v_lenF rfl rfl ty30 rfl) ?_
  refine mv rfl rfl ?_
  refine b_fin hK (s' := ⟨[(3, HV.fptr [HV.int .i64 p0.1, HV.int .i64 p0.2.1, slE eFromLabelTo p0.2.2] 0), (5, HV.fptr [HV.int .i64 p2] 0), (9, HV.ptr 13009 v8 0), (31, slE eInt p1), (32, HV.int .i64 ((p1).length : Int)), (33, HV.int .i64 0)], [(13009, v8, .arr 1 30 [HV.v (.slice none 0 0)])]⟩) (le_q rfl rfl) ?_
  clear hK K
  refine AW.lpX h (by first | exact up_then | exact up_to) (S := Int × (List Int)) (V := Nat) (fun a v => ⟨[(3, HV.fptr [HV.int .i64 p0.1, HV.int .i64 p0.2.1, slE eFromLabelTo p0.2.2] 0), (5, HV.fptr [HV.int .i64 p2] 0), (9, HV.ptr 13009 v8 0), (31, slE eInt p1), (32, HV.int .i64 ((p1).length : Int)), (33, HV.int .i64 a.1)], [(13009, v8, .arr 1 30 [HV.ar 13050 v eInt.k 0 ((a.2).length)]), (13050, v, .arr eInt.k 3 (eInt.E a.2))]⟩) ?_ (X := (List Int)) (W := Nat) (fun a v => ⟨[(9, HV.ptr 13009 v8 0)], [(13009, v8, .arr 1 30 [HV.ar 13050 v eInt.k 0 ((a).length)]), (13050, v, .arr eInt.k 3 (eInt.E a))]⟩) (fun a31 w32 h => ?_) (fun a9 w10 st11 h => ?_)
  ·refine to_bind (to_ownC 13050 13009 v8 1 0 eInt.k 3 30 rfl rfl (by decide) fun v30 => ?_)
   exact to_le (s' := ⟨[(3, HV.fptr [HV.int .i64 p0.1, HV.int .i64 p0.2.1, slE eFromLabelTo p0.2.2] 0), (5, HV.fptr [HV.int .i64 p2] 0), (9, HV.ptr 13009 v8 0), (31, slE eInt p1), (32, HV.int .i64 ((p1).length : Int)), (33, HV.int .i64 0)], [(13009, v8, .arr 1 30 [HV.ar 13050 v30 eInt.k 0 ((([] : List Int)).length)]), (13050, v30, .arr eInt.k 3 (eInt.E ([] : List Int)))]⟩) (AS.le_of ⟨rfl, rfl, rfl, rfl, rfl, rfl, trivial⟩ ⟨hle rfl (by first | rfl | simp only [List.length_set, sortI_len, sortS_len]), rfl, trivial⟩) ⟨v30, rfl⟩
  ·refine AW.rgs rfl fun K hK => ?_
   refine bv rfl (v_loadP ty30 rfl rfl (l_lit rfl rfl)) ?_
   obtain ⟨h33, h⟩ := ifN h
   refine b_op rfl (o_sortI c_sortI (l := a31) rfl rfl rfl rfl h33 ?_)
   refine b_fin hK (s' := ⟨[(9, HV.ptr 13009 v8 0)], [(13009, v8, .arr 1 30 [HV.ar 13050 w32 eInt.k 0 ((sortI a31).length)]), (13050, w32, .arr eInt.k 3 (eInt.E (sortI a31)))]⟩) (AS.le_of ⟨rfl, trivial⟩ ⟨hle rfl (by first | rfl | simp only [List.length_set, sortI_len, sortS_len]), rfl, trivial⟩) ?_
   clear hK K
   refine AW.rgs rfl fun K hK => ?_
   refine bv rfl (v_loadP ty30 rfl rfl (l_lit rfl rfl)) ?_
   refine b_op rfl (o_callK (q := slE eInt (compact_ (sortI a31))) [(13009, v8, .arr 1 30 [HV.ar 13050 w32 eInt.k 0 ((sortI a31).length)])] rfl rfl rfl rfl (fun K hK => c_compactI (H' := [(13009, v8, .arr 1 30 [HV.ar 13050 w32 eInt.k 0 ((sortI a31).length)])]) (l := sortI a31) rfl rfl (leH_get ⟨rfl, trivial⟩) rfl hK) ?_)
   refine mv rfl rfl ?_
   refine mv rfl rfl ?_
   refine b_fin hK (s' := ⟨[(6, slE eInt (compact_ (sortI a31))), (7, HV.int .i64 0)], []⟩) (le_q rfl rfl) ?_
   clear hK K
   refine AW.ret ?_
   have h := Option.some.inj h
   subst h
   exact ret_pure (hs := [slE eInt (compact_ (sortI a31)), HV.int .i64 0]) (q := HV.tup [slE eInt (compact_ (sortI a31)), HV.int .i64 0]) (.inr rfl) (resT rfl (resT rfl rfl)) rfl ⟨(clean_slE fun _ _ => ⟨trivial, trivial⟩), trivial, trivial⟩
  refine AW.rgs rfl fun K hK => ?_
  refine bv rfl (v_bin rfl rfl b_lss) ?_
  refine b_fin hK (s' := ⟨[(3, HV.fptr [HV.int .i64 p0.1, HV.int .i64 p0.2.1, slE eFromLabelTo p0.2.2] 0), (5, HV.fptr [HV.int .i64 p2] 0), (9, HV.ptr 13009 v8 0), (31, slE eInt p1), (32, HV.int .i64 ((p1).length : Int)), (33, HV.int .i64 a9.1), (34, HV.bool (decide (a9.1 < ((p1).length : Int))))], [(13009, v8, .arr 1 30 [HV.ar 13050 w10 eInt.k 0 ((a9.2).length)]), (13050, w10, .arr eInt.k 3 (eInt.E a9.2))]⟩) (le_q rfl rfl) ?_
  clear hK K
  refine AW.cseq rfl (fun hc => ?_) (fun hc => ?_)
  ·have hc := of_decide_eq_true hc
   have h := ifT hc h
   refine AW.skip ?_
   refine AW.seq (AW.block ?_)
   refine AW.rgs rfl fun K hK => ?_
   obtain ⟨x13, h14, h⟩ := bS h
   refine bv rfl (v_idxF ty30 es30 rfl rfl (idx_lt h14)) ?_
   refine bv rfl (v_loadF ty3 rfl (l_cell eInt h14 (o := 0) rfl rfl)) ?_
   refine mv rfl rfl ?_
   refine b_fin hK (s' := ⟨[(3, HV.fptr [HV.int .i64 p0.1, HV.int .i64 p0.2.1, slE eFromLabelTo p0.2.2] 0), (5, HV.fptr [HV.int .i64 p2] 0), (9, HV.ptr 13009 v8 0), (11, HV.int .i64 x13), (31, slE eInt p1), (32, HV.int .i64 ((p1).length : Int)), (33, HV.int .i64 a9.1)], [(13009, v8, .arr 1 30 [HV.ar 13050 w10 eInt.k 0 ((a9.2).length)]), (13050, w10, .arr eInt.k 3 (eInt.E a9.2))]⟩) (le_q rfl rfl) ?_
   clear hK K
   refine AW.rgs rfl fun K hK => ?_
   refine bv rfl (v_loadF ty24 rfl (l_litA rfl (Nat.le_of_ble_eq_true rfl) rfl)) ?_
   refine mv rfl rfl ?_
   refine b_op rfl (o_call rfl rfl rfl rfl (ACallD.pure0 (w_graph_leaving p0 x13)) ?_)
   refine b_fin hK (s' := ⟨[(3, HV.fptr [HV.int .i64 p0.1, HV.int .i64 p0.2.1, slE eFromLabelTo p0.2.2] 0), (5, HV.fptr [HV.int .i64 p2] 0), (9, HV.ptr 13009 v8 0), (31, slE eInt p1), (32, HV.int .i64 ((p1).length : Int)), (33, HV.int .i64 a9.1), (39, HV.fn (.func 53) [] [HV.fptr [HV.int .i64 p0.1, HV.int .i64 p0.2.1, slE eFromLabelTo p0.2.2] 0, HV.fptr [HV.int .i64 x13] 0])], [(13009, v8, .arr 1 30 [HV.ar 13050 w10 eInt.k 0 ((a9.2).length)]), (13050, w10, .arr eInt.k 3 (eInt.E a9.2))]⟩) (le_q rfl rfl) ?_
   clear hK K
   refine AW.block ?_
   refine AW.to (to_le (s' := ⟨[(3, HV.fptr [HV.int .i64 p0.1, HV.int .i64 p0.2.1, slE eFromLabelTo p0.2.2] 0), (5, HV.fptr [HV.int .i64 p2] 0), (9, HV.ptr 13009 v8 0), (31, slE eInt p1), (32, HV.int .i64 ((p1).length : Int)), (33, HV.int .i64 a9.1), (39, HV.fn (.func 53) [] [HV.fptr [HV.int .i64 p0.1, HV.int .i64 p0.2.1, slE eFromLabelTo p0.2.2] 0, HV.fptr [HV.int .i64 x13] 0])], [(13009, v8, .arr 1 30 [HV.ar 13050 w10 eInt.k 0 ((a9.2).length)]), (13050, w10, .arr eInt.k 3 (eInt.E a9.2))]⟩) (le_q rfl rfl) ?_)
   obtain ⟨L15, h16, h⟩ := bS h
   refine AW.rangeY (c := .ret) 13900 (fun x => [HV.int .i64 x.1, HV.agg [HV.int .i64 x.2.1, HV.int .i64 x.2.2.1, HV.int .i64 x.2.2.2]]) h (by first | exact up_then | exact up_to) rfl (iy_graph_leaving h16) (S := (List Int)) (V := Nat) (fun a v => [(13009, v8, .arr 1 30 [HV.ar 13050 v eInt.k 0 ((a).length)]), (13050, v, .arr eInt.k 3 (eInt.E a))]) w10 (X := Unit) (W := Unit) (fun _ _ => []) (fun _ _ => rfl) (fun _ _ => rfl) rfl (fun _ => rfl) (fun a26 w27 h => ?_) (fun a28 w29 h => ?_) (fun Lo l22 v20 a17 x19 w18 st21 h => ?_)
   ·refine AW.rg rfl fun K hK => ?_
    refine bv rfl (v_bin rfl rfl b_add) ?_
    refine mv rfl rfl ?_
    refine b_nil (hK _ ?_)
    clear hK K
    exact to_le (s' := ⟨[(3, HV.fptr [HV.int .i64 p0.1, HV.int .i64 p0.2.1, slE eFromLabelTo p0.2.2] 0), (5, HV.fptr [HV.int .i64 p2] 0), (9, HV.ptr 13009 v8 0), (31, slE eInt p1), (32, HV.int .i64 ((p1).length : Int)), (33, HV.int .i64 (IntKind.wrap .i64 (a9.1 + 1)))], [(13009, v8, .arr 1 30 [HV.ar 13050 w27 eInt.k 0 ((a26).length)]), (13050, w27, .arr eInt.k 3 (eInt.E a26))]⟩) (AS.le_of ⟨rfl, rfl, rfl, rfl, rfl, rfl, trivial⟩ ⟨rfl, rfl, trivial⟩) ⟨(IntKind.wrap .i64 (a9.1 + 1), a26), w27, h, rfl⟩
   ·cases h
   refine AW.rg rfl fun K hK => ?_
   refine b_op rfl (o_alloc (fid := 13) (zs := [HV.int .i64 0, HV.int .i64 0, HV.int .i64 0]) 13013 rfl rfl ty49 rfl (fun v23 => ?_))
   refine b_op rfl (o_store (cs := [HV.int .i64 x19.2.1, HV.int .i64 x19.2.2.1, HV.int .i64 x19.2.2.2]) (zs := [HV.int .i64 x19.2.1, HV.int .i64 x19.2.2.1, HV.int .i64 x19.2.2.2]) rfl rfl rfl ty49 rfl rfl rfl rfl rfl ?_)
   refine b_nil (hK _ ?_)
   clear hK K
   refine ⟨rfl, rfl, ?_⟩
   refine AW.block ?_
   refine AW.rgs rfl fun K hK => ?_
   refine bv rfl (v_fieldAddrP fo49_1 rfl rfl) ?_
   refine bv rfl (v_loadP ty3 rfl rfl (l_lit rfl rfl)) ?_
   refine bv rfl (v_loadF ty3 rfl (l_lit rfl rfl)) ?_
   refine bv rfl (v_bin rfl rfl b_eql) ?_
   refine b_fin hK (s' := ⟨[(3, HV.fptr [HV.int .i64 p0.1, HV.int .i64 p0.2.1, slE eFromLabelTo p0.2.2] 0), (5, HV.fptr [HV.int .i64 p2] 0), (9, HV.ptr 13009 v8 0), (13, HV.ptr 13013 v23 0), (31, slE eInt p1), (32, HV.int .i64 ((p1).length : Int)), (33, HV.int .i64 a9.1), (41, HV.agg [HV.int .i64 x19.2.1, HV.int .i64 x19.2.2.1, HV.int .i64 x19.2.2.2]), (45, HV.bool (decide (x19.2.2.1 = p2)))], [(13900, v20, Lo .busy none), (13009, v8, .arr 1 30 [HV.ar 13050 w18 eInt.k 0 ((a17).length)]), (13050, w18, .arr eInt.k 3 (eInt.E a17)), (13013, v23, .arr 3 49 [HV.int .i64 x19.2.1, HV.int .i64 x19.2.2.1, HV.int .i64 x19.2.2.2])]⟩) (le_q rfl rfl) ?_
   clear hK K
   refine AW.cond rfl (fun hc => ?_) (fun hc => ?_)
   ·have hc := of_decide_eq_true hc
    have h := ifT hc h
    refine AW.rg rfl fun K hK => ?_
    refine bv rfl (v_loadP ty30 rfl rfl (l_lit rfl rfl)) ?_
    refine bv rfl (v_fieldAddrP fo49_2 rfl rfl) ?_
    refine bv rfl (v_loadP ty3 rfl rfl (l_lit rfl rfl)) ?_
    refine b_op rfl (o_bsl rfl rfl (as_of (cs := [HV.int .i64 x19.2.2.2]) ty30 ty3 rfl rfl rfl rfl rfl) ?_)
    obtain ⟨h25, h⟩ := ifN h
    refine b_op rfl (o_appE eInt (l := a17) (m := [x19.2.2.2]) rfl rfl ty30 ty30 ty3 rfl rfl rfl rfl rfl h25 (fun v24 => ?_))
    refine b_op rfl (o_store (cs := [HV.ar 13050 v24 eInt.k 0 ((a17 ++ [x19.2.2.2]).length)]) (zs := [HV.ar 13050 v24 eInt.k 0 ((a17 ++ [x19.2.2.2]).length)]) rfl rfl rfl ty30 rfl rfl rfl rfl rfl ?_)
    refine b_nil (hK _ ?_)
    clear hK K
    exact ⟨a17 ++ [x19.2.2.2], v24, h, (AS.le_of trivial ⟨rfl, rfl, rfl, trivial⟩)⟩
   have hc := of_decide_eq_false hc
   have h := ifF hc h
   refine AW.skip ?_
   exact ⟨a17, w18, h, (AS.le_of trivial ⟨rfl, rfl, rfl, trivial⟩)⟩
  have hc := of_decide_eq_false hc
  have h := ifF hc h
  refine AW.exit ?_
  exact to_le (s' := ⟨[(9, HV.ptr 13009 v8 0)], [(13009, v8, .arr 1 30 [HV.ar 13050 w10 eInt.k 0 ((a9.2).length)]), (13050, w10, .arr eInt.k 3 (eInt.E a9.2))]⟩) (AS.le_of ⟨rfl, trivial⟩ ⟨rfl, rfl, trivial⟩) ⟨a9.2, w10, h, rfl⟩
 refine AW.rg rfl fun K hK => ?_
 refine bv rfl (v_loadF ty3 rfl (l_lit rfl rfl)) ?_
 refine bv rfl (v_bin rfl rfl b_lss) ?_
 refine mv rfl rfl ?_
 by_cases hg34 : p2 < 0
 ·have h := ifT hg34 h
  refine b_F rfl rfl rfl rfl rfl (decide_eq_true hg34) ?_
  refine b_F rfl rfl rfl rfl rfl rfl ?_
  refine b_F rfl rfl rfl rfl rfl rfl ?_
  refine b_F rfl rfl rfl rfl rfl rfl ?_
  refine bv rfl (v_pickT rfl rfl rfl) ?_
  refine b_nil (hK _ ?_)
  clear hK K
  exact to_le (s' := ⟨[(1, slE eInt p1), (3, HV.fptr [HV.int .i64 p0.1, HV.int .i64 p0.2.1, slE eFromLabelTo p0.2.2] 0), (5, HV.fptr [HV.int .i64 p2] 0), (30, HV.bool true)], []⟩) (AS.le_of ⟨rfl, rfl, rfl, rfl, trivial⟩ trivial) ⟨true, (), h, rfl⟩
 have h := ifF hg34 h
 refine b_T rfl rfl rfl rfl (decide_eq_false hg34) (o_val rfl (v_loadF ty3 rfl (l_lit rfl rfl)) ?_)
 refine b_T rfl rfl rfl rfl rfl (o_val rfl (v_fieldAddrF fo24_0 rfl) ?_)
 refine b_T rfl rfl rfl rfl rfl (o_val rfl (v_loadF ty3 rfl (l_lit rfl rfl)) ?_)
 refine b_T rfl rfl rfl rfl rfl (o_val rfl (v_bin rfl rfl b_geq) ?_)
 refine bv rfl (v_pickF rfl rfl rfl) ?_
 refine b_nil (hK _ ?_)
 clear hK K
 exact to_le (s' := ⟨[(1, slE eInt p1), (3, HV.fptr [HV.int .i64 p0.1, HV.int .i64 p0.2.1, slE eFromLabelTo p0.2.2] 0), (5, HV.fptr [HV.int .i64 p2] 0), (30, HV.bool (decide (p0.1 ≤ p2)))], []⟩) (AS.le_of ⟨rfl, rfl, rfl, rfl, trivial⟩ trivial) ⟨decide (p0.1 ≤ p2), (), h, rfl⟩

end Go.AW

namespace Go.AW
open Go Go.Proofs
set_option linter.unusedVariables false
set_option maxHeartbeats 1600000 in
set_option maxRecDepth 100000 in
theorem w_subset_build {p0 : TLabelsStatesEdges} {p1 : List (Int)} {r : TLabelsStatesEdges × (List (List (Int))) × Int} (h : m_subset_build p0 p1 = some r) : Pure Tryd.prog 41 [HV.agg [HV.int .i64 p0.1, HV.int .i64 p0.2.1, slE eFromLabelTo p0.2.2], slE eInt p1] (· = HV.tup [HV.agg [HV.int .i64 r.1.1, HV.int .i64 r.1.2.1, slE eFromLabelTo r.1.2.2], slE (eSl eInt) r.2.1, HV.int .i64 r.2.2]) := by
 unfold m_subset_build at h
 refine Pure.of_body Tryd.func41 rfl rfl (Nat.le_of_ble_eq_true rfl) fun hf => ?_
 unfold Tryd.f41
 dsimp only [enumS, Nat.reduceAdd]
 refine AW.rgs rfl fun K hK => ?_
 refine b_op rfl (o_box rfl rfl rfl ?_)
 refine b_op rfl (o_alloc (fid := 41) (zs := [HV.int .i64 0, HV.int .i64 0, HV.v (.slice none 0 0)]) 41004 rfl rfl ty24 rfl (fun v1 => ?_))
 refine mv rfl rfl ?_
 refine mv rfl rfl ?_
 refine b_fin hK (s' := ⟨[(1, slE eInt p1), (2, HV.fptr [HV.int .i64 p0.1, HV.int .i64 p0.2.1, slE eFromLabelTo p0.2.2] 0), (4, HV.ptr 41004 v1 0)], [(41004, v1, .arr 3 24 [HV.int .i64 0, HV.int .i64 0, HV.v (.slice none 0 0)])]⟩) (le_q rfl rfl) ?_
 clear hK K
 refine AW.rgs rfl fun K hK => ?_
 refine b_op rfl (o_makeMap (fid := 41) (HV.int .i64) 41011 rfl rfl (fun v2 => ?_))
 refine mv rfl rfl ?_
 obtain ⟨x3, h4, h⟩ := bS h
 refine b_op rfl (o_call rfl rfl rfl rfl (ACallD.pure0 (w_subset_key h4)) ?_)
 refine b_op rfl (o_mapSet (HV.int .i64) (es := ([] : List (List UInt8 × Int))) (k := x3) (v := 0) (.inr rfl) ty88 ty9 rfl rfl rfl rfl trivial ?_)
 refine mv rfl rfl ?_
 refine b_op rfl (o_alloc (fid := 41) (zs := [HV.v (.map none)]) 41007 rfl rfl ty88 rfl (fun v5 => ?_))
 refine b_op rfl (o_store (cs := [HV.mp 41011 v2]) (zs := [HV.mp 41011 v2]) rfl rfl rfl ty88 rfl rfl rfl rfl rfl ?_)
 refine b_fin hK (s' := ⟨[(1, slE eInt p1), (2, HV.fptr [HV.int .i64 p0.1, HV.int .i64 p0.2.1, slE eFromLabelTo p0.2.2] 0), (4, HV.ptr 41004 v1 0), (7, HV.ptr 41007 v5 0)], [(41004, v1, .arr 3 24 [HV.int .i64 0, HV.int .i64 0, HV.v (.slice none 0 0)]), (41011, v2, .map (entE (HV.int .i64) (mputN x3 0 ([] : List (List UInt8 × Int))))), (41007, v5, .arr 1 88 [HV.mp 41011 v2])]⟩) (le_q rfl rfl) ?_
 clear hK K
 refine AW.rgs rfl fun K hK => ?_
 refine mv rfl rfl ?_
 obtain ⟨x6, h7, h⟩ := bS h
 refine b_op rfl (o_call rfl rfl rfl rfl (ACallD.pure0 (w_slices_Clone_Lint_int h7)) ?_)
 refine b_op rfl (o_bslM (fid := 41) 41017 rfl rfl rfl (as_of (cs := [slE eInt x6]) ty39 ty30 rfl rfl rfl rfl rfl) (fun v8 => ?_))
 refine b_op rfl (o_alloc (fid := 41) (zs := [HV.v (.slice none 0 0)]) 41008 rfl rfl ty39 rfl (fun v9 => ?_))
 refine b_op rfl (o_store (cs := [HV.ar 41017 v8 (eSl eInt).k 0 (([x6]).length)]) (zs := [HV.ar 41017 v8 (eSl eInt).k 0 (([x6]).length)]) rfl rfl rfl ty39 rfl rfl rfl rfl rfl ?_)
 refine b_fin hK (s' := ⟨[(2, HV.fptr [HV.int .i64 p0.1, HV.int .i64 p0.2.1, slE eFromLabelTo p0.2.2] 0), (4, HV.ptr 41004 v1 0), (7, HV.ptr 41007 v5 0), (8, HV.ptr 41008 v9 0)], [(41004, v1, .arr 3 24 [HV.int .i64 0, HV.int .i64 0, HV.v (.slice none 0 0)]), (41011, v2, .map (entE (HV.int .i64) (mputN x3 0 ([] : List (List UInt8 × Int))))), (41007, v5, .arr 1 88 [HV.mp 41011 v2]), (41017, v8, .arr (eSl eInt).k 30 ((eSl eInt).E [x6])), (41008, v9, .arr 1 39 [HV.ar 41017 v8 (eSl eInt).k 0 (([x6]).length)])]⟩) (le_q rfl rfl) ?_
 clear hK K
 refine AW.rgs rfl fun K hK => ?_
 refine bv rfl (v_fieldAddrF fo24_0 rfl) ?_
 refine bv rfl (v_loadF ty3 rfl (l_lit rfl rfl)) ?_
 refine b_op rfl (o_build (cs := [HV.int .i64 p0.1, HV.int .i64 0, HV.v (.slice none 0 0)]) rfl (bl_of ty24 rfl rfl rfl rfl) ?_)
 refine b_op rfl (o_alloc (fid := 41) (zs := [HV.int .i64 0, HV.int .i64 0, HV.v (.slice none 0 0)]) 41009 rfl rfl ty24 rfl (fun v10 => ?_))
 refine b_op rfl (o_store (cs := [HV.int .i64 p0.1, HV.int .i64 0, HV.v (.slice none 0 0)]) (zs := [HV.int .i64 p0.1, HV.int .i64 0, HV.v (.slice none 0 0)]) rfl rfl rfl ty24 rfl rfl rfl rfl rfl ?_)
 refine b_fin hK (s' := ⟨[(2, HV.fptr [HV.int .i64 p0.1, HV.int .i64 p0.2.1, slE eFromLabelTo p0.2.2] 0), (4, HV.ptr 41004 v1 0), (7, HV.ptr 41007 v5 0), (8, HV.ptr 41008 v9 0), (9, HV.ptr 41009 v10 0)], [(41004, v1, .arr 3 24 [HV.int .i64 0, HV.int .i64 0, HV.v (.slice none 0 0)]), (41011, v2, .map (entE (HV.int .i64) (mputN x3 0 ([] : List (List UInt8 × Int))))), (41007, v5, .arr 1 88 [HV.mp 41011 v2]), (41017, v8, .arr (eSl eInt).k 30 ((eSl eInt).E [x6])), (41008, v9, .arr 1 39 [HV.ar 41017 v8 (eSl eInt).k 0 (([x6]).length)]), (41009, v10, .arr 3 24 [HV.int .i64 p0.1, HV.int .i64 0, HV.v (.slice none 0 0)])]⟩) (le_q rfl rfl) ?_
 clear hK K
 refine AW.seq ?_
 refine AW.rgs rfl fun K hK => ?_
 refine b_op rfl (o_alloc (fid := 41) (zs := [HV.int .i64 0]) 41010 rfl rfl ty3 rfl (fun v11 => ?_))
 refine b_op rfl (o_store (cs := [HV.int .i64 0]) (zs := [HV.int .i64 0]) rfl rfl rfl ty3 rfl rfl rfl rfl rfl ?_)
 refine b_fin hK (s' := ⟨[(2, HV.fptr [HV.int .i64 p0.1, HV.int .i64 p0.2.1, slE eFromLabelTo p0.2.2] 0), (4, HV.ptr 41004 v1 0), (7, HV.ptr 41007 v5 0), (8, HV.ptr 41008 v9 0), (9, HV.ptr 41009 v10 0), (10, HV.ptr 41010 v11 0)], [(41004, v1, .arr 3 24 [HV.int .i64 0, HV.int .i64 0, HV.v (.slice none 0 0)]), (41011, v2, .map (entE (HV.int .i64) (mputN x3 0 ([] : List (List UInt8 × Int))))), (41007, v5, .arr 1 88 [HV.mp 41011 v2]), (41017, v8, .arr (eSl eInt).k 30 ((eSl eInt).E [x6])), (41008, v9, .arr 1 39 [HV.ar 41017 v8 (eSl eInt).k 0 (([x6]).length)]), (41009, v10, .arr 3 24 [HV.int .i64 p0.1, HV.int .i64 0, HV.v (.slice none 0 0)]), (41010, v11, .arr 1 3 [HV.int .i64 0])]⟩) (le_q rfl rfl) ?_
 clear hK K
 refine AW.lpR h (by first | exact up_then | exact up_to) (S := (List TFromLabelTo) × Int × (List (List UInt8 × Int)) × (List (List (Int)))) (V := Nat × Nat × Nat) (fun a v => ⟨[(2, HV.fptr [HV.int .i64 p0.1, HV.int .i64 p0.2.1, slE eFromLabelTo p0.2.2] 0), (4, HV.ptr 41004 v1 0), (7, HV.ptr 41007 v5 0), (8, HV.ptr 41008 v9 0), (9, HV.ptr 41009 v10 0), (10, HV.ptr 41010 v.2.1 0)], [(41004, v1, .arr 3 24 [HV.int .i64 0, HV.int .i64 0, HV.v (.slice none 0 0)]), (41007, v5, .arr 1 88 [HV.mp 41011 v2]), (41008, v9, .arr 1 39 [HV.ar 41017 v.2.2 (eSl eInt).k 0 ((a.2.2.2).length)]), (41009, v10, .arr 3 24 [HV.int .i64 p0.1, HV.int .i64 0, HV.ar 20002036 v.1 eFromLabelTo.k 0 ((a.1).length)]), (20002036, v.1, .arr eFromLabelTo.k 49 (eFromLabelTo.E a.1)), (41010, v.2.1, .arr 1 3 [HV.int .i64 a.2.1]), (41011, v2, .map (entE (HV.int .i64) a.2.2.1)), (41017, v.2.2, .arr (eSl eInt).k 30 ((eSl eInt).E a.2.2.2))]⟩) ?_ (X := (List TFromLabelTo) × (List (List (Int)))) (W := Nat × Nat) (fun a v => ⟨[(4, HV.ptr 41004 v1 0), (8, HV.ptr 41008 v9 0), (9, HV.ptr 41009 v10 0)], [(41004, v1, .arr 3 24 [HV.int .i64 0, HV.int .i64 0, HV.v (.slice none 0 0)]), (41008, v9, .arr 1 39 [HV.ar 41017 v.2 (eSl eInt).k 0 ((a.2).length)]), (41009, v10, .arr 3 24 [HV.int .i64 p0.1, HV.int .i64 0, HV.ar 20002036 v.1 eFromLabelTo.k 0 ((a.1).length)]), (20002036, v.1, .arr eFromLabelTo.k 49 (eFromLabelTo.E a.1)), (41017, v.2, .arr (eSl eInt).k 30 ((eSl eInt).E a.2))]⟩) (fun a54 w55 h => ?_) (fun a12 w13 st14 h hr15=> ?_)
 ·refine to_bind (to_ownC 20002036 41009 v10 3 2 eFromLabelTo.k 49 24 rfl rfl (by decide) fun v53 => ?_)
  exact to_le (s' := ⟨[(2, HV.fptr [HV.int .i64 p0.1, HV.int .i64 p0.2.1, slE eFromLabelTo p0.2.2] 0), (4, HV.ptr 41004 v1 0), (7, HV.ptr 41007 v5 0), (8, HV.ptr 41008 v9 0), (9, HV.ptr 41009 v10 0), (10, HV.ptr 41010 v11 0)], [(41004, v1, .arr 3 24 [HV.int .i64 0, HV.int .i64 0, HV.v (.slice none 0 0)]), (41007, v5, .arr 1 88 [HV.mp 41011 v2]), (41008, v9, .arr 1 39 [HV.ar 41017 v8 (eSl eInt).k 0 (([x6]).length)]), (41009, v10, .arr 3 24 [HV.int .i64 p0.1, HV.int .i64 0, HV.ar 20002036 v53 eFromLabelTo.k 0 ((([] : List TFromLabelTo)).length)]), (20002036, v53, .arr eFromLabelTo.k 49 (eFromLabelTo.E ([] : List TFromLabelTo))), (41010, v11, .arr 1 3 [HV.int .i64 0]), (41011, v2, .map (entE (HV.int .i64) (mputN x3 0 ([] : List (List UInt8 × Int))))), (41017, v8, .arr (eSl eInt).k 30 ((eSl eInt).E [x6]))]⟩) (AS.le_of ⟨rfl, rfl, rfl, rfl, rfl, rfl, trivial⟩ ⟨rfl, rfl, rfl, hle rfl (by first | rfl | simp only [List.length_set, sortI_len, sortS_len]), rfl, rfl, rfl, rfl, trivial⟩) ⟨(v53, v11, v8), rfl⟩
 ·refine AW.rgs rfl fun K hK => ?_
  refine bv rfl (v_loadP ty39 rfl rfl (l_lit rfl rfl)) ?_
  refine bv rfl (v_lenA rfl rfl ty39 rfl rfl) ?_
  refine bv rfl (v_fieldAddrP fo24_1 rfl rfl) ?_
  refine b_op rfl (o_store (cs := [HV.int .i64 (((a54.2).length : Nat) : Int)]) (zs := [HV.int .i64 p0.1, HV.int .i64 (((a54.2).length : Nat) : Int), HV.ar 20002036 w55.1 eFromLabelTo.k 0 ((a54.1).length)]) rfl rfl rfl ty3 rfl rfl rfl rfl rfl ?_)
  refine b_fin hK (s' := ⟨[(4, HV.ptr 41004 v1 0), (8, HV.ptr 41008 v9 0), (9, HV.ptr 41009 v10 0)], [(41004, v1, .arr 3 24 [HV.int .i64 0, HV.int .i64 0, HV.v (.slice none 0 0)]), (41008, v9, .arr 1 39 [HV.ar 41017 w55.2 (eSl eInt).k 0 ((a54.2).length)]), (41009, v10, .arr 3 24 [HV.int .i64 p0.1, HV.int .i64 (((a54.2).length : Nat) : Int), HV.ar 20002036 w55.1 eFromLabelTo.k 0 ((a54.1).length)]), (20002036, w55.1, .arr eFromLabelTo.k 49 (eFromLabelTo.E a54.1)), (41017, w55.2, .arr (eSl eInt).k 30 ((eSl eInt).E a54.2))]⟩) (le_q rfl rfl) ?_
  clear hK K
  refine AW.dls follows fun K hK F hF => ?_
  refine l_go (L' := []) hF rfl (s' := ⟨[(4, HV.ptr 41004 v1 0), (8, HV.ptr 41008 v9 0), (9, HV.ptr 41009 v10 0)], [(41004, v1, .arr 3 24 [HV.int .i64 0, HV.int .i64 0, HV.v (.slice none 0 0)]), (41008, v9, .arr 1 39 [HV.ar 41017 w55.2 (eSl eInt).k 0 ((a54.2).length)]), (41009, v10, .arr 3 24 [HV.int .i64 p0.1, HV.int .i64 (((a54.2).length : Nat) : Int), HV.ar 20002036 w55.1 eFromLabelTo.k 0 ((a54.1).length)]), (20002036, w55.1, .arr eFromLabelTo.k 49 (eFromLabelTo.E a54.1)), (41017, w55.2, .arr (eSl eInt).k 30 ((eSl eInt).E a54.2))]⟩) ?_ (le_q rfl rfl)
  have g56_6 : F [0, 1, 2, 3, 4] ⟨[(4, HV.ptr 41004 v1 0), (5, HV.ar 41017 w55.2 (eSl eInt).k 0 ((a54.2).length)), (6, HV.int .i64 0)], [(41004, v1, .arr 3 24 [HV.int .i64 p0.1, HV.int .i64 (((a54.2).length : Nat) : Int), HV.ar 20002036 w55.1 eFromLabelTo.k 0 ((a54.1).length)]), (41008, v9, .arr 1 39 [HV.ar 41017 w55.2 (eSl eInt).k 0 ((a54.2).length)]), (41009, v10, .arr 3 24 [HV.int .i64 p0.1, HV.int .i64 (((a54.2).length : Nat) : Int), HV.ar 20002036 w55.1 eFromLabelTo.k 0 ((a54.1).length)]), (20002036, w55.1, .arr eFromLabelTo.k 49 (eFromLabelTo.E a54.1)), (41017, w55.2, .arr (eSl eInt).k 30 ((eSl eInt).E a54.2))]⟩ := by
   refine l_done hF rfl rfl (hK _ (AW.to (to_le (s' := ⟨[(4, HV.ptr 41004 v1 0), (5, HV.ar 41017 w55.2 (eSl eInt).k 0 ((a54.2).length)), (6, HV.int .i64 0)], [(41004, v1, .arr 3 24 [HV.int .i64 p0.1, HV.int .i64 (((a54.2).length : Nat) : Int), HV.ar 20002036 w55.1 eFromLabelTo.k 0 ((a54.1).length)]), (20002036, w55.1, .arr eFromLabelTo.k 49 (eFromLabelTo.E a54.1)), (41017, w55.2, .arr (eSl eInt).k 30 ((eSl eInt).E a54.2))]⟩) (le_q rfl rfl) ?_)))
   first | clear hF F hK K | clear hK K
   refine AW.to (to_frz 2 [(41017, w55.2, .arr (eSl eInt).k 30 ((eSl eInt).E a54.2))] ⟨[(4, HV.ptr 41004 v1 0), (5, slE (eSl eInt) a54.2), (6, HV.int .i64 0)], [(41004, v1, .arr 3 24 [HV.int .i64 p0.1, HV.int .i64 (((a54.2).length : Nat) : Int), HV.ar 20002036 w55.1 eFromLabelTo.k 0 ((a54.1).length)]), (20002036, w55.1, .arr eFromLabelTo.k 49 (eFromLabelTo.E a54.1))]⟩ ⟨⟨_, rfl, rfl⟩, ⟨_, rfl, frz_slE (eSl eInt) (l := a54.2) rfl fun _ _ => rfl⟩, ⟨_, rfl, rfl⟩, trivial⟩ ⟨rfl, rfl, trivial⟩ ⟨rfl, trivial⟩ ⟨rfl, trivial⟩ ?_)
   refine AW.to (to_fill 2 [(20002036, w55.1, .arr eFromLabelTo.k 49 (eFromLabelTo.E a54.1))] ⟨[(4, HV.ptr 41004 v1 0), (5, slE (eSl eInt) a54.2), (6, HV.int .i64 0)], [(41004, v1, .arr 3 24 [HV.int .i64 p0.1, HV.int .i64 (((a54.2).length : Nat) : Int), slE eFromLabelTo a54.1])]⟩ ⟨⟨_, rfl, rfl⟩, ⟨_, rfl, rfl⟩, ⟨_, rfl, rfl⟩, trivial⟩ ⟨.inr ⟨_, _, _, rfl, congrArg (AObj.arr 3 24) (congrArg (fun z : HV => [HV.int .i64 p0.1, HV.int .i64 (((a54.2).length : Nat) : Int), z]) (frz_slE eFromLabelTo (D := [(20002036, w55.1, .arr eFromLabelTo.k 49 (eFromLabelTo.E a54.1))]) (l := a54.1) rfl fun _ _ => rfl).symm)⟩, trivial⟩ ⟨rfl, trivial⟩ ⟨rfl, trivial⟩ ?_)
   refine AW.ret ?_
   have h := Option.some.inj h
   subst h
   exact ret_pure (hs := [HV.agg [HV.int .i64 p0.1, HV.int .i64 (((a54.2).length : Nat) : Int), slE eFromLabelTo a54.1], slE (eSl eInt) a54.2, HV.int .i64 0]) (q := HV.tup [HV.agg [HV.int .i64 p0.1, HV.int .i64 (((a54.2).length : Nat) : Int), slE eFromLabelTo a54.1], slE (eSl eInt) a54.2, HV.int .i64 0]) (.inr rfl) (resP ty24 rfl rfl (l_litA rfl (Nat.le_of_ble_eq_true rfl) rfl) (resT rfl (resT rfl rfl))) rfl ⟨⟨trivial, trivial, (clean_slE fun _ _ => ⟨trivial, trivial, trivial, trivial⟩), trivial⟩, (clean_slE fun _ _ => ⟨(clean_slE fun _ _ => ⟨trivial, trivial⟩), trivial⟩), trivial, trivial⟩
  have g56_5 : F [0, 1, 2, 3] ⟨[(4, HV.ptr 41004 v1 0), (5, HV.ar 41017 w55.2 (eSl eInt).k 0 ((a54.2).length))], [(41004, v1, .arr 3 24 [HV.int .i64 p0.1, HV.int .i64 (((a54.2).length : Nat) : Int), HV.ar 20002036 w55.1 eFromLabelTo.k 0 ((a54.1).length)]), (41008, v9, .arr 1 39 [HV.ar 41017 w55.2 (eSl eInt).k 0 ((a54.2).length)]), (41009, v10, .arr 3 24 [HV.int .i64 p0.1, HV.int .i64 (((a54.2).length : Nat) : Int), HV.ar 20002036 w55.1 eFromLabelTo.k 0 ((a54.1).length)]), (20002036, w55.1, .arr eFromLabelTo.k 49 (eFromLabelTo.E a54.1)), (41017, w55.2, .arr (eSl eInt).k 30 ((eSl eInt).E a54.2))]⟩ := by
   refine l_step hF rfl [4] rfl rfl ⟨?_, trivial⟩
   ·refine l_op rfl rfl rfl (o_val rfl (mv_val rfl rfl).2 ?_)
    exact b_nil (l_go hF rfl (g56_6) (le_q rfl rfl))
  have g56_4 : F [0, 1, 2] ⟨[(4, HV.ptr 41004 v1 0), (49, HV.ar 41017 w55.2 (eSl eInt).k 0 ((a54.2).length))], [(41004, v1, .arr 3 24 [HV.int .i64 p0.1, HV.int .i64 (((a54.2).length : Nat) : Int), HV.ar 20002036 w55.1 eFromLabelTo.k 0 ((a54.1).length)]), (41008, v9, .arr 1 39 [HV.ar 41017 w55.2 (eSl eInt).k 0 ((a54.2).length)]), (41009, v10, .arr 3 24 [HV.int .i64 p0.1, HV.int .i64 (((a54.2).length : Nat) : Int), HV.ar 20002036 w55.1 eFromLabelTo.k 0 ((a54.1).length)]), (20002036, w55.1, .arr eFromLabelTo.k 49 (eFromLabelTo.E a54.1)), (41017, w55.2, .arr (eSl eInt).k 30 ((eSl eInt).E a54.2))]⟩ := by
   refine l_step hF rfl [3] rfl rfl ⟨?_, trivial⟩
   ·refine l_op rfl rfl rfl (o_val rfl (mv_val rfl rfl).2 ?_)
    exact b_nil (l_go hF rfl (g56_5) (le_q rfl rfl))
  have g56_3 : F [0, 1] ⟨[(4, HV.ptr 41004 v1 0), (48, HV.agg [HV.int .i64 p0.1, HV.int .i64 (((a54.2).length : Nat) : Int), HV.ar 20002036 w55.1 eFromLabelTo.k 0 ((a54.1).length)]), (49, HV.ar 41017 w55.2 (eSl eInt).k 0 ((a54.2).length))], [(41004, v1, .arr 3 24 [HV.int .i64 0, HV.int .i64 0, HV.v (.slice none 0 0)]), (41008, v9, .arr 1 39 [HV.ar 41017 w55.2 (eSl eInt).k 0 ((a54.2).length)]), (41009, v10, .arr 3 24 [HV.int .i64 p0.1, HV.int .i64 (((a54.2).length : Nat) : Int), HV.ar 20002036 w55.1 eFromLabelTo.k 0 ((a54.1).length)]), (20002036, w55.1, .arr eFromLabelTo.k 49 (eFromLabelTo.E a54.1)), (41017, w55.2, .arr (eSl eInt).k 30 ((eSl eInt).E a54.2))]⟩ := by
   refine l_step hF rfl [2] rfl rfl ⟨?_, trivial⟩
   ·refine l_op rfl rfl rfl (o_store (cs := [HV.int .i64 p0.1, HV.int .i64 (((a54.2).length : Nat) : Int), HV.ar 20002036 w55.1 eFromLabelTo.k 0 ((a54.1).length)]) (zs := [HV.int .i64 p0.1, HV.int .i64 (((a54.2).length : Nat) : Int), HV.ar 20002036 w55.1 eFromLabelTo.k 0 ((a54.1).length)]) rfl rfl rfl ty24 rfl rfl rfl rfl rfl ?_)
    exact b_nil (l_go hF rfl (g56_4) (le_q rfl rfl))
  have g56_7 : F [0, 2] ⟨[(4, HV.ptr 41004 v1 0), (8, HV.ptr 41008 v9 0)], [(41004, v1, .arr 3 24 [HV.int .i64 p0.1, HV.int .i64 (((a54.2).length : Nat) : Int), HV.ar 20002036 w55.1 eFromLabelTo.k 0 ((a54.1).length)]), (41008, v9, .arr 1 39 [HV.ar 41017 w55.2 (eSl eInt).k 0 ((a54.2).length)]), (41009, v10, .arr 3 24 [HV.int .i64 p0.1, HV.int .i64 (((a54.2).length : Nat) : Int), HV.ar 20002036 w55.1 eFromLabelTo.k 0 ((a54.1).length)]), (20002036, w55.1, .arr eFromLabelTo.k 49 (eFromLabelTo.E a54.1)), (41017, w55.2, .arr (eSl eInt).k 30 ((eSl eInt).E a54.2))]⟩ := by
   refine l_step hF rfl [1] rfl rfl ⟨?_, trivial⟩
   ·refine l_op rfl rfl rfl (o_val rfl (v_loadP ty39 rfl rfl (l_lit rfl rfl)) ?_)
    exact b_nil (l_go hF rfl (g56_4) (le_q rfl rfl))
  have g56_1 : F [0] ⟨[(4, HV.ptr 41004 v1 0), (8, HV.ptr 41008 v9 0), (48, HV.agg [HV.int .i64 p0.1, HV.int .i64 (((a54.2).length : Nat) : Int), HV.ar 20002036 w55.1 eFromLabelTo.k 0 ((a54.1).length)])], [(41004, v1, .arr 3 24 [HV.int .i64 0, HV.int .i64 0, HV.v (.slice none 0 0)]), (41008, v9, .arr 1 39 [HV.ar 41017 w55.2 (eSl eInt).k 0 ((a54.2).length)]), (41009, v10, .arr 3 24 [HV.int .i64 p0.1, HV.int .i64 (((a54.2).length : Nat) : Int), HV.ar 20002036 w55.1 eFromLabelTo.k 0 ((a54.1).length)]), (20002036, w55.1, .arr eFromLabelTo.k 49 (eFromLabelTo.E a54.1)), (41017, w55.2, .arr (eSl eInt).k 30 ((eSl eInt).E a54.2))]⟩ := by
   refine l_step hF rfl [1, 2] rfl rfl ⟨?_, ?_, trivial⟩
   ·refine l_op rfl rfl rfl (o_val rfl (v_loadP ty39 rfl rfl (l_lit rfl rfl)) ?_)
    exact b_nil (l_go hF rfl (g56_3) (le_q rfl rfl))
   ·refine l_op rfl rfl rfl (o_store (cs := [HV.int .i64 p0.1, HV.int .i64 (((a54.2).length : Nat) : Int), HV.ar 20002036 w55.1 eFromLabelTo.k 0 ((a54.1).length)]) (zs := [HV.int .i64 p0.1, HV.int .i64 (((a54.2).length : Nat) : Int), HV.ar 20002036 w55.1 eFromLabelTo.k 0 ((a54.1).length)]) rfl rfl rfl ty24 rfl rfl rfl rfl rfl ?_)
    exact b_nil (l_go hF rfl (g56_7) (le_q rfl rfl))
  have g56_2 : F [1] ⟨[(4, HV.ptr 41004 v1 0), (9, HV.ptr 41009 v10 0), (49, HV.ar 41017 w55.2 (eSl eInt).k 0 ((a54.2).length))], [(41004, v1, .arr 3 24 [HV.int .i64 0, HV.int .i64 0, HV.v (.slice none 0 0)]), (41008, v9, .arr 1 39 [HV.ar 41017 w55.2 (eSl eInt).k 0 ((a54.2).length)]), (41009, v10, .arr 3 24 [HV.int .i64 p0.1, HV.int .i64 (((a54.2).length : Nat) : Int), HV.ar 20002036 w55.1 eFromLabelTo.k 0 ((a54.1).length)]), (20002036, w55.1, .arr eFromLabelTo.k 49 (eFromLabelTo.E a54.1)), (41017, w55.2, .arr (eSl eInt).k 30 ((eSl eInt).E a54.2))]⟩ := by
   refine l_step hF rfl [0] rfl rfl ⟨?_, trivial⟩
   ·refine l_op rfl rfl rfl (o_val rfl (v_loadP ty24 rfl rfl (l_litA rfl (Nat.le_of_ble_eq_true rfl) rfl)) ?_)
    exact b_nil (l_go hF rfl (g56_3) (le_q rfl rfl))
  have g56_0 : F [] ⟨[(4, HV.ptr 41004 v1 0), (8, HV.ptr 41008 v9 0), (9, HV.ptr 41009 v10 0)], [(41004, v1, .arr 3 24 [HV.int .i64 0, HV.int .i64 0, HV.v (.slice none 0 0)]), (41008, v9, .arr 1 39 [HV.ar 41017 w55.2 (eSl eInt).k 0 ((a54.2).length)]), (41009, v10, .arr 3 24 [HV.int .i64 p0.1, HV.int .i64 (((a54.2).length : Nat) : Int), HV.ar 20002036 w55.1 eFromLabelTo.k 0 ((a54.1).length)]), (20002036, w55.1, .arr eFromLabelTo.k 49 (eFromLabelTo.E a54.1)), (41017, w55.2, .arr (eSl eInt).k 30 ((eSl eInt).E a54.2))]⟩ := by
   refine l_step hF rfl [0, 1] rfl rfl ⟨?_, ?_, trivial⟩
   ·refine l_op rfl rfl rfl (o_val rfl (v_loadP ty24 rfl rfl (l_litA rfl (Nat.le_of_ble_eq_true rfl) rfl)) ?_)
    exact b_nil (l_go hF rfl (g56_1) (le_q rfl rfl))
   ·refine l_op rfl rfl rfl (o_val rfl (v_loadP ty39 rfl rfl (l_lit rfl rfl)) ?_)
    exact b_nil (l_go hF rfl (g56_2) (le_q rfl rfl))
  exact g56_0
 refine AW.seq ?_
 refine AW.rgs rfl fun K hK => ?_
 refine bv rfl (v_loadP ty3 rfl rfl (l_lit rfl rfl)) ?_
 refine bv rfl (v_loadP ty39 rfl rfl (l_lit rfl rfl)) ?_
 refine bv rfl (v_lenA rfl rfl ty39 rfl rfl) ?_
 refine bv rfl (v_bin rfl rfl b_lss) ?_
 refine b_fin hK (s' := ⟨[(2, HV.fptr [HV.int .i64 p0.1, HV.int .i64 p0.2.1, slE eFromLabelTo p0.2.2] 0), (4, HV.ptr 41004 v1 0), (7, HV.ptr 41007 v5 0), (8, HV.ptr 41008 v9 0), (9, HV.ptr 41009 v10 0), (10, HV.ptr 41010 w13.2.1 0), (24, HV.bool (decide (a12.2.1 < (((a12.2.2.2).length : Nat) : Int))))], [(41004, v1, .arr 3 24 [HV.int .i64 0, HV.int .i64 0, HV.v (.slice none 0 0)]), (41007, v5, .arr 1 88 [HV.mp 41011 v2]), (41008, v9, .arr 1 39 [HV.ar 41017 w13.2.2 (eSl eInt).k 0 ((a12.2.2.2).length)]), (41009, v10, .arr 3 24 [HV.int .i64 p0.1, HV.int .i64 0, HV.ar 20002036 w13.1 eFromLabelTo.k 0 ((a12.1).length)]), (20002036, w13.1, .arr eFromLabelTo.k 49 (eFromLabelTo.E a12.1)), (41010, w13.2.1, .arr 1 3 [HV.int .i64 a12.2.1]), (41011, v2, .map (entE (HV.int .i64) a12.2.2.1)), (41017, w13.2.2, .arr (eSl eInt).k 30 ((eSl eInt).E a12.2.2.2))]⟩) (le_q rfl rfl) ?_
 clear hK K
 refine AW.cond rfl (fun hc => ?_) (fun hc => ?_)
 ·have hc := of_decide_eq_true hc
  have h := ifT hc h
  refine AW.skip ?_
  refine AW.seq (AW.block ?_)
  refine AW.dgs 6 follows rfl rfl fun K hK => ?_
  refine sv rfl (v_loadF ty24 rfl (l_litA rfl (Nat.le_of_ble_eq_true rfl) rfl)) ?_
  refine sv rfl (v_loadP ty39 rfl rfl (l_lit rfl rfl)) ?_
  refine sv rfl (v_loadP ty3 rfl rfl (l_lit rfl rfl)) ?_
  obtain ⟨x16, h17, h⟩ := bS h
  refine sv rfl (v_idxA ty39 es39 rfl rfl (idx_lt h17) rfl) ?_
  obtain ⟨x18, h19, h⟩ := bS h
  refine sv rfl (v_loadP ty30 rfl rfl (l_cell (eSl eInt) h19 (o := 0) rfl rfl)) ?_
  refine sv rfl (v_func rfl rfl) ?_
  refine s_nil ?_
  refine b_op rfl (o_callJ h (S := (List TFromLabelTo) × (List (List UInt8 × Int)) × (List (List (Int)))) (V := Nat × Nat) (fun a v => ⟨[(2, HV.fptr [HV.int .i64 p0.1, HV.int .i64 p0.2.1, slE eFromLabelTo p0.2.2] 0), (4, HV.ptr 41004 v1 0), (7, HV.ptr 41007 v5 0), (8, HV.ptr 41008 v9 0), (9, HV.ptr 41009 v10 0), (10, HV.ptr 41010 w13.2.1 0), (33, HV.tup [])], [(41004, v1, .arr 3 24 [HV.int .i64 0, HV.int .i64 0, HV.v (.slice none 0 0)]), (41007, v5, .arr 1 88 [HV.mp 41011 v2]), (41008, v9, .arr 1 39 [HV.ar 41017 v.2 (eSl eInt).k 0 ((a.2.2).length)]), (41009, v10, .arr 3 24 [HV.int .i64 p0.1, HV.int .i64 0, HV.ar 20002036 v.1 eFromLabelTo.k 0 ((a.1).length)]), (20002036, v.1, .arr eFromLabelTo.k 49 (eFromLabelTo.E a.1)), (41010, w13.2.1, .arr 1 3 [HV.int .i64 a12.2.1]), (41011, v2, .map (entE (HV.int .i64) a.2.1)), (41017, v.2, .arr (eSl eInt).k 30 ((eSl eInt).E a.2.2))]⟩) rfl rfl rfl rfl (fun a20 w21 h => ?_) (fun k22 h => ?_) )
  ·refine b_fin hK (s' := ⟨[(2, HV.fptr [HV.int .i64 p0.1, HV.int .i64 p0.2.1, slE eFromLabelTo p0.2.2] 0), (4, HV.ptr 41004 v1 0), (7, HV.ptr 41007 v5 0), (8, HV.ptr 41008 v9 0), (9, HV.ptr 41009 v10 0), (10, HV.ptr 41010 w13.2.1 0)], [(41004, v1, .arr 3 24 [HV.int .i64 0, HV.int .i64 0, HV.v (.slice none 0 0)]), (41007, v5, .arr 1 88 [HV.mp 41011 v2]), (41008, v9, .arr 1 39 [HV.ar 41017 w21.2 (eSl eInt).k 0 ((a20.2.2).length)]), (41009, v10, .arr 3 24 [HV.int .i64 p0.1, HV.int .i64 0, HV.ar 20002036 w21.1 eFromLabelTo.k 0 ((a20.1).length)]), (20002036, w21.1, .arr eFromLabelTo.k 49 (eFromLabelTo.E a20.1)), (41010, w13.2.1, .arr 1 3 [HV.int .i64 a12.2.1]), (41011, v2, .map (entE (HV.int .i64) a20.2.1)), (41017, w21.2, .arr (eSl eInt).k 30 ((eSl eInt).E a20.2.2))]⟩) (le_q rfl rfl) ?_
   clear hK K
   refine AW.seqJ h (S := Bool) (V := Unit) (fun a v => ⟨[(2, HV.fptr [HV.int .i64 p0.1, HV.int .i64 p0.2.1, slE eFromLabelTo p0.2.2] 0), (4, HV.ptr 41004 v1 0), (7, HV.ptr 41007 v5 0), (8, HV.ptr 41008 v9 0), (9, HV.ptr 41009 v10 0), (10, HV.ptr 41010 w13.2.1 0), (42, HV.bool a)], [(41004, v1, .arr 3 24 [HV.int .i64 0, HV.int .i64 0, HV.v (.slice none 0 0)]), (41007, v5, .arr 1 88 [HV.mp 41011 v2]), (41008, v9, .arr 1 39 [HV.ar 41017 w21.2 (eSl eInt).k 0 ((a20.2.2).length)]), (41009, v10, .arr 3 24 [HV.int .i64 p0.1, HV.int .i64 0, HV.ar 20002036 w21.1 eFromLabelTo.k 0 ((a20.1).length)]), (20002036, w21.1, .arr eFromLabelTo.k 49 (eFromLabelTo.E a20.1)), (41010, w13.2.1, .arr 1 3 [HV.int .i64 a12.2.1]), (41011, v2, .map (entE (HV.int .i64) a20.2.1)), (41017, w21.2, .arr (eSl eInt).k 30 ((eSl eInt).E a20.2.2))]⟩) (fun a23 w24 h => ?_) (fun k25 h => ?_)
   ·refine AW.cond rfl (fun hc => ?_) (fun hc => ?_)
    ·have h := ifT hc h
     refine AW.rgs rfl fun K hK => ?_
     refine b_op rfl (o_build (cs := [HV.int .i64 0, HV.int .i64 0, HV.v (.slice none 0 0)]) rfl (bl_of ty24 rfl rfl rfl rfl) ?_)
     refine b_op rfl (o_store (cs := [HV.int .i64 0, HV.int .i64 0, HV.v (.slice none 0 0)]) (zs := [HV.int .i64 0, HV.int .i64 0, HV.v (.slice none 0 0)]) rfl rfl rfl ty24 rfl rfl rfl rfl rfl ?_)
     refine mv rfl rfl ?_
     refine mv rfl rfl ?_
     refine b_fin hK (s' := ⟨[(4, HV.ptr 41004 v1 0), (5, HV.v (.slice none 0 0)), (6, HV.int .i64 4)], [(41004, v1, .arr 3 24 [HV.int .i64 0, HV.int .i64 0, HV.v (.slice none 0 0)])]⟩) (le_q rfl rfl) ?_
     clear hK K
     have h := hr15 _ h
     refine AW.to (to_weak ⟨[(4, HV.ptr 41004 v1 0), (5, slE (eSl eInt) ([] : List (List (Int)))), (6, HV.int .i64 4)], [(41004, v1, .arr 3 24 [HV.int .i64 0, HV.int .i64 0, HV.v (.slice none 0 0)])]⟩ ⟨⟨_, rfl, .refl _⟩, ⟨_, rfl, .nil _⟩, ⟨_, rfl, .refl _⟩, trivial⟩ ⟨rfl, trivial⟩ ?_)
     refine AW.to (to_cells 41004 v1 (ds := [HV.int .i64 0, HV.int .i64 0, slE eFromLabelTo ([] : List TFromLabelTo)]) rfl (.cons (.refl _) <| .cons (.refl _) <| .cons (.nil _) <| .nil) ?_)
     refine AW.ret ?_
     have h := Option.some.inj h
     subst h
     exact ret_pure (hs := [HV.agg [HV.int .i64 0, HV.int .i64 0, slE eFromLabelTo ([] : List TFromLabelTo)], slE (eSl eInt) ([] : List (List (Int))), HV.int .i64 4]) (q := HV.tup [HV.agg [HV.int .i64 0, HV.int .i64 0, slE eFromLabelTo ([] : List TFromLabelTo)], slE (eSl eInt) ([] : List (List (Int))), HV.int .i64 4]) (.inr rfl) (resP ty24 rfl rfl (l_litA rfl (Nat.le_of_ble_eq_true rfl) rfl) (resT rfl (resT rfl rfl))) rfl ⟨⟨trivial, trivial, (clean_slE fun _ _ => ⟨trivial, trivial, trivial, trivial⟩), trivial⟩, (clean_slE fun _ _ => ⟨(clean_slE fun _ _ => ⟨trivial, trivial⟩), trivial⟩), trivial, trivial⟩
    have h := ifF (bF' hc) h
    refine AW.skip ?_
    refine AW.seq ?_
    refine AW.rgs rfl fun K hK => ?_
    refine bv rfl (v_loadP ty3 rfl rfl (l_lit rfl rfl)) ?_
    refine b_fin hK (s' := ⟨[(2, HV.fptr [HV.int .i64 p0.1, HV.int .i64 p0.2.1, slE eFromLabelTo p0.2.2] 0), (4, HV.ptr 41004 v1 0), (7, HV.ptr 41007 v5 0), (8, HV.ptr 41008 v9 0), (9, HV.ptr 41009 v10 0), (44, HV.int .i64 a12.2.1)], [(41004, v1, .arr 3 24 [HV.int .i64 0, HV.int .i64 0, HV.v (.slice none 0 0)]), (41007, v5, .arr 1 88 [HV.mp 41011 v2]), (41008, v9, .arr 1 39 [HV.ar 41017 w21.2 (eSl eInt).k 0 ((a20.2.2).length)]), (41009, v10, .arr 3 24 [HV.int .i64 p0.1, HV.int .i64 0, HV.ar 20002036 w21.1 eFromLabelTo.k 0 ((a20.1).length)]), (20002036, w21.1, .arr eFromLabelTo.k 49 (eFromLabelTo.E a20.1)), (41011, v2, .map (entE (HV.int .i64) a20.2.1)), (41017, w21.2, .arr (eSl eInt).k 30 ((eSl eInt).E a20.2.2))]⟩) (le_q rfl rfl) ?_
    clear hK K
    refine AW.rg rfl fun K hK => ?_
    refine b_op rfl (o_alloc (fid := 41) (zs := [HV.int .i64 0]) 41010 rfl rfl ty3 rfl (fun v26 => ?_))
    refine b_op rfl (o_store (cs := [HV.int .i64 a12.2.1]) (zs := [HV.int .i64 a12.2.1]) rfl rfl rfl ty3 rfl rfl rfl rfl rfl ?_)
    refine b_fin hK (s' := ⟨[(2, HV.fptr [HV.int .i64 p0.1, HV.int .i64 p0.2.1, slE eFromLabelTo p0.2.2] 0), (4, HV.ptr 41004 v1 0), (7, HV.ptr 41007 v5 0), (8, HV.ptr 41008 v9 0), (9, HV.ptr 41009 v10 0), (10, HV.ptr 41010 v26 0)], [(41004, v1, .arr 3 24 [HV.int .i64 0, HV.int .i64 0, HV.v (.slice none 0 0)]), (41007, v5, .arr 1 88 [HV.mp 41011 v2]), (41008, v9, .arr 1 39 [HV.ar 41017 w21.2 (eSl eInt).k 0 ((a20.2.2).length)]), (41009, v10, .arr 3 24 [HV.int .i64 p0.1, HV.int .i64 0, HV.ar 20002036 w21.1 eFromLabelTo.k 0 ((a20.1).length)]), (20002036, w21.1, .arr eFromLabelTo.k 49 (eFromLabelTo.E a20.1)), (41011, v2, .map (entE (HV.int .i64) a20.2.1)), (41017, w21.2, .arr (eSl eInt).k 30 ((eSl eInt).E a20.2.2)), (41010, v26, .arr 1 3 [HV.int .i64 a12.2.1])]⟩) (le_q rfl rfl) ?_
    clear hK K
    refine AW.rg rfl fun K hK => ?_
    refine bv rfl (v_loadP ty3 rfl rfl (l_lit rfl rfl)) ?_
    refine bv rfl (v_bin rfl rfl b_add) ?_
    refine b_op rfl (o_store (cs := [HV.int .i64 (IntKind.wrap .i64 (a12.2.1 + 1))]) (zs := [HV.int .i64 (IntKind.wrap .i64 (a12.2.1 + 1))]) rfl rfl rfl ty3 rfl rfl rfl rfl rfl ?_)
    refine b_nil (hK _ ?_)
    clear hK K
    exact to_le (s' := ⟨[(2, HV.fptr [HV.int .i64 p0.1, HV.int .i64 p0.2.1, slE eFromLabelTo p0.2.2] 0), (4, HV.ptr 41004 v1 0), (7, HV.ptr 41007 v5 0), (8, HV.ptr 41008 v9 0), (9, HV.ptr 41009 v10 0), (10, HV.ptr 41010 v26 0)], [(41004, v1, .arr 3 24 [HV.int .i64 0, HV.int .i64 0, HV.v (.slice none 0 0)]), (41007, v5, .arr 1 88 [HV.mp 41011 v2]), (41008, v9, .arr 1 39 [HV.ar 41017 w21.2 (eSl eInt).k 0 ((a20.2.2).length)]), (41009, v10, .arr 3 24 [HV.int .i64 p0.1, HV.int .i64 0, HV.ar 20002036 w21.1 eFromLabelTo.k 0 ((a20.1).length)]), (20002036, w21.1, .arr eFromLabelTo.k 49 (eFromLabelTo.E a20.1)), (41010, v26, .arr 1 3 [HV.int .i64 (IntKind.wrap .i64 (a12.2.1 + 1))]), (41011, v2, .map (entE (HV.int .i64) a20.2.1)), (41017, w21.2, .arr (eSl eInt).k 30 ((eSl eInt).E a20.2.2))]⟩) (AS.le_of ⟨rfl, rfl, rfl, rfl, rfl, rfl, trivial⟩ ⟨rfl, rfl, rfl, rfl, rfl, rfl, rfl, rfl, trivial⟩) ⟨(a20.1, IntKind.wrap .i64 (a12.2.1 + 1), a20.2.1, a20.2.2), (w21.1, v26, w21.2), h, rfl⟩
   refine AW.rg rfl fun K hK => ?_
   refine bv rfl (v_loadP ty39 rfl rfl (l_lit rfl rfl)) ?_
   refine bv rfl (v_lenA rfl rfl ty39 rfl rfl) ?_
   refine bv rfl (v_bin rfl rfl b_gtr) ?_
   refine mv rfl rfl ?_
   by_cases hg27 : 64 < (((a20.2.2).length : Nat) : Int)
   ·have h := ifT hg27 h
    refine b_F rfl rfl rfl rfl rfl (decide_eq_true hg27) ?_
    refine b_F rfl rfl rfl rfl rfl rfl ?_
    refine b_F rfl rfl rfl rfl rfl rfl ?_
    refine b_F rfl rfl rfl rfl rfl rfl ?_
    refine bv rfl (v_pickT rfl rfl rfl) ?_
    refine b_nil (hK _ ?_)
    clear hK K
    exact to_le (s' := ⟨[(2, HV.fptr [HV.int .i64 p0.1, HV.int .i64 p0.2.1, slE eFromLabelTo p0.2.2] 0), (4, HV.ptr 41004 v1 0), (7, HV.ptr 41007 v5 0), (8, HV.ptr 41008 v9 0), (9, HV.ptr 41009 v10 0), (10, HV.ptr 41010 w13.2.1 0), (42, HV.bool true)], [(41004, v1, .arr 3 24 [HV.int .i64 0, HV.int .i64 0, HV.v (.slice none 0 0)]), (41007, v5, .arr 1 88 [HV.mp 41011 v2]), (41008, v9, .arr 1 39 [HV.ar 41017 w21.2 (eSl eInt).k 0 ((a20.2.2).length)]), (41009, v10, .arr 3 24 [HV.int .i64 p0.1, HV.int .i64 0, HV.ar 20002036 w21.1 eFromLabelTo.k 0 ((a20.1).length)]), (20002036, w21.1, .arr eFromLabelTo.k 49 (eFromLabelTo.E a20.1)), (41010, w13.2.1, .arr 1 3 [HV.int .i64 a12.2.1]), (41011, v2, .map (entE (HV.int .i64) a20.2.1)), (41017, w21.2, .arr (eSl eInt).k 30 ((eSl eInt).E a20.2.2))]⟩) (AS.le_of ⟨rfl, rfl, rfl, rfl, rfl, rfl, rfl, trivial⟩ ⟨rfl, rfl, rfl, rfl, rfl, rfl, rfl, rfl, trivial⟩) ⟨true, (), h, rfl⟩
   have h := ifF hg27 h
   refine b_T rfl rfl rfl rfl (decide_eq_false hg27) (o_val rfl (v_fieldAddrP fo24_2 rfl rfl) ?_)
   refine b_T rfl rfl rfl rfl rfl (o_val rfl (v_loadP ty22 rfl rfl (l_lit rfl rfl)) ?_)
   refine b_T rfl rfl rfl rfl rfl (o_val rfl (v_lenA rfl rfl ty22 rfl rfl) ?_)
   refine b_T rfl rfl rfl rfl rfl (o_val rfl (v_bin rfl rfl b_gtr) ?_)
   refine bv rfl (v_pickF rfl rfl rfl) ?_
   refine b_nil (hK _ ?_)
   clear hK K
   exact to_le (s' := ⟨[(2, HV.fptr [HV.int .i64 p0.1, HV.int .i64 p0.2.1, slE eFromLabelTo p0.2.2] 0), (4, HV.ptr 41004 v1 0), (7, HV.ptr 41007 v5 0), (8, HV.ptr 41008 v9 0), (9, HV.ptr 41009 v10 0), (10, HV.ptr 41010 w13.2.1 0), (42, HV.bool (decide (1024 < (((a20.1).length : Nat) : Int))))], [(41004, v1, .arr 3 24 [HV.int .i64 0, HV.int .i64 0, HV.v (.slice none 0 0)]), (41007, v5, .arr 1 88 [HV.mp 41011 v2]), (41008, v9, .arr 1 39 [HV.ar 41017 w21.2 (eSl eInt).k 0 ((a20.2.2).length)]), (41009, v10, .arr 3 24 [HV.int .i64 p0.1, HV.int .i64 0, HV.ar 20002036 w21.1 eFromLabelTo.k 0 ((a20.1).length)]), (20002036, w21.1, .arr eFromLabelTo.k 49 (eFromLabelTo.E a20.1)), (41010, w13.2.1, .arr 1 3 [HV.int .i64 a12.2.1]), (41011, v2, .map (entE (HV.int .i64) a20.2.1)), (41017, w21.2, .arr (eSl eInt).k 30 ((eSl eInt).E a20.2.2))]⟩) (AS.le_of ⟨rfl, rfl, rfl, rfl, rfl, rfl, rfl, trivial⟩ ⟨rfl, rfl, rfl, rfl, rfl, rfl, rfl, rfl, trivial⟩) ⟨decide (1024 < (((a20.1).length : Nat) : Int)), (), h, rfl⟩
  refine ACall.of_body Tryd.func58 rfl rfl (Nat.le_of_ble_eq_true rfl) ?_
  unfold Tryd.f58
  dsimp only [enumS, Nat.reduceAdd]
  refine AW.fin ?_
  refine AW.rgs rfl fun K hK => ?_
  refine b_op rfl (o_box rfl rfl rfl ?_)
  refine b_fin hK (s' := ⟨[(1, slE eInt x18), (2, HV.fn (.func 59) [] [HV.ptr 41007 v5 0, HV.ptr 41008 v9 0, HV.ptr 41009 v10 0, HV.ptr 41010 w13.2.1 0]), (3, HV.fptr [HV.int .i64 p0.1, HV.int .i64 p0.2.1, slE eFromLabelTo p0.2.2] 0)], [(41004, v1, .arr 3 24 [HV.int .i64 0, HV.int .i64 0, HV.v (.slice none 0 0)]), (41007, v5, .arr 1 88 [HV.mp 41011 v2]), (41008, v9, .arr 1 39 [HV.ar 41017 w13.2.2 (eSl eInt).k 0 ((a12.2.2.2).length)]), (41009, v10, .arr 3 24 [HV.int .i64 p0.1, HV.int .i64 0, HV.ar 20002036 w13.1 eFromLabelTo.k 0 ((a12.1).length)]), (20002036, w13.1, .arr eFromLabelTo.k 49 (eFromLabelTo.E a12.1)), (41010, w13.2.1, .arr 1 3 [HV.int .i64 a12.2.1]), (41011, v2, .map (entE (HV.int .i64) a12.2.2.1)), (41017, w13.2.2, .arr (eSl eInt).k 30 ((eSl eInt).E a12.2.2.2))]⟩) (le_q rfl rfl) ?_
  clear hK K
  refine AW.rgs rfl fun K hK => ?_
  refine bv rfl (v_fieldAddrF fo24_0 rfl) ?_
  refine bv rfl (v_loadF ty3 rfl (l_lit rfl rfl)) ?_
  refine mv rfl rfl ?_
  refine b_fin hK (s' := ⟨[(1, slE eInt x18), (2, HV.fn (.func 59) [] [HV.ptr 41007 v5 0, HV.ptr 41008 v9 0, HV.ptr 41009 v10 0, HV.ptr 41010 w13.2.1 0]), (3, HV.fptr [HV.int .i64 p0.1, HV.int .i64 p0.2.1, slE eFromLabelTo p0.2.2] 0), (10, HV.int .i64 p0.1), (11, HV.int .i64 0)], [(41004, v1, .arr 3 24 [HV.int .i64 0, HV.int .i64 0, HV.v (.slice none 0 0)]), (41007, v5, .arr 1 88 [HV.mp 41011 v2]), (41008, v9, .arr 1 39 [HV.ar 41017 w13.2.2 (eSl eInt).k 0 ((a12.2.2.2).length)]), (41009, v10, .arr 3 24 [HV.int .i64 p0.1, HV.int .i64 0, HV.ar 20002036 w13.1 eFromLabelTo.k 0 ((a12.1).length)]), (20002036, w13.1, .arr eFromLabelTo.k 49 (eFromLabelTo.E a12.1)), (41010, w13.2.1, .arr 1 3 [HV.int .i64 a12.2.1]), (41011, v2, .map (entE (HV.int .i64) a12.2.2.1)), (41017, w13.2.2, .arr (eSl eInt).k 30 ((eSl eInt).E a12.2.2.2))]⟩) (le_q rfl rfl) ?_
  clear hK K
  refine AW.lpX h (by first | exact up_then | exact up_to) (S := Int × (List TFromLabelTo) × (List (List UInt8 × Int)) × (List (List (Int)))) (V := Nat × Nat) (fun a v => ⟨[(1, slE eInt x18), (2, HV.fn (.func 59) [] [HV.ptr 41007 v5 0, HV.ptr 41008 v9 0, HV.ptr 41009 v10 0, HV.ptr 41010 w13.2.1 0]), (3, HV.fptr [HV.int .i64 p0.1, HV.int .i64 p0.2.1, slE eFromLabelTo p0.2.2] 0), (10, HV.int .i64 p0.1), (11, HV.int .i64 a.1)], [(20002036, v.1, .arr eFromLabelTo.k 49 (eFromLabelTo.E a.2.1)), (41004, v1, .arr 3 24 [HV.int .i64 0, HV.int .i64 0, HV.v (.slice none 0 0)]), (41007, v5, .arr 1 88 [HV.mp 41011 v2]), (41008, v9, .arr 1 39 [HV.ar 41017 v.2 (eSl eInt).k 0 ((a.2.2.2).length)]), (41009, v10, .arr 3 24 [HV.int .i64 p0.1, HV.int .i64 0, HV.ar 20002036 v.1 eFromLabelTo.k 0 ((a.2.1).length)]), (41010, w13.2.1, .arr 1 3 [HV.int .i64 a12.2.1]), (41011, v2, .map (entE (HV.int .i64) a.2.2.1)), (41017, v.2, .arr (eSl eInt).k 30 ((eSl eInt).E a.2.2.2))]⟩) ?_ (X := (List TFromLabelTo) × (List (List UInt8 × Int)) × (List (List (Int)))) (W := Nat × Nat) (fun a v => ⟨[], [(20002036, v.1, .arr eFromLabelTo.k 49 (eFromLabelTo.E a.1)), (41004, v1, .arr 3 24 [HV.int .i64 0, HV.int .i64 0, HV.v (.slice none 0 0)]), (41007, v5, .arr 1 88 [HV.mp 41011 v2]), (41008, v9, .arr 1 39 [HV.ar 41017 v.2 (eSl eInt).k 0 ((a.2.2).length)]), (41009, v10, .arr 3 24 [HV.int .i64 p0.1, HV.int .i64 0, HV.ar 20002036 v.1 eFromLabelTo.k 0 ((a.1).length)]), (41010, w13.2.1, .arr 1 3 [HV.int .i64 a12.2.1]), (41011, v2, .map (entE (HV.int .i64) a.2.1)), (41017, v.2, .arr (eSl eInt).k 30 ((eSl eInt).E a.2.2))]⟩) (fun a51 w52 h => ?_) (fun a28 w29 st30 h => ?_)
  ·exact to_le (s' := ⟨[(1, slE eInt x18), (2, HV.fn (.func 59) [] [HV.ptr 41007 v5 0, HV.ptr 41008 v9 0, HV.ptr 41009 v10 0, HV.ptr 41010 w13.2.1 0]), (3, HV.fptr [HV.int .i64 p0.1, HV.int .i64 p0.2.1, slE eFromLabelTo p0.2.2] 0), (10, HV.int .i64 p0.1), (11, HV.int .i64 0)], [(20002036, w13.1, .arr eFromLabelTo.k 49 (eFromLabelTo.E a12.1)), (41004, v1, .arr 3 24 [HV.int .i64 0, HV.int .i64 0, HV.v (.slice none 0 0)]), (41007, v5, .arr 1 88 [HV.mp 41011 v2]), (41008, v9, .arr 1 39 [HV.ar 41017 w13.2.2 (eSl eInt).k 0 ((a12.2.2.2).length)]), (41009, v10, .arr 3 24 [HV.int .i64 p0.1, HV.int .i64 0, HV.ar 20002036 w13.1 eFromLabelTo.k 0 ((a12.1).length)]), (41010, w13.2.1, .arr 1 3 [HV.int .i64 a12.2.1]), (41011, v2, .map (entE (HV.int .i64) a12.2.2.1)), (41017, w13.2.2, .arr (eSl eInt).k 30 ((eSl eInt).E a12.2.2.2))]⟩) (AS.le_of ⟨rfl, rfl, rfl, rfl, rfl, trivial⟩ ⟨rfl, rfl, rfl, rfl, rfl, rfl, rfl, rfl, trivial⟩) ⟨(w13.1, w13.2.2), rfl⟩
  ·refine to_refl ?_
   refine ret_to (hs := []) (q := HV.tup []) (.inl rfl) rfl rfl ?_
   exact to_le (s' := ⟨[(2, HV.fptr [HV.int .i64 p0.1, HV.int .i64 p0.2.1, slE eFromLabelTo p0.2.2] 0), (4, HV.ptr 41004 v1 0), (7, HV.ptr 41007 v5 0), (8, HV.ptr 41008 v9 0), (9, HV.ptr 41009 v10 0), (10, HV.ptr 41010 w13.2.1 0), (33, HV.tup [])], [(41004, v1, .arr 3 24 [HV.int .i64 0, HV.int .i64 0, HV.v (.slice none 0 0)]), (41007, v5, .arr 1 88 [HV.mp 41011 v2]), (41008, v9, .arr 1 39 [HV.ar 41017 w52.2 (eSl eInt).k 0 ((a51.2.2).length)]), (41009, v10, .arr 3 24 [HV.int .i64 p0.1, HV.int .i64 0, HV.ar 20002036 w52.1 eFromLabelTo.k 0 ((a51.1).length)]), (20002036, w52.1, .arr eFromLabelTo.k 49 (eFromLabelTo.E a51.1)), (41010, w13.2.1, .arr 1 3 [HV.int .i64 a12.2.1]), (41011, v2, .map (entE (HV.int .i64) a51.2.1)), (41017, w52.2, .arr (eSl eInt).k 30 ((eSl eInt).E a51.2.2))]⟩) (AS.le_of ⟨rfl, rfl, rfl, rfl, rfl, rfl, rfl, trivial⟩ ⟨rfl, rfl, rfl, rfl, rfl, rfl, rfl, rfl, trivial⟩) ⟨(a51.1, a51.2.1, a51.2.2), (w52.1, w52.2), h, rfl⟩
  refine AW.rgs rfl fun K hK => ?_
  refine bv rfl (v_bin rfl rfl b_lss) ?_
  refine b_fin hK (s' := ⟨[(1, slE eInt x18), (2, HV.fn (.func 59) [] [HV.ptr 41007 v5 0, HV.ptr 41008 v9 0, HV.ptr 41009 v10 0, HV.ptr 41010 w13.2.1 0]), (3, HV.fptr [HV.int .i64 p0.1, HV.int .i64 p0.2.1, slE eFromLabelTo p0.2.2] 0), (10, HV.int .i64 p0.1), (11, HV.int .i64 a28.1), (12, HV.bool (decide (a28.1 < p0.1)))], [(20002036, w29.1, .arr eFromLabelTo.k 49 (eFromLabelTo.E a28.2.1)), (41004, v1, .arr 3 24 [HV.int .i64 0, HV.int .i64 0, HV.v (.slice none 0 0)]), (41007, v5, .arr 1 88 [HV.mp 41011 v2]), (41008, v9, .arr 1 39 [HV.ar 41017 w29.2 (eSl eInt).k 0 ((a28.2.2.2).length)]), (41009, v10, .arr 3 24 [HV.int .i64 p0.1, HV.int .i64 0, HV.ar 20002036 w29.1 eFromLabelTo.k 0 ((a28.2.1).length)]), (41010, w13.2.1, .arr 1 3 [HV.int .i64 a12.2.1]), (41011, v2, .map (entE (HV.int .i64) a28.2.2.1)), (41017, w29.2, .arr (eSl eInt).k 30 ((eSl eInt).E a28.2.2.2))]⟩) (le_q rfl rfl) ?_
  clear hK K
  refine AW.cseq rfl (fun hc => ?_) (fun hc => ?_)
  ·have hc := of_decide_eq_true hc
   have h := ifT hc h
   refine AW.skip ?_
   refine AW.seqJ h (S := (List TFromLabelTo) × (List (List UInt8 × Int)) × (List (List (Int)))) (V := Nat × Nat) (fun a v => ⟨[(1, slE eInt x18), (2, HV.fn (.func 59) [] [HV.ptr 41007 v5 0, HV.ptr 41008 v9 0, HV.ptr 41009 v10 0, HV.ptr 41010 w13.2.1 0]), (3, HV.fptr [HV.int .i64 p0.1, HV.int .i64 p0.2.1, slE eFromLabelTo p0.2.2] 0), (10, HV.int .i64 p0.1), (11, HV.int .i64 a28.1)], [(20002036, v.1, .arr eFromLabelTo.k 49 (eFromLabelTo.E a.1)), (41004, v1, .arr 3 24 [HV.int .i64 0, HV.int .i64 0, HV.v (.slice none 0 0)]), (41007, v5, .arr 1 88 [HV.mp 41011 v2]), (41008, v9, .arr 1 39 [HV.ar 41017 v.2 (eSl eInt).k 0 ((a.2.2).length)]), (41009, v10, .arr 3 24 [HV.int .i64 p0.1, HV.int .i64 0, HV.ar 20002036 v.1 eFromLabelTo.k 0 ((a.1).length)]), (41010, w13.2.1, .arr 1 3 [HV.int .i64 a12.2.1]), (41011, v2, .map (entE (HV.int .i64) a.2.1)), (41017, v.2, .arr (eSl eInt).k 30 ((eSl eInt).E a.2.2))]⟩) (fun a32 w33 h => ?_) (fun k34 h => ?_)
   ·refine AW.rg rfl fun K hK => ?_
    refine bv rfl (v_bin rfl rfl b_add) ?_
    refine mv rfl rfl ?_
    refine b_nil (hK _ ?_)
    clear hK K
    exact to_le (s' := ⟨[(1, slE eInt x18), (2, HV.fn (.func 59) [] [HV.ptr 41007 v5 0, HV.ptr 41008 v9 0, HV.ptr 41009 v10 0, HV.ptr 41010 w13.2.1 0]), (3, HV.fptr [HV.int .i64 p0.1, HV.int .i64 p0.2.1, slE eFromLabelTo p0.2.2] 0), (10, HV.int .i64 p0.1), (11, HV.int .i64 (IntKind.wrap .i64 (a28.1 + 1)))], [(20002036, w33.1, .arr eFromLabelTo.k 49 (eFromLabelTo.E a32.1)), (41004, v1, .arr 3 24 [HV.int .i64 0, HV.int .i64 0, HV.v (.slice none 0 0)]), (41007, v5, .arr 1 88 [HV.mp 41011 v2]), (41008, v9, .arr 1 39 [HV.ar 41017 w33.2 (eSl eInt).k 0 ((a32.2.2).length)]), (41009, v10, .arr 3 24 [HV.int .i64 p0.1, HV.int .i64 0, HV.ar 20002036 w33.1 eFromLabelTo.k 0 ((a32.1).length)]), (41010, w13.2.1, .arr 1 3 [HV.int .i64 a12.2.1]), (41011, v2, .map (entE (HV.int .i64) a32.2.1)), (41017, w33.2, .arr (eSl eInt).k 30 ((eSl eInt).E a32.2.2))]⟩) (AS.le_of ⟨rfl, rfl, rfl, rfl, rfl, trivial⟩ ⟨rfl, rfl, rfl, rfl, rfl, rfl, rfl, rfl, trivial⟩) ⟨(IntKind.wrap .i64 (a28.1 + 1), a32.1, a32.2.1, a32.2.2), (w33.1, w33.2), h, rfl⟩
   refine AW.block ?_
   refine AW.rgs rfl fun K hK => ?_
   refine mv rfl rfl ?_
   refine mv rfl rfl ?_
   refine b_fin hK (s' := ⟨[(1, slE eInt x18), (2, HV.fn (.func 59) [] [HV.ptr 41007 v5 0, HV.ptr 41008 v9 0, HV.ptr 41009 v10 0, HV.ptr 41010 w13.2.1 0]), (3, HV.fptr [HV.int .i64 p0.1, HV.int .i64 p0.2.1, slE eFromLabelTo p0.2.2] 0), (6, HV.int .i64 a28.1), (10, HV.int .i64 p0.1), (11, HV.int .i64 a28.1)], [(20002036, w29.1, .arr eFromLabelTo.k 49 (eFromLabelTo.E a28.2.1)), (41004, v1, .arr 3 24 [HV.int .i64 0, HV.int .i64 0, HV.v (.slice none 0 0)]), (41007, v5, .arr 1 88 [HV.mp 41011 v2]), (41008, v9, .arr 1 39 [HV.ar 41017 w29.2 (eSl eInt).k 0 ((a28.2.2.2).length)]), (41009, v10, .arr 3 24 [HV.int .i64 p0.1, HV.int .i64 0, HV.ar 20002036 w29.1 eFromLabelTo.k 0 ((a28.2.1).length)]), (41010, w13.2.1, .arr 1 3 [HV.int .i64 a12.2.1]), (41011, v2, .map (entE (HV.int .i64) a28.2.2.1)), (41017, w29.2, .arr (eSl eInt).k 30 ((eSl eInt).E a28.2.2.2))]⟩) (le_q rfl rfl) ?_
   clear hK K
   refine AW.rgs rfl fun K hK => ?_
   refine bv rfl (v_loadF ty24 rfl (l_litA rfl (Nat.le_of_ble_eq_true rfl) rfl)) ?_
   refine mv rfl rfl ?_
   refine mv rfl rfl ?_
   obtain ⟨x35, h36, h⟩ := bS h
   refine b_op rfl (o_call rfl rfl rfl rfl (ACallD.pure0 (w_graph_Step h36)) ?_)
   refine mv rfl rfl ?_
   refine bv rfl (v_extract rfl rfl) ?_
   refine bv rfl (v_extract rfl rfl) ?_
   refine mv rfl rfl ?_
   refine mv rfl rfl ?_
   refine b_fin hK (s' := ⟨[(1, slE eInt x18), (2, HV.fn (.func 59) [] [HV.ptr 41007 v5 0, HV.ptr 41008 v9 0, HV.ptr 41009 v10 0, HV.ptr 41010 w13.2.1 0]), (3, HV.fptr [HV.int .i64 p0.1, HV.int .i64 p0.2.1, slE eFromLabelTo p0.2.2] 0), (6, HV.int .i64 a28.1), (7, slE eInt x35.1), (10, HV.int .i64 p0.1), (11, HV.int .i64 a28.1)], [(20002036, w29.1, .arr eFromLabelTo.k 49 (eFromLabelTo.E a28.2.1)), (41004, v1, .arr 3 24 [HV.int .i64 0, HV.int .i64 0, HV.v (.slice none 0 0)]), (41007, v5, .arr 1 88 [HV.mp 41011 v2]), (41008, v9, .arr 1 39 [HV.ar 41017 w29.2 (eSl eInt).k 0 ((a28.2.2.2).length)]), (41009, v10, .arr 3 24 [HV.int .i64 p0.1, HV.int .i64 0, HV.ar 20002036 w29.1 eFromLabelTo.k 0 ((a28.2.1).length)]), (41010, w13.2.1, .arr 1 3 [HV.int .i64 a12.2.1]), (41011, v2, .map (entE (HV.int .i64) a28.2.2.1)), (41017, w29.2, .arr (eSl eInt).k 30 ((eSl eInt).E a28.2.2.2))]⟩) (le_q rfl rfl) ?_
   clear hK K
   refine AW.rgs rfl fun K hK => ?_
   refine mv rfl rfl ?_
   refine bv rfl (v_lenF rfl rfl ty30 rfl) ?_
   refine bv rfl (v_bin rfl rfl b_gtr) ?_
   refine b_fin hK (s' := ⟨[(1, slE eInt x18), (2, HV.fn (.func 59) [] [HV.ptr 41007 v5 0, HV.ptr 41008 v9 0, HV.ptr 41009 v10 0, HV.ptr 41010 w13.2.1 0]), (3, HV.fptr [HV.int .i64 p0.1, HV.int .i64 p0.2.1, slE eFromLabelTo p0.2.2] 0), (6, HV.int .i64 a28.1), (7, slE eInt x35.1), (10, HV.int .i64 p0.1), (11, HV.int .i64 a28.1), (23, HV.bool (decide (0 < ((x35.1).length : Int))))], [(20002036, w29.1, .arr eFromLabelTo.k 49 (eFromLabelTo.E a28.2.1)), (41004, v1, .arr 3 24 [HV.int .i64 0, HV.int .i64 0, HV.v (.slice none 0 0)]), (41007, v5, .arr 1 88 [HV.mp 41011 v2]), (41008, v9, .arr 1 39 [HV.ar 41017 w29.2 (eSl eInt).k 0 ((a28.2.2.2).length)]), (41009, v10, .arr 3 24 [HV.int .i64 p0.1, HV.int .i64 0, HV.ar 20002036 w29.1 eFromLabelTo.k 0 ((a28.2.1).length)]), (41010, w13.2.1, .arr 1 3 [HV.int .i64 a12.2.1]), (41011, v2, .map (entE (HV.int .i64) a28.2.2.1)), (41017, w29.2, .arr (eSl eInt).k 30 ((eSl eInt).E a28.2.2.2))]⟩) (le_q rfl rfl) ?_
   clear hK K
   refine AW.cond rfl (fun hc => ?_) (fun hc => ?_)
   ·have hc := of_decide_eq_true hc
    have h := ifT hc h
    refine AW.rg rfl fun K hK => ?_
    refine mv rfl rfl ?_
    refine mv rfl rfl ?_
    refine mv rfl rfl ?_
    refine b_op rfl (o_callJ h (S := (List TFromLabelTo) × (List (List UInt8 × Int)) × (List (List (Int)))) (V := Nat × Nat) (fun a v => ⟨[(1, slE eInt x18), (2, HV.fn (.func 59) [] [HV.ptr 41007 v5 0, HV.ptr 41008 v9 0, HV.ptr 41009 v10 0, HV.ptr 41010 w13.2.1 0]), (3, HV.fptr [HV.int .i64 p0.1, HV.int .i64 p0.2.1, slE eFromLabelTo p0.2.2] 0), (10, HV.int .i64 p0.1), (11, HV.int .i64 a28.1), (27, HV.tup [])], [(20002036, v.1, .arr eFromLabelTo.k 49 (eFromLabelTo.E a.1)), (41004, v1, .arr 3 24 [HV.int .i64 0, HV.int .i64 0, HV.v (.slice none 0 0)]), (41007, v5, .arr 1 88 [HV.mp 41011 v2]), (41008, v9, .arr 1 39 [HV.ar 41017 v.2 (eSl eInt).k 0 ((a.2.2).length)]), (41009, v10, .arr 3 24 [HV.int .i64 p0.1, HV.int .i64 0, HV.ar 20002036 v.1 eFromLabelTo.k 0 ((a.1).length)]), (41010, w13.2.1, .arr 1 3 [HV.int .i64 a12.2.1]), (41011, v2, .map (entE (HV.int .i64) a.2.1)), (41017, v.2, .arr (eSl eInt).k 30 ((eSl eInt).E a.2.2))]⟩) rfl rfl rfl rfl (fun a37 w38 h => ?_) (fun k39 h => ?_) )
    ·refine b_nil (hK _ ?_)
     clear hK K
     exact to_le (s' := ⟨[(1, slE eInt x18), (2, HV.fn (.func 59) [] [HV.ptr 41007 v5 0, HV.ptr 41008 v9 0, HV.ptr 41009 v10 0, HV.ptr 41010 w13.2.1 0]), (3, HV.fptr [HV.int .i64 p0.1, HV.int .i64 p0.2.1, slE eFromLabelTo p0.2.2] 0), (10, HV.int .i64 p0.1), (11, HV.int .i64 a28.1)], [(20002036, w38.1, .arr eFromLabelTo.k 49 (eFromLabelTo.E a37.1)), (41004, v1, .arr 3 24 [HV.int .i64 0, HV.int .i64 0, HV.v (.slice none 0 0)]), (41007, v5, .arr 1 88 [HV.mp 41011 v2]), (41008, v9, .arr 1 39 [HV.ar 41017 w38.2 (eSl eInt).k 0 ((a37.2.2).length)]), (41009, v10, .arr 3 24 [HV.int .i64 p0.1, HV.int .i64 0, HV.ar 20002036 w38.1 eFromLabelTo.k 0 ((a37.1).length)]), (41010, w13.2.1, .arr 1 3 [HV.int .i64 a12.2.1]), (41011, v2, .map (entE (HV.int .i64) a37.2.1)), (41017, w38.2, .arr (eSl eInt).k 30 ((eSl eInt).E a37.2.2))]⟩) (AS.le_of ⟨rfl, rfl, rfl, rfl, rfl, trivial⟩ ⟨rfl, rfl, rfl, rfl, rfl, rfl, rfl, rfl, trivial⟩) ⟨(a37.1, a37.2.1, a37.2.2), (w38.1, w38.2), h, rfl⟩
    refine ACall.of_body Tryd.func59 rfl rfl (Nat.le_of_ble_eq_true rfl) ?_
    unfold Tryd.f59
    dsimp only [enumS, Nat.reduceAdd]
    refine AW.fin ?_
    refine AW.dys follows fun K hK => ?_
    refine y_st 3 rfl rfl ?_
    refine sv rfl (v_loadP ty88 rfl rfl (l_lit rfl rfl)) ?_
    refine sm rfl rfl ?_
    obtain ⟨x40, h41, h⟩ := bS h
    refine s_op rfl rfl (ops_call rfl rfl rfl rfl (ACallD.pure0 (w_subset_key h41)) ?_)
    refine s_nil ?_
    refine y_opX rfl rfl rfl rfl (fun hN => o_lookOk hN (HV.int .i64) (es := a28.2.2.1) (k := x40) (v := (mlook x40 a28.2.2.1).getD 0) rfl ty88 ty9 ty3 rfl rfl rfl rfl (look_dflt rfl) ?_)
    refine b_nil ?_
    refine y_st 9 rfl rfl ?_
    refine sm rfl rfl ?_
    refine sv rfl (v_extract rfl rfl) ?_
    refine sv rfl (v_extract rfl rfl) ?_
    refine sm rfl rfl ?_
    refine sm rfl rfl ?_
    refine s_nil ?_
    refine y_nil rfl (hK _ (AW.to (to_le (s' := ⟨[(0, HV.int .i64 a28.1), (1, slE eInt x35.1), (2, HV.ptr 41007 v5 0), (3, HV.ptr 41008 v9 0), (4, HV.ptr 41009 v10 0), (5, HV.ptr 41010 w13.2.1 0), (8, HV.int .i64 ((mlook x40 a28.2.2.1).getD 0)), (9, HV.bool ((mlook x40 a28.2.2.1).isSome))], [(20002036, w29.1, .arr eFromLabelTo.k 49 (eFromLabelTo.E a28.2.1)), (41004, v1, .arr 3 24 [HV.int .i64 0, HV.int .i64 0, HV.v (.slice none 0 0)]), (41007, v5, .arr 1 88 [HV.mp 41011 v2]), (41008, v9, .arr 1 39 [HV.ar 41017 w29.2 (eSl eInt).k 0 ((a28.2.2.2).length)]), (41009, v10, .arr 3 24 [HV.int .i64 p0.1, HV.int .i64 0, HV.ar 20002036 w29.1 eFromLabelTo.k 0 ((a28.2.1).length)]), (41010, w13.2.1, .arr 1 3 [HV.int .i64 a12.2.1]), (41011, v2, .map (entE (HV.int .i64) a28.2.2.1)), (41017, w29.2, .arr (eSl eInt).k 30 ((eSl eInt).E a28.2.2.2))]⟩) (le_q rfl rfl) ?_)))
    clear hK K
    refine AW.seq ?_
    refine AW.rgs rfl fun K hK => ?_
    refine mv rfl rfl ?_
    refine bv rfl (v_not rfl) ?_
    refine b_fin hK (s' := ⟨[(0, HV.int .i64 a28.1), (1, slE eInt x35.1), (2, HV.ptr 41007 v5 0), (3, HV.ptr 41008 v9 0), (4, HV.ptr 41009 v10 0), (5, HV.ptr 41010 w13.2.1 0), (8, HV.int .i64 ((mlook x40 a28.2.2.1).getD 0)), (18, HV.bool (!((mlook x40 a28.2.2.1).isSome)))], [(20002036, w29.1, .arr eFromLabelTo.k 49 (eFromLabelTo.E a28.2.1)), (41004, v1, .arr 3 24 [HV.int .i64 0, HV.int .i64 0, HV.v (.slice none 0 0)]), (41007, v5, .arr 1 88 [HV.mp 41011 v2]), (41008, v9, .arr 1 39 [HV.ar 41017 w29.2 (eSl eInt).k 0 ((a28.2.2.2).length)]), (41009, v10, .arr 3 24 [HV.int .i64 p0.1, HV.int .i64 0, HV.ar 20002036 w29.1 eFromLabelTo.k 0 ((a28.2.1).length)]), (41010, w13.2.1, .arr 1 3 [HV.int .i64 a12.2.1]), (41011, v2, .map (entE (HV.int .i64) a28.2.2.1)), (41017, w29.2, .arr (eSl eInt).k 30 ((eSl eInt).E a28.2.2.2))]⟩) (le_q rfl rfl) ?_
    clear hK K
    refine AW.lastJ h (by first | exact up_then | exact up_to) (S := Int × (List (List UInt8 × Int)) × (List (List (Int)))) (V := Nat) (fun a v => ⟨[(0, HV.int .i64 a28.1), (4, HV.ptr 41009 v10 0), (5, HV.ptr 41010 w13.2.1 0), (8, HV.int .i64 a.1)], [(20002036, w29.1, .arr eFromLabelTo.k 49 (eFromLabelTo.E a28.2.1)), (41004, v1, .arr 3 24 [HV.int .i64 0, HV.int .i64 0, HV.v (.slice none 0 0)]), (41007, v5, .arr 1 88 [HV.mp 41011 v2]), (41008, v9, .arr 1 39 [HV.ar 41017 v (eSl eInt).k 0 ((a.2.2).length)]), (41009, v10, .arr 3 24 [HV.int .i64 p0.1, HV.int .i64 0, HV.ar 20002036 w29.1 eFromLabelTo.k 0 ((a28.2.1).length)]), (41010, w13.2.1, .arr 1 3 [HV.int .i64 a12.2.1]), (41011, v2, .map (entE (HV.int .i64) a.2.1)), (41017, v, .arr (eSl eInt).k 30 ((eSl eInt).E a.2.2))]⟩) (fun a42 w43 h => ?_) (fun k44 h => ?_)
    ·refine AW.rg rfl fun K hK => ?_
     refine bv rfl (v_fieldAddrP fo24_2 rfl rfl) ?_
     refine bv rfl (v_loadP ty22 rfl rfl (l_lit rfl rfl)) ?_
     refine bv rfl (v_loadP ty3 rfl rfl (l_lit rfl rfl)) ?_
     refine mv rfl rfl ?_
     refine mv rfl rfl ?_
     refine b_op rfl (o_build (cs := [HV.int .i64 a12.2.1, HV.int .i64 a28.1, HV.int .i64 a42.1]) rfl (bl_of ty49 rfl rfl rfl rfl) ?_)
     refine b_op rfl (o_bsl rfl rfl (as_of (cs := [HV.int .i64 a12.2.1, HV.int .i64 a28.1, HV.int .i64 a42.1]) ty22 ty49 rfl rfl rfl rfl rfl) ?_)
     obtain ⟨h46, h⟩ := ifN h
     refine b_op rfl (o_appE eFromLabelTo (l := a28.2.1) (m := [(a12.2.1, a28.1, a42.1)]) rfl rfl ty22 ty22 ty49 rfl rfl rfl rfl rfl h46 (fun v45 => ?_))
     refine bv rfl (v_fieldAddrP fo24_2 rfl rfl) ?_
     refine b_op rfl (o_store (cs := [HV.ar 20002036 v45 eFromLabelTo.k 0 ((a28.2.1 ++ [(a12.2.1, a28.1, a42.1)]).length)]) (zs := [HV.int .i64 p0.1, HV.int .i64 0, HV.ar 20002036 v45 eFromLabelTo.k 0 ((a28.2.1 ++ [(a12.2.1, a28.1, a42.1)]).length)]) rfl rfl rfl ty22 rfl rfl rfl rfl rfl ?_)
     refine b_nil (hK _ ?_)
     clear hK K
     refine to_refl ?_
     refine ret_to (hs := []) (q := HV.tup []) (.inl rfl) rfl rfl ?_
     exact to_le (s' := ⟨[(1, slE eInt x18), (2, HV.fn (.func 59) [] [HV.ptr 41007 v5 0, HV.ptr 41008 v9 0, HV.ptr 41009 v10 0, HV.ptr 41010 w13.2.1 0]), (3, HV.fptr [HV.int .i64 p0.1, HV.int .i64 p0.2.1, slE eFromLabelTo p0.2.2] 0), (10, HV.int .i64 p0.1), (11, HV.int .i64 a28.1), (27, HV.tup [])], [(20002036, v45, .arr eFromLabelTo.k 49 (eFromLabelTo.E (a28.2.1 ++ [(a12.2.1, a28.1, a42.1)]))), (41004, v1, .arr 3 24 [HV.int .i64 0, HV.int .i64 0, HV.v (.slice none 0 0)]), (41007, v5, .arr 1 88 [HV.mp 41011 v2]), (41008, v9, .arr 1 39 [HV.ar 41017 w43 (eSl eInt).k 0 ((a42.2.2).length)]), (41009, v10, .arr 3 24 [HV.int .i64 p0.1, HV.int .i64 0, HV.ar 20002036 v45 eFromLabelTo.k 0 ((a28.2.1 ++ [(a12.2.1, a28.1, a42.1)]).length)]), (41010, w13.2.1, .arr 1 3 [HV.int .i64 a12.2.1]), (41011, v2, .map (entE (HV.int .i64) a42.2.1)), (41017, w43, .arr (eSl eInt).k 30 ((eSl eInt).E a42.2.2))]⟩) (AS.le_of ⟨rfl, rfl, rfl, rfl, rfl, rfl, trivial⟩ ⟨rfl, rfl, rfl, rfl, rfl, rfl, rfl, rfl, trivial⟩) ⟨(a28.2.1 ++ [(a12.2.1, a28.1, a42.1)], a42.2.1, a42.2.2), (v45, w43), h, rfl⟩
    refine AW.cond rfl (fun hc => ?_) (fun hc => ?_)
    ·have h := ifT hc h
     refine AW.rgs rfl fun K hK => ?_
     refine bv rfl (v_loadP ty39 rfl rfl (l_lit rfl rfl)) ?_
     refine bv rfl (v_lenA rfl rfl ty39 rfl rfl) ?_
     refine mv rfl rfl ?_
     refine b_fin hK (s' := ⟨[(0, HV.int .i64 a28.1), (1, slE eInt x35.1), (2, HV.ptr 41007 v5 0), (3, HV.ptr 41008 v9 0), (4, HV.ptr 41009 v10 0), (5, HV.ptr 41010 w13.2.1 0), (8, HV.int .i64 (((a28.2.2.2).length : Nat) : Int))], [(20002036, w29.1, .arr eFromLabelTo.k 49 (eFromLabelTo.E a28.2.1)), (41004, v1, .arr 3 24 [HV.int .i64 0, HV.int .i64 0, HV.v (.slice none 0 0)]), (41007, v5, .arr 1 88 [HV.mp 41011 v2]), (41008, v9, .arr 1 39 [HV.ar 41017 w29.2 (eSl eInt).k 0 ((a28.2.2.2).length)]), (41009, v10, .arr 3 24 [HV.int .i64 p0.1, HV.int .i64 0, HV.ar 20002036 w29.1 eFromLabelTo.k 0 ((a28.2.1).length)]), (41010, w13.2.1, .arr 1 3 [HV.int .i64 a12.2.1]), (41011, v2, .map (entE (HV.int .i64) a28.2.2.1)), (41017, w29.2, .arr (eSl eInt).k 30 ((eSl eInt).E a28.2.2.2))]⟩) (le_q rfl rfl) ?_
     clear hK K
     refine AW.dgs 4 follows rfl rfl fun K hK => ?_
     refine sv rfl (v_loadP ty88 rfl rfl (l_lit rfl rfl)) ?_
     refine sm rfl rfl ?_
     obtain ⟨x47, h48, h⟩ := bS h
     refine s_op rfl rfl (ops_call rfl rfl rfl rfl (ACallD.pure0 (w_subset_key h48)) ?_)
     refine sm rfl rfl ?_
     refine s_nil ?_
     refine b_op rfl (o_mapSet (HV.int .i64) (es := a28.2.2.1) (k := x47) (v := (((a28.2.2.2).length : Nat) : Int)) (.inl rfl) ty88 ty9 rfl rfl rfl rfl trivial ?_)
     refine b_fin hK (s' := ⟨[(0, HV.int .i64 a28.1), (1, slE eInt x35.1), (3, HV.ptr 41008 v9 0), (4, HV.ptr 41009 v10 0), (5, HV.ptr 41010 w13.2.1 0), (8, HV.int .i64 (((a28.2.2.2).length : Nat) : Int))], [(20002036, w29.1, .arr eFromLabelTo.k 49 (eFromLabelTo.E a28.2.1)), (41004, v1, .arr 3 24 [HV.int .i64 0, HV.int .i64 0, HV.v (.slice none 0 0)]), (41007, v5, .arr 1 88 [HV.mp 41011 v2]), (41008, v9, .arr 1 39 [HV.ar 41017 w29.2 (eSl eInt).k 0 ((a28.2.2.2).length)]), (41009, v10, .arr 3 24 [HV.int .i64 p0.1, HV.int .i64 0, HV.ar 20002036 w29.1 eFromLabelTo.k 0 ((a28.2.1).length)]), (41010, w13.2.1, .arr 1 3 [HV.int .i64 a12.2.1]), (41011, v2, .map (entE (HV.int .i64) (mputN x47 (((a28.2.2.2).length : Nat) : Int) a28.2.2.1))), (41017, w29.2, .arr (eSl eInt).k 30 ((eSl eInt).E a28.2.2.2))]⟩) (le_q rfl rfl) ?_
     clear hK K
     refine AW.rg rfl fun K hK => ?_
     refine bv rfl (v_loadP ty39 rfl rfl (l_lit rfl rfl)) ?_
     refine mv rfl rfl ?_
     refine b_op rfl (o_bsl rfl rfl (as_of (cs := [slE eInt x35.1]) ty39 ty30 rfl rfl rfl rfl rfl) ?_)
     obtain ⟨h50, h⟩ := ifN h
     refine b_op rfl (o_appE (eSl eInt) (l := a28.2.2.2) (m := [x35.1]) rfl rfl ty39 ty39 ty30 rfl rfl rfl rfl rfl h50 (fun v49 => ?_))
     refine b_op rfl (o_store (cs := [HV.ar 41017 v49 (eSl eInt).k 0 ((a28.2.2.2 ++ [x35.1]).length)]) (zs := [HV.ar 41017 v49 (eSl eInt).k 0 ((a28.2.2.2 ++ [x35.1]).length)]) rfl rfl rfl ty39 rfl rfl rfl rfl rfl ?_)
     refine b_nil (hK _ ?_)
     clear hK K
     exact to_le (s' := ⟨[(0, HV.int .i64 a28.1), (4, HV.ptr 41009 v10 0), (5, HV.ptr 41010 w13.2.1 0), (8, HV.int .i64 (((a28.2.2.2).length : Nat) : Int))], [(20002036, w29.1, .arr eFromLabelTo.k 49 (eFromLabelTo.E a28.2.1)), (41004, v1, .arr 3 24 [HV.int .i64 0, HV.int .i64 0, HV.v (.slice none 0 0)]), (41007, v5, .arr 1 88 [HV.mp 41011 v2]), (41008, v9, .arr 1 39 [HV.ar 41017 v49 (eSl eInt).k 0 ((a28.2.2.2 ++ [x35.1]).length)]), (41009, v10, .arr 3 24 [HV.int .i64 p0.1, HV.int .i64 0, HV.ar 20002036 w29.1 eFromLabelTo.k 0 ((a28.2.1).length)]), (41010, w13.2.1, .arr 1 3 [HV.int .i64 a12.2.1]), (41011, v2, .map (entE (HV.int .i64) (mputN x47 (((a28.2.2.2).length : Nat) : Int) a28.2.2.1))), (41017, v49, .arr (eSl eInt).k 30 ((eSl eInt).E (a28.2.2.2 ++ [x35.1])))]⟩) (AS.le_of ⟨rfl, rfl, rfl, rfl, trivial⟩ ⟨rfl, rfl, rfl, rfl, rfl, rfl, rfl, rfl, trivial⟩) ⟨((((a28.2.2.2).length : Nat) : Int), mputN x47 (((a28.2.2.2).length : Nat) : Int) a28.2.2.1, a28.2.2.2 ++ [x35.1]), v49, h, rfl⟩
    have h := ifF (bF' hc) h
    refine AW.skip ?_
    exact to_le (s' := ⟨[(0, HV.int .i64 a28.1), (4, HV.ptr 41009 v10 0), (5, HV.ptr 41010 w13.2.1 0), (8, HV.int .i64 ((mlook x40 a28.2.2.1).getD 0))], [(20002036, w29.1, .arr eFromLabelTo.k 49 (eFromLabelTo.E a28.2.1)), (41004, v1, .arr 3 24 [HV.int .i64 0, HV.int .i64 0, HV.v (.slice none 0 0)]), (41007, v5, .arr 1 88 [HV.mp 41011 v2]), (41008, v9, .arr 1 39 [HV.ar 41017 w29.2 (eSl eInt).k 0 ((a28.2.2.2).length)]), (41009, v10, .arr 3 24 [HV.int .i64 p0.1, HV.int .i64 0, HV.ar 20002036 w29.1 eFromLabelTo.k 0 ((a28.2.1).length)]), (41010, w13.2.1, .arr 1 3 [HV.int .i64 a12.2.1]), (41011, v2, .map (entE (HV.int .i64) a28.2.2.1)), (41017, w29.2, .arr (eSl eInt).k 30 ((eSl eInt).E a28.2.2.2))]⟩) (AS.le_of ⟨rfl, rfl, rfl, rfl, trivial⟩ ⟨rfl, rfl, rfl, rfl, rfl, rfl, rfl, rfl, trivial⟩) ⟨((mlook x40 a28.2.2.1).getD 0, a28.2.2.1, a28.2.2.2), w29.2, h, rfl⟩
   have hc := of_decide_eq_false hc
   have h := ifF hc h
   refine AW.skip ?_
   exact to_le (s' := ⟨[(1, slE eInt x18), (2, HV.fn (.func 59) [] [HV.ptr 41007 v5 0, HV.ptr 41008 v9 0, HV.ptr 41009 v10 0, HV.ptr 41010 w13.2.1 0]), (3, HV.fptr [HV.int .i64 p0.1, HV.int .i64 p0.2.1, slE eFromLabelTo p0.2.2] 0), (10, HV.int .i64 p0.1), (11, HV.int .i64 a28.1)], [(20002036, w29.1, .arr eFromLabelTo.k 49 (eFromLabelTo.E a28.2.1)), (41004, v1, .arr 3 24 [HV.int .i64 0, HV.int .i64 0, HV.v (.slice none 0 0)]), (41007, v5, .arr 1 88 [HV.mp 41011 v2]), (41008, v9, .arr 1 39 [HV.ar 41017 w29.2 (eSl eInt).k 0 ((a28.2.2.2).length)]), (41009, v10, .arr 3 24 [HV.int .i64 p0.1, HV.int .i64 0, HV.ar 20002036 w29.1 eFromLabelTo.k 0 ((a28.2.1).length)]), (41010, w13.2.1, .arr 1 3 [HV.int .i64 a12.2.1]), (41011, v2, .map (entE (HV.int .i64) a28.2.2.1)), (41017, w29.2, .arr (eSl eInt).k 30 ((eSl eInt).E a28.2.2.2))]⟩) (AS.le_of ⟨rfl, rfl, rfl, rfl, rfl, trivial⟩ ⟨rfl, rfl, rfl, rfl, rfl, rfl, rfl, rfl, trivial⟩) ⟨(a28.2.1, a28.2.2.1, a28.2.2.2), (w29.1, w29.2), h, rfl⟩
  have hc := of_decide_eq_false hc
  have h := ifF hc h
  refine AW.exit ?_
  exact to_le (s' := ⟨[], [(20002036, w29.1, .arr eFromLabelTo.k 49 (eFromLabelTo.E a28.2.1)), (41004, v1, .arr 3 24 [HV.int .i64 0, HV.int .i64 0, HV.v (.slice none 0 0)]), (41007, v5, .arr 1 88 [HV.mp 41011 v2]), (41008, v9, .arr 1 39 [HV.ar 41017 w29.2 (eSl eInt).k 0 ((a28.2.2.2).length)]), (41009, v10, .arr 3 24 [HV.int .i64 p0.1, HV.int .i64 0, HV.ar 20002036 w29.1 eFromLabelTo.k 0 ((a28.2.1).length)]), (41010, w13.2.1, .arr 1 3 [HV.int .i64 a12.2.1]), (41011, v2, .map (entE (HV.int .i64) a28.2.2.1)), (41017, w29.2, .arr (eSl eInt).k 30 ((eSl eInt).E a28.2.2.2))]⟩) (AS.le_of trivial ⟨rfl, rfl, rfl, rfl, rfl, rfl, rfl, rfl, trivial⟩) ⟨(a28.2.1, a28.2.2.1, a28.2.2.2), (w29.1, w29.2), h, rfl⟩
 have hc := of_decide_eq_false hc
 have h := ifF hc h
 refine AW.exit ?_
 exact to_le (s' := ⟨[(4, HV.ptr 41004 v1 0), (8, HV.ptr 41008 v9 0), (9, HV.ptr 41009 v10 0)], [(41004, v1, .arr 3 24 [HV.int .i64 0, HV.int .i64 0, HV.v (.slice none 0 0)]), (41008, v9, .arr 1 39 [HV.ar 41017 w13.2.2 (eSl eInt).k 0 ((a12.2.2.2).length)]), (41009, v10, .arr 3 24 [HV.int .i64 p0.1, HV.int .i64 0, HV.ar 20002036 w13.1 eFromLabelTo.k 0 ((a12.1).length)]), (20002036, w13.1, .arr eFromLabelTo.k 49 (eFromLabelTo.E a12.1)), (41017, w13.2.2, .arr (eSl eInt).k 30 ((eSl eInt).E a12.2.2.2))]⟩) (AS.le_of ⟨rfl, rfl, rfl, trivial⟩ ⟨rfl, rfl, rfl, rfl, rfl, trivial⟩) ⟨(a12.1, a12.2.2.2), (w13.1, w13.2.2), h, rfl⟩

end Go.AW

namespace Go.AW
open Go Go.Proofs
set_option linter.unusedVariables false
set_option maxHeartbeats 1600000 in
set_option maxRecDepth 100000 in
theorem w_subset_Build {p0 : TLabelsStatesEdges} {r : TLabelsStatesEdges × (List (List (Int))) × Int} (h : m_subset_Build p0 = some r) : Pure Tryd.prog 16 [HV.agg [HV.int .i64 p0.1, HV.int .i64 p0.2.1, slE eFromLabelTo p0.2.2]] (· = HV.tup [HV.agg [HV.int .i64 r.1.1, HV.int .i64 r.1.2.1, slE eFromLabelTo r.1.2.2], slE (eSl eInt) r.2.1, HV.int .i64 r.2.2]) := by
 unfold m_subset_Build at h
 refine Pure.of_body Tryd.func16 rfl rfl (Nat.le_of_ble_eq_true rfl) fun hf => ?_
 unfold Tryd.f16
 dsimp only [enumS, Nat.reduceAdd]
 refine AW.rgs rfl fun K hK => ?_
 refine b_op rfl (o_box rfl rfl rfl ?_)
 refine b_op rfl (o_alloc (fid := 16) (zs := [HV.int .i64 0, HV.int .i64 0, HV.v (.slice none 0 0)]) 16002 rfl rfl ty24 rfl (fun v1 => ?_))
 refine mv rfl rfl ?_
 refine mv rfl rfl ?_
 refine b_fin hK (s' := ⟨[(1, HV.fptr [HV.int .i64 p0.1, HV.int .i64 p0.2.1, slE eFromLabelTo p0.2.2] 0), (2, HV.ptr 16002 v1 0)], [(16002, v1, .arr 3 24 [HV.int .i64 0, HV.int .i64 0, HV.v (.slice none 0 0)])]⟩) (le_q rfl rfl) ?_
 clear hK K
 refine AW.seq ?_
 refine AW.rgs rfl fun K hK => ?_
 refine bv rfl (v_loadF ty24 rfl (l_litA rfl (Nat.le_of_ble_eq_true rfl) rfl)) ?_
 obtain ⟨x2, h3, h⟩ := bS h
 refine b_op rfl (o_call rfl rfl rfl rfl (ACallD.pure0 (w_graph_Check h3)) ?_)
 refine bv rfl (v_bin rfl rfl b_neq) ?_
 refine b_fin hK (s' := ⟨[(1, HV.fptr [HV.int .i64 p0.1, HV.int .i64 p0.2.1, slE eFromLabelTo p0.2.2] 0), (2, HV.ptr 16002 v1 0), (9, HV.bool (decide (x2 ≠ 0)))], [(16002, v1, .arr 3 24 [HV.int .i64 0, HV.int .i64 0, HV.v (.slice none 0 0)])]⟩) (le_q rfl rfl) ?_
 clear hK K
 refine AW.cond rfl (fun hc => ?_) (fun hc => ?_)
 ·have hc := of_decide_eq_true hc
  have h := ifT hc h
  refine AW.rgs rfl fun K hK => ?_
  refine b_op rfl (o_build (cs := [HV.int .i64 0, HV.int .i64 0, HV.v (.slice none 0 0)]) rfl (bl_of ty24 rfl rfl rfl rfl) ?_)
  refine b_op rfl (o_store (cs := [HV.int .i64 0, HV.int .i64 0, HV.v (.slice none 0 0)]) (zs := [HV.int .i64 0, HV.int .i64 0, HV.v (.slice none 0 0)]) rfl rfl rfl ty24 rfl rfl rfl rfl rfl ?_)
  refine mv rfl rfl ?_
  refine mv rfl rfl ?_
  refine b_fin hK (s' := ⟨[(2, HV.ptr 16002 v1 0), (3, HV.v (.slice none 0 0)), (4, HV.int .i64 1)], [(16002, v1, .arr 3 24 [HV.int .i64 0, HV.int .i64 0, HV.v (.slice none 0 0)])]⟩) (le_q rfl rfl) ?_
  clear hK K
  refine AW.to (to_weak ⟨[(2, HV.ptr 16002 v1 0), (3, slE (eSl eInt) ([] : List (List (Int)))), (4, HV.int .i64 1)], [(16002, v1, .arr 3 24 [HV.int .i64 0, HV.int .i64 0, HV.v (.slice none 0 0)])]⟩ ⟨⟨_, rfl, .refl _⟩, ⟨_, rfl, .nil _⟩, ⟨_, rfl, .refl _⟩, trivial⟩ ⟨rfl, trivial⟩ ?_)
  refine AW.to (to_cells 16002 v1 (ds := [HV.int .i64 0, HV.int .i64 0, slE eFromLabelTo ([] : List TFromLabelTo)]) rfl (.cons (.refl _) <| .cons (.refl _) <| .cons (.nil _) <| .nil) ?_)
  refine AW.ret ?_
  have h := Option.some.inj h
  subst h
  exact ret_pure (hs := [HV.agg [HV.int .i64 0, HV.int .i64 0, slE eFromLabelTo ([] : List TFromLabelTo)], slE (eSl eInt) ([] : List (List (Int))), HV.int .i64 1]) (q := HV.tup [HV.agg [HV.int .i64 0, HV.int .i64 0, slE eFromLabelTo ([] : List TFromLabelTo)], slE (eSl eInt) ([] : List (List (Int))), HV.int .i64 1]) (.inr rfl) (resP ty24 rfl rfl (l_litA rfl (Nat.le_of_ble_eq_true rfl) rfl) (resT rfl (resT rfl rfl))) rfl ⟨⟨trivial, trivial, (clean_slE fun _ _ => ⟨trivial, trivial, trivial, trivial⟩), trivial⟩, (clean_slE fun _ _ => ⟨(clean_slE fun _ _ => ⟨trivial, trivial⟩), trivial⟩), trivial, trivial⟩
 have hc := of_decide_eq_false hc
 have h := ifF hc h
 refine AW.skip ?_
 refine AW.seq ?_
 refine AW.rgs rfl fun K hK => ?_
 refine bv rfl (v_fieldAddrF fo24_1 rfl) ?_
 refine bv rfl (v_loadF ty3 rfl (l_lit rfl rfl)) ?_
 refine bv rfl (v_bin rfl rfl b_eql) ?_
 refine b_fin hK (s' := ⟨[(1, HV.fptr [HV.int .i64 p0.1, HV.int .i64 p0.2.1, slE eFromLabelTo p0.2.2] 0), (2, HV.ptr 16002 v1 0), (13, HV.bool (decide (p0.2.1 = 0)))], [(16002, v1, .arr 3 24 [HV.int .i64 0, HV.int .i64 0, HV.v (.slice none 0 0)])]⟩) (le_q rfl rfl) ?_
 clear hK K
 refine AW.cond rfl (fun hc => ?_) (fun hc => ?_)
 ·have hc := of_decide_eq_true hc
  have h := ifT hc h
  refine AW.rgs rfl fun K hK => ?_
  refine bv rfl (v_fieldAddrF fo24_0 rfl) ?_
  refine bv rfl (v_loadF ty3 rfl (l_lit rfl rfl)) ?_
  refine b_op rfl (o_build (cs := [HV.int .i64 p0.1, HV.int .i64 0, HV.v (.slice none 0 0)]) rfl (bl_of ty24 rfl rfl rfl rfl) ?_)
  refine b_op rfl (o_store (cs := [HV.int .i64 p0.1, HV.int .i64 0, HV.v (.slice none 0 0)]) (zs := [HV.int .i64 p0.1, HV.int .i64 0, HV.v (.slice none 0 0)]) rfl rfl rfl ty24 rfl rfl rfl rfl rfl ?_)
  refine mv rfl rfl ?_
  refine mv rfl rfl ?_
  refine b_fin hK (s' := ⟨[(2, HV.ptr 16002 v1 0), (3, HV.v (.slice none 0 0)), (4, HV.int .i64 0)], [(16002, v1, .arr 3 24 [HV.int .i64 p0.1, HV.int .i64 0, HV.v (.slice none 0 0)])]⟩) (le_q rfl rfl) ?_
  clear hK K
  refine AW.to (to_weak ⟨[(2, HV.ptr 16002 v1 0), (3, slE (eSl eInt) ([] : List (List (Int)))), (4, HV.int .i64 0)], [(16002, v1, .arr 3 24 [HV.int .i64 p0.1, HV.int .i64 0, HV.v (.slice none 0 0)])]⟩ ⟨⟨_, rfl, .refl _⟩, ⟨_, rfl, .nil _⟩, ⟨_, rfl, .refl _⟩, trivial⟩ ⟨rfl, trivial⟩ ?_)
  refine AW.to (to_cells 16002 v1 (ds := [HV.int .i64 p0.1, HV.int .i64 0, slE eFromLabelTo ([] : List TFromLabelTo)]) rfl (.cons (.refl _) <| .cons (.refl _) <| .cons (.nil _) <| .nil) ?_)
  refine AW.ret ?_
  have h := Option.some.inj h
  subst h
  exact ret_pure (hs := [HV.agg [HV.int .i64 p0.1, HV.int .i64 0, slE eFromLabelTo ([] : List TFromLabelTo)], slE (eSl eInt) ([] : List (List (Int))), HV.int .i64 0]) (q := HV.tup [HV.agg [HV.int .i64 p0.1, HV.int .i64 0, slE eFromLabelTo ([] : List TFromLabelTo)], slE (eSl eInt) ([] : List (List (Int))), HV.int .i64 0]) (.inr rfl) (resP ty24 rfl rfl (l_litA rfl (Nat.le_of_ble_eq_true rfl) rfl) (resT rfl (resT rfl rfl))) rfl ⟨⟨trivial, trivial, (clean_slE fun _ _ => ⟨trivial, trivial, trivial, trivial⟩), trivial⟩, (clean_slE fun _ _ => ⟨(clean_slE fun _ _ => ⟨trivial, trivial⟩), trivial⟩), trivial, trivial⟩
 have hc := of_decide_eq_false hc
 have h := ifF hc h
 refine AW.skip ?_
 refine AW.rgs rfl fun K hK => ?_
 refine bv rfl (v_fieldAddrF fo24_1 rfl) ?_
 refine bv rfl (v_loadF ty3 rfl (l_lit rfl rfl)) ?_
 obtain ⟨h5, h⟩ := ifN h
 refine b_op rfl (o_makeE (fid := 16) eInt (0 : Int) 16019 rfl rfl ty30 rfl rfl ty3 rfl rfl h5 (fun v4 => ?_))
 refine mv rfl rfl ?_
 refine b_fin hK (s' := ⟨[(1, HV.fptr [HV.int .i64 p0.1, HV.int .i64 p0.2.1, slE eFromLabelTo p0.2.2] 0), (2, HV.ptr 16002 v1 0), (5, HV.ar 16019 v4 eInt.k 0 ((List.replicate (p0.2.1).toNat (0 : Int)).length))], [(16002, v1, .arr 3 24 [HV.int .i64 0, HV.int .i64 0, HV.v (.slice none 0 0)]), (16019, v4, .arr eInt.k 3 (eInt.E (List.replicate (p0.2.1).toNat (0 : Int))))]⟩) (le_q rfl rfl) ?_
 clear hK K
 refine AW.seq ?_
 refine AW.rgs rfl fun K hK => ?_
 refine mv rfl rfl ?_
 refine bv rfl (v_lenA rfl rfl ty30 rfl rfl) ?_
 refine mv rfl rfl ?_
 refine b_fin hK (s' := ⟨[(1, HV.fptr [HV.int .i64 p0.1, HV.int .i64 p0.2.1, slE eFromLabelTo p0.2.2] 0), (2, HV.ptr 16002 v1 0), (5, HV.ar 16019 v4 eInt.k 0 ((List.replicate (p0.2.1).toNat (0 : Int)).length)), (21, HV.int .i64 (((List.replicate (p0.2.1).toNat (0 : Int)).length : Nat) : Int)), (22, HV.int .i64 0)], [(16002, v1, .arr 3 24 [HV.int .i64 0, HV.int .i64 0, HV.v (.slice none 0 0)]), (16019, v4, .arr eInt.k 3 (eInt.E (List.replicate (p0.2.1).toNat (0 : Int))))]⟩) (le_q rfl rfl) ?_
 clear hK K
 refine AW.lpX h (by first | exact up_then | exact up_to) (S := Int × (List Int)) (V := Unit) (fun a v => ⟨[(1, HV.fptr [HV.int .i64 p0.1, HV.int .i64 p0.2.1, slE eFromLabelTo p0.2.2] 0), (2, HV.ptr 16002 v1 0), (5, HV.ar 16019 v4 eInt.k 0 ((a.2).length)), (21, HV.int .i64 (((List.replicate (p0.2.1).toNat (0 : Int)).length : Nat) : Int)), (22, HV.int .i64 a.1)], [(16002, v1, .arr 3 24 [HV.int .i64 0, HV.int .i64 0, HV.v (.slice none 0 0)]), (16019, v4, .arr eInt.k 3 (eInt.E a.2))]⟩) ?_ (X := (List Int)) (W := Unit) (fun a v => ⟨[(1, HV.fptr [HV.int .i64 p0.1, HV.int .i64 p0.2.1, slE eFromLabelTo p0.2.2] 0), (2, HV.ptr 16002 v1 0), (5, HV.ar 16019 v4 eInt.k 0 ((a).length))], [(16002, v1, .arr 3 24 [HV.int .i64 0, HV.int .i64 0, HV.v (.slice none 0 0)]), (16019, v4, .arr eInt.k 3 (eInt.E a))]⟩) (fun a12 w13 h => ?_) (fun a6 w7 st8 h => ?_)
 ·exact to_le (s' := ⟨[(1, HV.fptr [HV.int .i64 p0.1, HV.int .i64 p0.2.1, slE eFromLabelTo p0.2.2] 0), (2, HV.ptr 16002 v1 0), (5, HV.ar 16019 v4 eInt.k 0 ((List.replicate (p0.2.1).toNat (0 : Int)).length)), (21, HV.int .i64 (((List.replicate (p0.2.1).toNat (0 : Int)).length : Nat) : Int)), (22, HV.int .i64 0)], [(16002, v1, .arr 3 24 [HV.int .i64 0, HV.int .i64 0, HV.v (.slice none 0 0)]), (16019, v4, .arr eInt.k 3 (eInt.E (List.replicate (p0.2.1).toNat (0 : Int))))]⟩) (AS.le_of ⟨rfl, rfl, rfl, rfl, rfl, trivial⟩ ⟨rfl, rfl, trivial⟩) ⟨(), rfl⟩
 ·refine AW.to (to_frz 2 [(16019, v4, .arr eInt.k 3 (eInt.E a12))] ⟨[(1, HV.fptr [HV.int .i64 p0.1, HV.int .i64 p0.2.1, slE eFromLabelTo p0.2.2] 0), (2, HV.ptr 16002 v1 0), (5, slE eInt a12)], [(16002, v1, .arr 3 24 [HV.int .i64 0, HV.int .i64 0, HV.v (.slice none 0 0)])]⟩ ⟨⟨_, rfl, rfl⟩, ⟨_, rfl, rfl⟩, ⟨_, rfl, frz_slE eInt (l := a12) rfl fun _ _ => rfl⟩, trivial⟩ ⟨rfl, trivial⟩ ⟨rfl, trivial⟩ ⟨rfl, trivial⟩ ?_)
  refine AW.rgs rfl fun K hK => ?_
  refine bv rfl (v_loadF ty24 rfl (l_litA rfl (Nat.le_of_ble_eq_true rfl) rfl)) ?_
  refine mv rfl rfl ?_
  obtain ⟨x14, h15, h⟩ := bS h
  refine b_op rfl (o_call rfl rfl rfl rfl (ACallD.pure0 (w_subset_build h15)) ?_)
  refine bv rfl (v_extract rfl rfl) ?_
  refine bv rfl (v_extract rfl rfl) ?_
  refine bv rfl (v_extract rfl rfl) ?_
  refine b_op rfl (o_store (cs := [HV.int .i64 x14.1.1, HV.int .i64 x14.1.2.1, slE eFromLabelTo x14.1.2.2]) (zs := [HV.int .i64 x14.1.1, HV.int .i64 x14.1.2.1, slE eFromLabelTo x14.1.2.2]) rfl rfl rfl ty24 rfl rfl rfl rfl rfl ?_)
  refine mv rfl rfl ?_
  refine mv rfl rfl ?_
  refine b_fin hK (s' := ⟨[(2, HV.ptr 16002 v1 0), (3, slE (eSl eInt) x14.2.1), (4, HV.int .i64 x14.2.2)], [(16002, v1, .arr 3 24 [HV.int .i64 x14.1.1, HV.int .i64 x14.1.2.1, slE eFromLabelTo x14.1.2.2])]⟩) (le_q rfl rfl) ?_
  clear hK K
  refine AW.ret ?_
  have h := Option.some.inj h
  subst h
  exact ret_pure (hs := [HV.agg [HV.int .i64 x14.1.1, HV.int .i64 x14.1.2.1, slE eFromLabelTo x14.1.2.2], slE (eSl eInt) x14.2.1, HV.int .i64 x14.2.2]) (q := HV.tup [HV.agg [HV.int .i64 x14.1.1, HV.int .i64 x14.1.2.1, slE eFromLabelTo x14.1.2.2], slE (eSl eInt) x14.2.1, HV.int .i64 x14.2.2]) (.inr rfl) (resP ty24 rfl rfl (l_litA rfl (Nat.le_of_ble_eq_true rfl) rfl) (resT rfl (resT rfl rfl))) rfl ⟨⟨trivial, trivial, (clean_slE fun _ _ => ⟨trivial, trivial, trivial, trivial⟩), trivial⟩, (clean_slE fun _ _ => ⟨(clean_slE fun _ _ => ⟨trivial, trivial⟩), trivial⟩), trivial, trivial⟩
 refine AW.rgs rfl fun K hK => ?_
 refine bv rfl (v_bin rfl rfl b_lss) ?_
 refine b_fin hK (s' := ⟨[(1, HV.fptr [HV.int .i64 p0.1, HV.int .i64 p0.2.1, slE eFromLabelTo p0.2.2] 0), (2, HV.ptr 16002 v1 0), (5, HV.ar 16019 v4 eInt.k 0 ((a6.2).length)), (21, HV.int .i64 (((List.replicate (p0.2.1).toNat (0 : Int)).length : Nat) : Int)), (22, HV.int .i64 a6.1), (23, HV.bool (decide (a6.1 < (((List.replicate (p0.2.1).toNat (0 : Int)).length : Nat) : Int))))], [(16002, v1, .arr 3 24 [HV.int .i64 0, HV.int .i64 0, HV.v (.slice none 0 0)]), (16019, v4, .arr eInt.k 3 (eInt.E a6.2))]⟩) (le_q rfl rfl) ?_
 clear hK K
 refine AW.cseq rfl (fun hc => ?_) (fun hc => ?_)
 ·have hc := of_decide_eq_true hc
  have h := ifT hc h
  refine AW.skip ?_
  refine AW.seq (AW.block ?_)
  refine AW.rgs rfl fun K hK => ?_
  refine mv rfl rfl ?_
  refine mv rfl rfl ?_
  refine b_fin hK (s' := ⟨[(1, HV.fptr [HV.int .i64 p0.1, HV.int .i64 p0.2.1, slE eFromLabelTo p0.2.2] 0), (2, HV.ptr 16002 v1 0), (5, HV.ar 16019 v4 eInt.k 0 ((a6.2).length)), (6, HV.int .i64 a6.1), (21, HV.int .i64 (((List.replicate (p0.2.1).toNat (0 : Int)).length : Nat) : Int)), (22, HV.int .i64 a6.1)], [(16002, v1, .arr 3 24 [HV.int .i64 0, HV.int .i64 0, HV.v (.slice none 0 0)]), (16019, v4, .arr eInt.k 3 (eInt.E a6.2))]⟩) (le_q rfl rfl) ?_
  clear hK K
  refine AW.rg rfl fun K hK => ?_
  refine mv rfl rfl ?_
  refine mv rfl rfl ?_
  refine mv rfl rfl ?_
  obtain ⟨x10, h11, h⟩ := bS h
  refine bv rfl (v_idxA ty30 es30 rfl rfl (idx_lt h11) rfl) ?_
  refine b_op rfl (o_storeE eInt (l := a6.2) (j := a6.1) (v := a6.1) rfl rfl rfl ty3 rfl rfl rfl (idx_lt h11) ?_)
  refine b_fin hK (s' := ⟨[(1, HV.fptr [HV.int .i64 p0.1, HV.int .i64 p0.2.1, slE eFromLabelTo p0.2.2] 0), (2, HV.ptr 16002 v1 0), (5, HV.ar 16019 v4 eInt.k 0 (((a6.2).set (a6.1).toNat a6.1).length)), (21, HV.int .i64 (((List.replicate (p0.2.1).toNat (0 : Int)).length : Nat) : Int)), (22, HV.int .i64 a6.1)], [(16002, v1, .arr 3 24 [HV.int .i64 0, HV.int .i64 0, HV.v (.slice none 0 0)]), (16019, v4, .arr eInt.k 3 (eInt.E ((a6.2).set (a6.1).toNat a6.1)))]⟩) (AS.le_of ⟨rfl, rfl, arl (by first | rfl | simp only [List.length_set, sortI_len, sortS_len]), rfl, rfl, trivial⟩ ⟨rfl, rfl, trivial⟩) ?_
  clear hK K
  refine AW.rg rfl fun K hK => ?_
  refine bv rfl (v_bin rfl rfl b_add) ?_
  refine mv rfl rfl ?_
  refine b_nil (hK _ ?_)
  clear hK K
  exact to_le (s' := ⟨[(1, HV.fptr [HV.int .i64 p0.1, HV.int .i64 p0.2.1, slE eFromLabelTo p0.2.2] 0), (2, HV.ptr 16002 v1 0), (5, HV.ar 16019 v4 eInt.k 0 (((a6.2).set (a6.1).toNat a6.1).length)), (21, HV.int .i64 (((List.replicate (p0.2.1).toNat (0 : Int)).length : Nat) : Int)), (22, HV.int .i64 (IntKind.wrap .i64 (a6.1 + 1)))], [(16002, v1, .arr 3 24 [HV.int .i64 0, HV.int .i64 0, HV.v (.slice none 0 0)]), (16019, v4, .arr eInt.k 3 (eInt.E ((a6.2).set (a6.1).toNat a6.1)))]⟩) (AS.le_of ⟨rfl, rfl, rfl, rfl, rfl, trivial⟩ ⟨rfl, rfl, trivial⟩) ⟨(IntKind.wrap .i64 (a6.1 + 1), (a6.2).set (a6.1).toNat a6.1), (), h, rfl⟩
 have hc := of_decide_eq_false hc
 have h := ifF hc h
 refine AW.exit ?_
 exact to_le (s' := ⟨[(1, HV.fptr [HV.int .i64 p0.1, HV.int .i64 p0.2.1, slE eFromLabelTo p0.2.2] 0), (2, HV.ptr 16002 v1 0), (5, HV.ar 16019 v4 eInt.k 0 ((a6.2).length))], [(16002, v1, .arr 3 24 [HV.int .i64 0, HV.int .i64 0, HV.v (.slice none 0 0)]), (16019, v4, .arr eInt.k 3 (eInt.E a6.2))]⟩) (AS.le_of ⟨rfl, rfl, rfl, trivial⟩ ⟨rfl, rfl, trivial⟩) ⟨a6.2, (), h, rfl⟩

set_option maxHeartbeats 1600000 in
set_option maxRecDepth 100000 in
theorem w_subset_Focus {p0 : TLabelsStatesEdges} {r : (List (Int)) × Int × Bool × Int} (h : m_subset_Focus p0 = some r) : Pure Tryd.prog 11 [HV.agg [HV.int .i64 p0.1, HV.int .i64 p0.2.1, slE eFromLabelTo p0.2.2]] (· = HV.tup [slE eInt r.1, HV.int .i64 r.2.1, HV.bool r.2.2.1, HV.int .i64 r.2.2.2]) := by
 unfold m_subset_Focus at h
 refine Pure.of_body Tryd.func11 rfl rfl (Nat.le_of_ble_eq_true rfl) fun hf => ?_
 unfold Tryd.f11
 dsimp only [enumS, Nat.reduceAdd]
 refine AW.rgs rfl fun K hK => ?_
 refine b_op rfl (o_box rfl rfl rfl ?_)
 refine mv rfl rfl ?_
 refine mv rfl rfl ?_
 refine mv rfl rfl ?_
 refine mv rfl rfl ?_
 refine b_fin hK (s' := ⟨[(1, HV.fptr [HV.int .i64 p0.1, HV.int .i64 p0.2.1, slE eFromLabelTo p0.2.2] 0)], []⟩) (le_q rfl rfl) ?_
 clear hK K
 refine AW.rgs rfl fun K hK => ?_
 refine bv rfl (v_loadF ty24 rfl (l_litA rfl (Nat.le_of_ble_eq_true rfl) rfl)) ?_
 obtain ⟨x1, h2, h⟩ := bS h
 refine b_op rfl (o_call rfl rfl rfl rfl (ACallD.pure0 (w_subset_Build h2)) ?_)
 refine mv rfl rfl ?_
 refine bv rfl (v_extract rfl rfl) ?_
 refine bv rfl (v_extract rfl rfl) ?_
 refine bv rfl (v_extract rfl rfl) ?_
 refine b_op rfl (o_alloc (fid := 11) (zs := [HV.int .i64 0, HV.int .i64 0, HV.v (.slice none 0 0)]) 11006 rfl rfl ty24 rfl (fun v3 => ?_))
 refine b_op rfl (o_store (cs := [HV.int .i64 x1.1.1, HV.int .i64 x1.1.2.1, slE eFromLabelTo x1.1.2.2]) (zs := [HV.int .i64 x1.1.1, HV.int .i64 x1.1.2.1, slE eFromLabelTo x1.1.2.2]) rfl rfl rfl ty24 rfl rfl rfl rfl rfl ?_)
 refine mv rfl rfl ?_
 refine mv rfl rfl ?_
 refine b_fin hK (s' := ⟨[(6, HV.ptr 11006 v3 0), (7, slE (eSl eInt) x1.2.1), (8, HV.int .i64 x1.2.2)], [(11006, v3, .arr 3 24 [HV.int .i64 x1.1.1, HV.int .i64 x1.1.2.1, slE eFromLabelTo x1.1.2.2])]⟩) (le_q rfl rfl) ?_
 clear hK K
 refine AW.seq ?_
 refine AW.seqJ h (S := Bool) (V := Unit) (fun a v => ⟨[(6, HV.ptr 11006 v3 0), (7, slE (eSl eInt) x1.2.1), (8, HV.int .i64 x1.2.2), (26, HV.bool a)], [(11006, v3, .arr 3 24 [HV.int .i64 x1.1.1, HV.int .i64 x1.1.2.1, slE eFromLabelTo x1.1.2.2])]⟩) (fun a4 w5 h => ?_) (fun k6 h => ?_)
 ·refine AW.cond rfl (fun hc => ?_) (fun hc => ?_)
  ·have h := ifT hc h
   refine AW.rgs rfl fun K hK => ?_
   refine mv rfl rfl ?_
   refine mv rfl rfl ?_
   refine mv rfl rfl ?_
   refine mv rfl rfl ?_
   refine mv rfl rfl ?_
   refine b_fin hK (s' := ⟨[(2, HV.v (.slice none 0 0)), (3, HV.int .i64 0), (4, HV.bool false), (5, HV.int .i64 x1.2.2)], []⟩) (le_q rfl rfl) ?_
   clear hK K
   refine AW.to (to_weak ⟨[(2, slE eInt ([] : List Int)), (3, HV.int .i64 0), (4, HV.bool false), (5, HV.int .i64 x1.2.2)], []⟩ ⟨⟨_, rfl, .nil _⟩, ⟨_, rfl, .refl _⟩, ⟨_, rfl, .refl _⟩, ⟨_, rfl, .refl _⟩, trivial⟩ trivial ?_)
   refine AW.ret ?_
   have h := Option.some.inj h
   subst h
   exact ret_pure (hs := [slE eInt ([] : List Int), HV.int .i64 0, HV.bool false, HV.int .i64 x1.2.2]) (q := HV.tup [slE eInt ([] : List Int), HV.int .i64 0, HV.bool false, HV.int .i64 x1.2.2]) (.inr rfl) (resT rfl (resT rfl (resT rfl (resT rfl rfl)))) rfl ⟨(clean_slE fun _ _ => ⟨trivial, trivial⟩), trivial, trivial, trivial, trivial⟩
  have h := ifF (bF' hc) h
  refine AW.skip ?_
  refine AW.rgs rfl fun K hK => ?_
  refine bv rfl (v_fieldAddrP fo24_1 rfl rfl) ?_
  refine bv rfl (v_loadP ty3 rfl rfl (l_lit rfl rfl)) ?_
  obtain ⟨h8, h⟩ := ifN h
  refine b_op rfl (o_makeN (fid := 11) eInt 11030 rfl rfl ty39 rfl rfl ty30 rfl rfl h8 (fun v7 => ?_))
  refine mv rfl rfl ?_
  refine b_fin hK (s' := ⟨[(6, HV.ptr 11006 v3 0), (7, slE (eSl eInt) x1.2.1), (9, HV.ar 11030 v7 (eSl eInt).k 0 ((List.replicate (x1.1.2.1).toNat ([] : List (Int))).length))], [(11006, v3, .arr 3 24 [HV.int .i64 x1.1.1, HV.int .i64 x1.1.2.1, slE eFromLabelTo x1.1.2.2]), (11030, v7, .arr (eSl eInt).k 30 ((eSl eInt).E (List.replicate (x1.1.2.1).toNat ([] : List (Int)))))]⟩) (le_q rfl rfl) ?_
  clear hK K
  refine AW.seq ?_
  refine AW.rgs rfl fun K hK => ?_
  refine mv rfl rfl ?_
  refine mv rfl rfl ?_
  refine b_fin hK (s' := ⟨[(6, HV.ptr 11006 v3 0), (7, slE (eSl eInt) x1.2.1), (9, HV.ar 11030 v7 (eSl eInt).k 0 ((List.replicate (x1.1.2.1).toNat ([] : List (Int))).length)), (10, HV.int .i64 0), (11, HV.int .i64 1)], [(11006, v3, .arr 3 24 [HV.int .i64 x1.1.1, HV.int .i64 x1.1.2.1, slE eFromLabelTo x1.1.2.2]), (11030, v7, .arr (eSl eInt).k 30 ((eSl eInt).E (List.replicate (x1.1.2.1).toNat ([] : List (Int)))))]⟩) (le_q rfl rfl) ?_
  clear hK K
  refine AW.lpR h (by first | exact up_then | exact up_to) (S := Int × Int × (List (List (Int)))) (V := Unit) (fun a v => ⟨[(6, HV.ptr 11006 v3 0), (7, slE (eSl eInt) x1.2.1), (9, HV.ar 11030 v7 (eSl eInt).k 0 ((a.2.2).length)), (10, HV.int .i64 a.1), (11, HV.int .i64 a.2.1)], [(11006, v3, .arr 3 24 [HV.int .i64 x1.1.1, HV.int .i64 x1.1.2.1, slE eFromLabelTo x1.1.2.2]), (11030, v7, .arr (eSl eInt).k 30 ((eSl eInt).E a.2.2))]⟩) ?_ (X := Unit) (W := Unit) (fun a v => ⟨[], []⟩) (fun a40 w41 h => ?_) (fun a9 w10 st11 h hr12=> ?_)
  ·exact to_le (s' := ⟨[(6, HV.ptr 11006 v3 0), (7, slE (eSl eInt) x1.2.1), (9, HV.ar 11030 v7 (eSl eInt).k 0 ((List.replicate (x1.1.2.1).toNat ([] : List (Int))).length)), (10, HV.int .i64 0), (11, HV.int .i64 1)], [(11006, v3, .arr 3 24 [HV.int .i64 x1.1.1, HV.int .i64 x1.1.2.1, slE eFromLabelTo x1.1.2.2]), (11030, v7, .arr (eSl eInt).k 30 ((eSl eInt).E (List.replicate (x1.1.2.1).toNat ([] : List (Int)))))]⟩) (AS.le_of ⟨rfl, rfl, rfl, rfl, rfl, trivial⟩ ⟨rfl, rfl, trivial⟩) ⟨(), rfl⟩
  ·refine AW.rgs rfl fun K hK => ?_
   refine mv rfl rfl ?_
   refine mv rfl rfl ?_
   refine mv rfl rfl ?_
   refine mv rfl rfl ?_
   refine b_fin hK (s' := ⟨[(2, HV.v (.slice none 0 0)), (3, HV.int .i64 0), (4, HV.bool false), (5, HV.int .i64 0)], []⟩) (le_q rfl rfl) ?_
   clear hK K
   refine AW.to (to_weak ⟨[(2, slE eInt ([] : List Int)), (3, HV.int .i64 0), (4, HV.bool false), (5, HV.int .i64 0)], []⟩ ⟨⟨_, rfl, .nil _⟩, ⟨_, rfl, .refl _⟩, ⟨_, rfl, .refl _⟩, ⟨_, rfl, .refl _⟩, trivial⟩ trivial ?_)
   refine AW.ret ?_
   have h := Option.some.inj h
   subst h
   exact ret_pure (hs := [slE eInt ([] : List Int), HV.int .i64 0, HV.bool false, HV.int .i64 0]) (q := HV.tup [slE eInt ([] : List Int), HV.int .i64 0, HV.bool false, HV.int .i64 0]) (.inr rfl) (resT rfl (resT rfl (resT rfl (resT rfl rfl)))) rfl ⟨(clean_slE fun _ _ => ⟨trivial, trivial⟩), trivial, trivial, trivial, trivial⟩
  refine AW.seq ?_
  refine AW.rgs rfl fun K hK => ?_
  refine mv rfl rfl ?_
  refine bv rfl (v_fieldAddrP fo24_1 rfl rfl) ?_
  refine bv rfl (v_loadP ty3 rfl rfl (l_lit rfl rfl)) ?_
  refine bv rfl (v_bin rfl rfl b_lss) ?_
  refine b_fin hK (s' := ⟨[(6, HV.ptr 11006 v3 0), (7, slE (eSl eInt) x1.2.1), (9, HV.ar 11030 v7 (eSl eInt).k 0 ((a9.2.2).length)), (10, HV.int .i64 a9.1), (11, HV.int .i64 a9.2.1), (34, HV.bool (decide (a9.1 < x1.1.2.1)))], [(11006, v3, .arr 3 24 [HV.int .i64 x1.1.1, HV.int .i64 x1.1.2.1, slE eFromLabelTo x1.1.2.2]), (11030, v7, .arr (eSl eInt).k 30 ((eSl eInt).E a9.2.2))]⟩) (le_q rfl rfl) ?_
  clear hK K
  refine AW.cond rfl (fun hc => ?_) (fun hc => ?_)
  ·have hc := of_decide_eq_true hc
   have h := ifT hc h
   refine AW.skip ?_
   refine AW.seq (AW.block ?_)
   refine AW.seq ?_
   refine AW.rgs rfl fun K hK => ?_
   refine mv rfl rfl ?_
   refine mv rfl rfl ?_
   obtain ⟨x13, h14, h⟩ := bS h
   refine bv rfl (v_idxF ty39 es39 rfl rfl (idx_lt h14)) ?_
   refine bv rfl (v_loadF ty30 rfl (l_cell (eSl eInt) h14 (o := 0) rfl rfl)) ?_
   refine bv rfl (v_lenF rfl rfl ty30 rfl) ?_
   refine bv rfl (v_bin rfl rfl b_eql) ?_
   refine b_fin hK (s' := ⟨[(6, HV.ptr 11006 v3 0), (7, slE (eSl eInt) x1.2.1), (9, HV.ar 11030 v7 (eSl eInt).k 0 ((a9.2.2).length)), (10, HV.int .i64 a9.1), (11, HV.int .i64 a9.2.1), (42, HV.bool (decide (((x13).length : Int) = 1)))], [(11006, v3, .arr 3 24 [HV.int .i64 x1.1.1, HV.int .i64 x1.1.2.1, slE eFromLabelTo x1.1.2.2]), (11030, v7, .arr (eSl eInt).k 30 ((eSl eInt).E a9.2.2))]⟩) (le_q rfl rfl) ?_
   clear hK K
   refine AW.cond rfl (fun hc => ?_) (fun hc => ?_)
   ·have hc := of_decide_eq_true hc
    have h := ifT hc h
    refine AW.dgs 14 follows rfl rfl fun K hK => ?_
    refine sm rfl rfl ?_
    refine sm rfl rfl ?_
    obtain ⟨x15, h16, h⟩ := bS h
    refine sv rfl (v_idxA ty39 es39 rfl rfl (idx_lt h16) rfl) ?_
    obtain ⟨x17, h18, h⟩ := bS h
    refine sv rfl (v_loadP ty30 rfl rfl (l_cell (eSl eInt) h18 (o := 0) rfl rfl)) ?_
    refine sm rfl rfl ?_
    refine sm rfl rfl ?_
    obtain ⟨x19, h20, h⟩ := bS h
    refine sv rfl (v_idxF ty39 es39 rfl rfl (idx_lt h20)) ?_
    refine sv rfl (v_loadF ty30 rfl (l_cell (eSl eInt) h20 (o := 0) rfl rfl)) ?_
    obtain ⟨x21, h22, h⟩ := bS h
    refine sv rfl (v_idxF ty30 es30 rfl rfl (idx_lt h22)) ?_
    refine sv rfl (v_loadF ty3 rfl (l_cell eInt h22 (o := 0) rfl rfl)) ?_
    refine sm rfl rfl ?_
    refine sm rfl rfl ?_
    refine sm rfl rfl ?_
    refine sm rfl rfl ?_
    refine s_nil ?_
    refine b_fin hK (s' := ⟨[(2, slE eInt x17), (3, HV.int .i64 x21), (4, HV.bool true), (5, HV.int .i64 0)], []⟩) (le_q rfl rfl) ?_
    clear hK K
    have h := hr12 _ h
    refine AW.ret ?_
    have h := Option.some.inj h
    subst h
    exact ret_pure (hs := [slE eInt x17, HV.int .i64 x21, HV.bool true, HV.int .i64 0]) (q := HV.tup [slE eInt x17, HV.int .i64 x21, HV.bool true, HV.int .i64 0]) (.inr rfl) (resT rfl (resT rfl (resT rfl (resT rfl rfl)))) rfl ⟨(clean_slE fun _ _ => ⟨trivial, trivial⟩), trivial, trivial, trivial, trivial⟩
   have hc := of_decide_eq_false hc
   have h := ifF hc h
   refine AW.skip ?_
   refine AW.rgs rfl fun K hK => ?_
   refine bv rfl (v_fieldAddrP fo24_2 rfl rfl) ?_
   refine bv rfl (v_loadP ty22 rfl rfl (l_lit rfl rfl)) ?_
   refine bv rfl (v_lenF rfl rfl ty22 rfl) ?_
   refine mv rfl rfl ?_
   refine b_fin hK (s' := ⟨[(6, HV.ptr 11006 v3 0), (7, slE (eSl eInt) x1.2.1), (9, HV.ar 11030 v7 (eSl eInt).k 0 ((a9.2.2).length)), (10, HV.int .i64 a9.1), (11, HV.int .i64 a9.2.1), (54, slE eFromLabelTo x1.1.2.2), (55, HV.int .i64 ((x1.1.2.2).length : Int)), (56, HV.int .i64 0)], [(11006, v3, .arr 3 24 [HV.int .i64 x1.1.1, HV.int .i64 x1.1.2.1, slE eFromLabelTo x1.1.2.2]), (11030, v7, .arr (eSl eInt).k 30 ((eSl eInt).E a9.2.2))]⟩) (le_q rfl rfl) ?_
   clear hK K
   refine AW.lpX h (by first | exact up_then | exact up_to) (S := Int × Int × (List (List (Int)))) (V := Unit) (fun a v => ⟨[(6, HV.ptr 11006 v3 0), (7, slE (eSl eInt) x1.2.1), (9, HV.ar 11030 v7 (eSl eInt).k 0 ((a.2.2).length)), (10, HV.int .i64 a9.1), (11, HV.int .i64 a.1), (54, slE eFromLabelTo x1.1.2.2), (55, HV.int .i64 ((x1.1.2.2).length : Int)), (56, HV.int .i64 a.2.1)], [(11006, v3, .arr 3 24 [HV.int .i64 x1.1.1, HV.int .i64 x1.1.2.1, slE eFromLabelTo x1.1.2.2]), (11030, v7, .arr (eSl eInt).k 30 ((eSl eInt).E a.2.2))]⟩) ?_ (X := (List (List (Int))) × Int) (W := Unit) (fun a v => ⟨[(6, HV.ptr 11006 v3 0), (7, slE (eSl eInt) x1.2.1), (9, HV.ar 11030 v7 (eSl eInt).k 0 ((a.1).length)), (10, HV.int .i64 a9.1), (11, HV.int .i64 a.2)], [(11006, v3, .arr 3 24 [HV.int .i64 x1.1.1, HV.int .i64 x1.1.2.1, slE eFromLabelTo x1.1.2.2]), (11030, v7, .arr (eSl eInt).k 30 ((eSl eInt).E a.1))]⟩) (fun a38 w39 h => ?_) (fun a23 w24 st25 h => ?_)
   ·exact to_le (s' := ⟨[(6, HV.ptr 11006 v3 0), (7, slE (eSl eInt) x1.2.1), (9, HV.ar 11030 v7 (eSl eInt).k 0 ((a9.2.2).length)), (10, HV.int .i64 a9.1), (11, HV.int .i64 a9.2.1), (54, slE eFromLabelTo x1.1.2.2), (55, HV.int .i64 ((x1.1.2.2).length : Int)), (56, HV.int .i64 0)], [(11006, v3, .arr 3 24 [HV.int .i64 x1.1.1, HV.int .i64 x1.1.2.1, slE eFromLabelTo x1.1.2.2]), (11030, v7, .arr (eSl eInt).k 30 ((eSl eInt).E a9.2.2))]⟩) (AS.le_of ⟨rfl, rfl, rfl, rfl, rfl, rfl, rfl, rfl, trivial⟩ ⟨rfl, rfl, trivial⟩) ⟨(), rfl⟩
   ·refine AW.rg rfl fun K hK => ?_
    refine mv rfl rfl ?_
    refine bv rfl (v_bin rfl rfl b_add) ?_
    refine mv rfl rfl ?_
    refine b_nil (hK _ ?_)
    clear hK K
    exact to_le (s' := ⟨[(6, HV.ptr 11006 v3 0), (7, slE (eSl eInt) x1.2.1), (9, HV.ar 11030 v7 (eSl eInt).k 0 ((a38.1).length)), (10, HV.int .i64 (IntKind.wrap .i64 (a9.1 + 1))), (11, HV.int .i64 a38.2)], [(11006, v3, .arr 3 24 [HV.int .i64 x1.1.1, HV.int .i64 x1.1.2.1, slE eFromLabelTo x1.1.2.2]), (11030, v7, .arr (eSl eInt).k 30 ((eSl eInt).E a38.1))]⟩) (AS.le_of ⟨rfl, rfl, rfl, rfl, rfl, trivial⟩ ⟨rfl, rfl, trivial⟩) ⟨(IntKind.wrap .i64 (a9.1 + 1), a38.2, a38.1), (), h, rfl⟩
   refine AW.rgs rfl fun K hK => ?_
   refine bv rfl (v_bin rfl rfl b_lss) ?_
   refine b_fin hK (s' := ⟨[(6, HV.ptr 11006 v3 0), (7, slE (eSl eInt) x1.2.1), (9, HV.ar 11030 v7 (eSl eInt).k 0 ((a23.2.2).length)), (10, HV.int .i64 a9.1), (11, HV.int .i64 a23.1), (54, slE eFromLabelTo x1.1.2.2), (55, HV.int .i64 ((x1.1.2.2).length : Int)), (56, HV.int .i64 a23.2.1), (57, HV.bool (decide (a23.2.1 < ((x1.1.2.2).length : Int))))], [(11006, v3, .arr 3 24 [HV.int .i64 x1.1.1, HV.int .i64 x1.1.2.1, slE eFromLabelTo x1.1.2.2]), (11030, v7, .arr (eSl eInt).k 30 ((eSl eInt).E a23.2.2))]⟩) (le_q rfl rfl) ?_
   clear hK K
   refine AW.cseq rfl (fun hc => ?_) (fun hc => ?_)
   ·have hc := of_decide_eq_true hc
    have h := ifT hc h
    refine AW.skip ?_
    refine AW.seqJ h (S := Int × (List (List (Int)))) (V := Unit) (fun a v => ⟨[(6, HV.ptr 11006 v3 0), (7, slE (eSl eInt) x1.2.1), (9, HV.ar 11030 v7 (eSl eInt).k 0 ((a.2).length)), (10, HV.int .i64 a9.1), (11, HV.int .i64 a.1), (54, slE eFromLabelTo x1.1.2.2), (55, HV.int .i64 ((x1.1.2.2).length : Int)), (56, HV.int .i64 a23.2.1)], [(11006, v3, .arr 3 24 [HV.int .i64 x1.1.1, HV.int .i64 x1.1.2.1, slE eFromLabelTo x1.1.2.2]), (11030, v7, .arr (eSl eInt).k 30 ((eSl eInt).E a.2))]⟩) (fun a27 w28 h => ?_) (fun k29 h => ?_)
    ·refine AW.rg rfl fun K hK => ?_
     refine bv rfl (v_bin rfl rfl b_add) ?_
     refine mv rfl rfl ?_
     refine b_nil (hK _ ?_)
     clear hK K
     exact to_le (s' := ⟨[(6, HV.ptr 11006 v3 0), (7, slE (eSl eInt) x1.2.1), (9, HV.ar 11030 v7 (eSl eInt).k 0 ((a27.2).length)), (10, HV.int .i64 a9.1), (11, HV.int .i64 a27.1), (54, slE eFromLabelTo x1.1.2.2), (55, HV.int .i64 ((x1.1.2.2).length : Int)), (56, HV.int .i64 (IntKind.wrap .i64 (a23.2.1 + 1)))], [(11006, v3, .arr 3 24 [HV.int .i64 x1.1.1, HV.int .i64 x1.1.2.1, slE eFromLabelTo x1.1.2.2]), (11030, v7, .arr (eSl eInt).k 30 ((eSl eInt).E a27.2))]⟩) (AS.le_of ⟨rfl, rfl, rfl, rfl, rfl, rfl, rfl, rfl, trivial⟩ ⟨rfl, rfl, trivial⟩) ⟨(a27.1, IntKind.wrap .i64 (a23.2.1 + 1), a27.2), (), h, rfl⟩
    refine AW.block ?_
    refine AW.rgs rfl fun K hK => ?_
    obtain ⟨x30, h31, h⟩ := bS h
    refine bv rfl (v_idxF ty22 es22 rfl rfl (idx_lt h31)) ?_
    refine bv rfl (v_loadF ty49 rfl (l_agg eFromLabelTo h31 rfl rfl)) ?_
    refine b_op rfl (o_alloc (fid := 11) (zs := [HV.int .i64 0, HV.int .i64 0, HV.int .i64 0]) 11013 rfl rfl ty49 rfl (fun v32 => ?_))
    refine b_op rfl (o_store (cs := [HV.int .i64 x30.1, HV.int .i64 x30.2.1, HV.int .i64 x30.2.2]) (zs := [HV.int .i64 x30.1, HV.int .i64 x30.2.1, HV.int .i64 x30.2.2]) rfl rfl rfl ty49 rfl rfl rfl rfl rfl ?_)
    refine b_fin hK (s' := ⟨[(6, HV.ptr 11006 v3 0), (7, slE (eSl eInt) x1.2.1), (9, HV.ar 11030 v7 (eSl eInt).k 0 ((a23.2.2).length)), (10, HV.int .i64 a9.1), (11, HV.int .i64 a23.1), (13, HV.ptr 11013 v32 0), (54, slE eFromLabelTo x1.1.2.2), (55, HV.int .i64 ((x1.1.2.2).length : Int)), (56, HV.int .i64 a23.2.1)], [(11006, v3, .arr 3 24 [HV.int .i64 x1.1.1, HV.int .i64 x1.1.2.1, slE eFromLabelTo x1.1.2.2]), (11030, v7, .arr (eSl eInt).k 30 ((eSl eInt).E a23.2.2)), (11013, v32, .arr 3 49 [HV.int .i64 x30.1, HV.int .i64 x30.2.1, HV.int .i64 x30.2.2])]⟩) (le_q rfl rfl) ?_
    clear hK K
    refine AW.seqJ h (S := Bool) (V := Unit) (fun a v => ⟨[(6, HV.ptr 11006 v3 0), (7, slE (eSl eInt) x1.2.1), (9, HV.ar 11030 v7 (eSl eInt).k 0 ((a23.2.2).length)), (10, HV.int .i64 a9.1), (11, HV.int .i64 a23.1), (13, HV.ptr 11013 v32 0), (54, slE eFromLabelTo x1.1.2.2), (55, HV.int .i64 ((x1.1.2.2).length : Int)), (56, HV.int .i64 a23.2.1), (69, HV.bool a)], [(11006, v3, .arr 3 24 [HV.int .i64 x1.1.1, HV.int .i64 x1.1.2.1, slE eFromLabelTo x1.1.2.2]), (11013, v32, .arr 3 49 [HV.int .i64 x30.1, HV.int .i64 x30.2.1, HV.int .i64 x30.2.2]), (11030, v7, .arr (eSl eInt).k 30 ((eSl eInt).E a23.2.2))]⟩) (fun a33 w34 h => ?_) (fun k35 h => ?_)
    ·refine AW.cond rfl (fun hc => ?_) (fun hc => ?_)
     ·have h := ifT hc h
      refine AW.dls follows fun K hK F hF => ?_
      obtain ⟨x360401, h360402, h⟩ := bS h
      obtain ⟨x360501, h360502, h⟩ := bS h
      obtain ⟨x360601, h360602, h⟩ := bS h
      obtain ⟨h361002, h⟩ := ifN h
      obtain ⟨x361101, h361102, h⟩ := bS h
      refine l_go (L' := []) hF rfl (s' := ⟨[(6, HV.ptr 11006 v3 0), (7, slE (eSl eInt) x1.2.1), (9, HV.ar 11030 v7 (eSl eInt).k 0 ((a23.2.2).length)), (10, HV.int .i64 a9.1), (11, HV.int .i64 a23.1), (13, HV.ptr 11013 v32 0), (54, slE eFromLabelTo x1.1.2.2), (55, HV.int .i64 ((x1.1.2.2).length : Int)), (56, HV.int .i64 a23.2.1)], [(11006, v3, .arr 3 24 [HV.int .i64 x1.1.1, HV.int .i64 x1.1.2.1, slE eFromLabelTo x1.1.2.2]), (11013, v32, .arr 3 49 [HV.int .i64 x30.1, HV.int .i64 x30.2.1, HV.int .i64 x30.2.2]), (11030, v7, .arr (eSl eInt).k 30 ((eSl eInt).E a23.2.2))]⟩) ?_ (le_q rfl rfl)
      have g36_15 : ∀ (v361001 : Nat), F [0, 1, 2, 3, 4, 5, 6, 7, 8, 9, 10, 11, 12] ⟨[(6, HV.ptr 11006 v3 0), (7, slE (eSl eInt) x1.2.1), (9, HV.ar 11030 v7 (eSl eInt).k 0 ((a23.2.2).length)), (10, HV.int .i64 a9.1), (11, HV.int .i64 a23.1), (54, slE eFromLabelTo x1.1.2.2), (55, HV.int .i64 ((x1.1.2.2).length : Int)), (56, HV.int .i64 a23.2.1)], [(11006, v3, .arr 3 24 [HV.int .i64 x1.1.1, HV.int .i64 x1.1.2.1, slE eFromLabelTo x1.1.2.2]), (11013, v32, .arr 3 49 [HV.int .i64 x30.1, HV.int .i64 x30.2.1, HV.int .i64 x30.2.2]), (11030, v7, .arr (eSl eInt).k 30 (((eSl eInt).E a23.2.2).set (a23.1).toNat (HV.ar 11076 v361001 eInt.k 0 ((x360601 ++ [x30.2.1]).length)))), (11076, v361001, .arr eInt.k 3 (eInt.E (x360601 ++ [x30.2.1])))]⟩ := by
       intro v361001
       refine l_done hF rfl rfl (hK _ (AW.to (to_le (s' := ⟨[(6, HV.ptr 11006 v3 0), (7, slE (eSl eInt) x1.2.1), (9, HV.ar 11030 v7 (eSl eInt).k 0 ((a23.2.2).length)), (10, HV.int .i64 a9.1), (11, HV.int .i64 a23.1), (54, slE eFromLabelTo x1.1.2.2), (55, HV.int .i64 ((x1.1.2.2).length : Int)), (56, HV.int .i64 a23.2.1)], [(11006, v3, .arr 3 24 [HV.int .i64 x1.1.1, HV.int .i64 x1.1.2.1, slE eFromLabelTo x1.1.2.2]), (11030, v7, .arr (eSl eInt).k 30 (((eSl eInt).E a23.2.2).set (a23.1).toNat (HV.ar 11076 v361001 eInt.k 0 ((x360601 ++ [x30.2.1]).length)))), (11076, v361001, .arr eInt.k 3 (eInt.E (x360601 ++ [x30.2.1])))]⟩) (le_q rfl rfl) ?_)))
       first | clear hF F hK K | clear hK K
       refine AW.rg rfl fun K hK => ?_
       refine mv rfl rfl ?_
       refine bv rfl (v_bin rfl rfl b_add) ?_
       refine mv rfl rfl ?_
       refine b_nil (hK _ ?_)
       first | clear hF F hK K | clear hK K
       refine to_bind (to_fill 2 [(11076, v361001, .arr eInt.k 3 (eInt.E (x360601 ++ [x30.2.1])))] ⟨[(6, HV.ptr 11006 v3 0), (7, slE (eSl eInt) x1.2.1), (9, HV.ar 11030 v7 (eSl eInt).k 0 ((a23.2.2).length)), (10, HV.int .i64 a9.1), (11, HV.int .i64 (IntKind.wrap .i64 (a23.1 + 1))), (54, slE eFromLabelTo x1.1.2.2), (55, HV.int .i64 ((x1.1.2.2).length : Int)), (56, HV.int .i64 a23.2.1)], [(11006, v3, .arr 3 24 [HV.int .i64 x1.1.1, HV.int .i64 x1.1.2.1, slE eFromLabelTo x1.1.2.2]), (11030, v7, .arr (eSl eInt).k 30 ((eSl eInt).E ((a23.2.2).set (a23.1).toNat (x360601 ++ [x30.2.1]))))]⟩ ⟨⟨_, rfl, rfl⟩, ⟨_, rfl, rfl⟩, ⟨_, rfl, rfl⟩, ⟨_, rfl, rfl⟩, ⟨_, rfl, rfl⟩, ⟨_, rfl, rfl⟩, ⟨_, rfl, rfl⟩, ⟨_, rfl, rfl⟩, trivial⟩ ⟨.inl rfl, .inr ⟨_, _, _, rfl, fill_obj (c := eInt) rfl rfl fun _ => rfl⟩, trivial⟩ ⟨rfl, trivial⟩ ⟨rfl, trivial⟩ ?_)
       exact to_le (s' := ⟨[(6, HV.ptr 11006 v3 0), (7, slE (eSl eInt) x1.2.1), (9, HV.ar 11030 v7 (eSl eInt).k 0 (((a23.2.2).set (a23.1).toNat (x360601 ++ [x30.2.1])).length)), (10, HV.int .i64 a9.1), (11, HV.int .i64 (IntKind.wrap .i64 (a23.1 + 1))), (54, slE eFromLabelTo x1.1.2.2), (55, HV.int .i64 ((x1.1.2.2).length : Int)), (56, HV.int .i64 a23.2.1)], [(11006, v3, .arr 3 24 [HV.int .i64 x1.1.1, HV.int .i64 x1.1.2.1, slE eFromLabelTo x1.1.2.2]), (11030, v7, .arr (eSl eInt).k 30 ((eSl eInt).E ((a23.2.2).set (a23.1).toNat (x360601 ++ [x30.2.1]))))]⟩) (AS.le_of ⟨rfl, rfl, arl (by first | rfl | simp only [List.length_set, sortI_len, sortS_len]), rfl, rfl, rfl, rfl, rfl, trivial⟩ ⟨rfl, rfl, trivial⟩) ⟨(IntKind.wrap .i64 (a23.1 + 1), (a23.2.2).set (a23.1).toNat (x360601 ++ [x30.2.1])), (), h, rfl⟩
      have g36_14 : ∀ (v361001 : Nat), F [0, 1, 2, 3, 4, 5, 6, 7, 8, 9, 10, 11] ⟨[(6, HV.ptr 11006 v3 0), (7, slE (eSl eInt) x1.2.1), (9, HV.ar 11030 v7 (eSl eInt).k 0 ((a23.2.2).length)), (10, HV.int .i64 a9.1), (11, HV.int .i64 a23.1), (54, slE eFromLabelTo x1.1.2.2), (55, HV.int .i64 ((x1.1.2.2).length : Int)), (56, HV.int .i64 a23.2.1), (80, HV.ar 11076 v361001 eInt.k 0 ((x360601 ++ [x30.2.1]).length)), (81, HV.ptr 11030 v7 ((a23.1).toNat * (eSl eInt).k))], [(11006, v3, .arr 3 24 [HV.int .i64 x1.1.1, HV.int .i64 x1.1.2.1, slE eFromLabelTo x1.1.2.2]), (11013, v32, .arr 3 49 [HV.int .i64 x30.1, HV.int .i64 x30.2.1, HV.int .i64 x30.2.2]), (11030, v7, .arr (eSl eInt).k 30 ((eSl eInt).E a23.2.2)), (11076, v361001, .arr eInt.k 3 (eInt.E (x360601 ++ [x30.2.1])))]⟩ := by
       intro v361001
       refine l_step hF rfl [12] rfl rfl ⟨?_, trivial⟩
       ·refine l_op rfl rfl rfl (o_storeH eInt (L := a23.2.2) (j := a23.1) rfl rfl rfl ty30 rfl rfl rfl (idx_lt h361102) ?_)
        exact b_nil (l_go hF rfl (g36_15 v361001) (le_q rfl rfl))
      have g36_13 : ∀ (v361001 : Nat), F [0, 1, 2, 3, 4, 5, 6, 7, 8, 9, 10] ⟨[(6, HV.ptr 11006 v3 0), (7, slE (eSl eInt) x1.2.1), (9, HV.ar 11030 v7 (eSl eInt).k 0 ((a23.2.2).length)), (10, HV.int .i64 a9.1), (11, HV.int .i64 a23.1), (54, slE eFromLabelTo x1.1.2.2), (55, HV.int .i64 ((x1.1.2.2).length : Int)), (56, HV.int .i64 a23.2.1), (70, HV.ar 11030 v7 (eSl eInt).k 0 ((a23.2.2).length)), (71, HV.int .i64 a23.1), (80, HV.ar 11076 v361001 eInt.k 0 ((x360601 ++ [x30.2.1]).length))], [(11006, v3, .arr 3 24 [HV.int .i64 x1.1.1, HV.int .i64 x1.1.2.1, slE eFromLabelTo x1.1.2.2]), (11013, v32, .arr 3 49 [HV.int .i64 x30.1, HV.int .i64 x30.2.1, HV.int .i64 x30.2.2]), (11030, v7, .arr (eSl eInt).k 30 ((eSl eInt).E a23.2.2)), (11076, v361001, .arr eInt.k 3 (eInt.E (x360601 ++ [x30.2.1])))]⟩ := by
       intro v361001
       refine l_take (i := 11) hF rfl rfl rfl (v_idxA ty39 es39 rfl rfl (idx_lt h361102) rfl) ?_
       exact l_go hF rfl (g36_14 v361001) (le_q rfl rfl)
      have g36_12 : ∀ (v360603 : Nat), F [0, 1, 2, 3, 4, 5, 6, 7, 8, 9] ⟨[(6, HV.ptr 11006 v3 0), (7, slE (eSl eInt) x1.2.1), (9, HV.ar 11030 v7 (eSl eInt).k 0 ((a23.2.2).length)), (10, HV.int .i64 a9.1), (11, HV.int .i64 a23.1), (54, slE eFromLabelTo x1.1.2.2), (55, HV.int .i64 ((x1.1.2.2).length : Int)), (56, HV.int .i64 a23.2.1), (70, HV.ar 11030 v7 (eSl eInt).k 0 ((a23.2.2).length)), (71, HV.int .i64 a23.1), (76, HV.ar 11076 v360603 eInt.k 0 ((x360601).length)), (79, slE eInt [x30.2.1])], [(11006, v3, .arr 3 24 [HV.int .i64 x1.1.1, HV.int .i64 x1.1.2.1, slE eFromLabelTo x1.1.2.2]), (11013, v32, .arr 3 49 [HV.int .i64 x30.1, HV.int .i64 x30.2.1, HV.int .i64 x30.2.2]), (11030, v7, .arr (eSl eInt).k 30 ((eSl eInt).E a23.2.2)), (11076, v360603, .arr eInt.k 3 (eInt.E x360601))]⟩ := by
       intro v360603
       refine l_step hF rfl [10] rfl rfl ⟨?_, trivial⟩
       ·refine l_op rfl rfl rfl (o_appE eInt (l := x360601) (m := [x30.2.1]) rfl rfl ty30 ty30 ty3 rfl rfl rfl rfl rfl h361002 (fun v361001 => ?_))
        exact b_nil (l_go hF rfl (g36_13 v361001) (le_q rfl rfl))
      have g36_11 : F [0, 1, 2, 3, 4, 5, 7, 8, 9] ⟨[(6, HV.ptr 11006 v3 0), (7, slE (eSl eInt) x1.2.1), (9, HV.ar 11030 v7 (eSl eInt).k 0 ((a23.2.2).length)), (10, HV.int .i64 a9.1), (11, HV.int .i64 a23.1), (54, slE eFromLabelTo x1.1.2.2), (55, HV.int .i64 ((x1.1.2.2).length : Int)), (56, HV.int .i64 a23.2.1), (70, HV.ar 11030 v7 (eSl eInt).k 0 ((a23.2.2).length)), (71, HV.int .i64 a23.1), (75, slE eInt x360501), (79, slE eInt [x30.2.1])], [(11006, v3, .arr 3 24 [HV.int .i64 x1.1.1, HV.int .i64 x1.1.2.1, slE eFromLabelTo x1.1.2.2]), (11013, v32, .arr 3 49 [HV.int .i64 x30.1, HV.int .i64 x30.2.1, HV.int .i64 x30.2.2]), (11030, v7, .arr (eSl eInt).k 30 ((eSl eInt).E a23.2.2))]⟩ := by
       refine l_step hF rfl [6] rfl rfl ⟨?_, trivial⟩
       ·refine l_op rfl rfl rfl (o_callA rfl rfl rfl rfl (c_cloneO 11076 h360602 fun v360603 => ?_) )
        exact b_nil (l_go hF rfl (g36_12 v360603) (le_q rfl rfl))
      have g36_16 : ∀ (v360603 : Nat), F [0, 1, 2, 3, 4, 5, 6, 7, 8] ⟨[(6, HV.ptr 11006 v3 0), (7, slE (eSl eInt) x1.2.1), (9, HV.ar 11030 v7 (eSl eInt).k 0 ((a23.2.2).length)), (10, HV.int .i64 a9.1), (11, HV.int .i64 a23.1), (54, slE eFromLabelTo x1.1.2.2), (55, HV.int .i64 ((x1.1.2.2).length : Int)), (56, HV.int .i64 a23.2.1), (70, HV.ar 11030 v7 (eSl eInt).k 0 ((a23.2.2).length)), (71, HV.int .i64 a23.1), (76, HV.ar 11076 v360603 eInt.k 0 ((x360601).length)), (78, HV.int .i64 x30.2.1)], [(11006, v3, .arr 3 24 [HV.int .i64 x1.1.1, HV.int .i64 x1.1.2.1, slE eFromLabelTo x1.1.2.2]), (11013, v32, .arr 3 49 [HV.int .i64 x30.1, HV.int .i64 x30.2.1, HV.int .i64 x30.2.2]), (11030, v7, .arr (eSl eInt).k 30 ((eSl eInt).E a23.2.2)), (11076, v360603, .arr eInt.k 3 (eInt.E x360601))]⟩ := by
       intro v360603
       refine l_step hF rfl [9] rfl rfl ⟨?_, trivial⟩
       ·refine l_op rfl rfl rfl (o_bsl rfl rfl (as_of (cs := [HV.int .i64 x30.2.1]) ty30 ty3 rfl rfl rfl rfl rfl) ?_)
        exact b_nil (l_go hF rfl (g36_12 v360603) (le_q rfl rfl))
      have g36_9 : F [0, 1, 2, 3, 4, 5, 7, 8] ⟨[(6, HV.ptr 11006 v3 0), (7, slE (eSl eInt) x1.2.1), (9, HV.ar 11030 v7 (eSl eInt).k 0 ((a23.2.2).length)), (10, HV.int .i64 a9.1), (11, HV.int .i64 a23.1), (54, slE eFromLabelTo x1.1.2.2), (55, HV.int .i64 ((x1.1.2.2).length : Int)), (56, HV.int .i64 a23.2.1), (70, HV.ar 11030 v7 (eSl eInt).k 0 ((a23.2.2).length)), (71, HV.int .i64 a23.1), (75, slE eInt x360501), (78, HV.int .i64 x30.2.1)], [(11006, v3, .arr 3 24 [HV.int .i64 x1.1.1, HV.int .i64 x1.1.2.1, slE eFromLabelTo x1.1.2.2]), (11013, v32, .arr 3 49 [HV.int .i64 x30.1, HV.int .i64 x30.2.1, HV.int .i64 x30.2.2]), (11030, v7, .arr (eSl eInt).k 30 ((eSl eInt).E a23.2.2))]⟩ := by
       refine l_step hF rfl [6, 9] rfl rfl ⟨?_, ?_, trivial⟩
       ·refine l_op rfl rfl rfl (o_callA rfl rfl rfl rfl (c_cloneO 11076 h360602 fun v360603 => ?_) )
        exact b_nil (l_go hF rfl (g36_16 v360603) (le_q rfl rfl))
       ·refine l_op rfl rfl rfl (o_bsl rfl rfl (as_of (cs := [HV.int .i64 x30.2.1]) ty30 ty3 rfl rfl rfl rfl rfl) ?_)
        exact b_nil (l_go hF rfl (g36_11) (le_q rfl rfl))
      have g36_10 : F [0, 1, 2, 3, 4, 7, 8, 9] ⟨[(6, HV.ptr 11006 v3 0), (7, slE (eSl eInt) x1.2.1), (9, HV.ar 11030 v7 (eSl eInt).k 0 ((a23.2.2).length)), (10, HV.int .i64 a9.1), (11, HV.int .i64 a23.1), (54, slE eFromLabelTo x1.1.2.2), (55, HV.int .i64 ((x1.1.2.2).length : Int)), (56, HV.int .i64 a23.2.1), (70, HV.ar 11030 v7 (eSl eInt).k 0 ((a23.2.2).length)), (71, HV.int .i64 a23.1), (74, HV.ptr 11030 v7 ((a9.1).toNat * (eSl eInt).k)), (79, slE eInt [x30.2.1])], [(11006, v3, .arr 3 24 [HV.int .i64 x1.1.1, HV.int .i64 x1.1.2.1, slE eFromLabelTo x1.1.2.2]), (11013, v32, .arr 3 49 [HV.int .i64 x30.1, HV.int .i64 x30.2.1, HV.int .i64 x30.2.2]), (11030, v7, .arr (eSl eInt).k 30 ((eSl eInt).E a23.2.2))]⟩ := by
       refine l_step hF rfl [5] rfl rfl ⟨?_, trivial⟩
       ·refine l_op rfl rfl rfl (o_val rfl (v_loadP ty30 rfl rfl (l_cell (eSl eInt) h360502 (o := 0) rfl rfl)) ?_)
        exact b_nil (l_go hF rfl (g36_11) (le_q rfl rfl))
      have g36_17 : ∀ (v360603 : Nat), F [0, 1, 2, 3, 4, 5, 6, 7] ⟨[(6, HV.ptr 11006 v3 0), (7, slE (eSl eInt) x1.2.1), (9, HV.ar 11030 v7 (eSl eInt).k 0 ((a23.2.2).length)), (10, HV.int .i64 a9.1), (11, HV.int .i64 a23.1), (54, slE eFromLabelTo x1.1.2.2), (55, HV.int .i64 ((x1.1.2.2).length : Int)), (56, HV.int .i64 a23.2.1), (70, HV.ar 11030 v7 (eSl eInt).k 0 ((a23.2.2).length)), (71, HV.int .i64 a23.1), (76, HV.ar 11076 v360603 eInt.k 0 ((x360601).length)), (77, HV.ptr 11013 v32 1)], [(11006, v3, .arr 3 24 [HV.int .i64 x1.1.1, HV.int .i64 x1.1.2.1, slE eFromLabelTo x1.1.2.2]), (11013, v32, .arr 3 49 [HV.int .i64 x30.1, HV.int .i64 x30.2.1, HV.int .i64 x30.2.2]), (11030, v7, .arr (eSl eInt).k 30 ((eSl eInt).E a23.2.2)), (11076, v360603, .arr eInt.k 3 (eInt.E x360601))]⟩ := by
       intro v360603
       refine l_step hF rfl [8] rfl rfl ⟨?_, trivial⟩
       ·refine l_op rfl rfl rfl (o_val rfl (v_loadP ty3 rfl rfl (l_lit rfl rfl)) ?_)
        exact b_nil (l_go hF rfl (g36_16 v360603) (le_q rfl rfl))
      have g36_7 : F [0, 1, 2, 3, 4, 5, 7] ⟨[(6, HV.ptr 11006 v3 0), (7, slE (eSl eInt) x1.2.1), (9, HV.ar 11030 v7 (eSl eInt).k 0 ((a23.2.2).length)), (10, HV.int .i64 a9.1), (11, HV.int .i64 a23.1), (54, slE eFromLabelTo x1.1.2.2), (55, HV.int .i64 ((x1.1.2.2).length : Int)), (56, HV.int .i64 a23.2.1), (70, HV.ar 11030 v7 (eSl eInt).k 0 ((a23.2.2).length)), (71, HV.int .i64 a23.1), (75, slE eInt x360501), (77, HV.ptr 11013 v32 1)], [(11006, v3, .arr 3 24 [HV.int .i64 x1.1.1, HV.int .i64 x1.1.2.1, slE eFromLabelTo x1.1.2.2]), (11013, v32, .arr 3 49 [HV.int .i64 x30.1, HV.int .i64 x30.2.1, HV.int .i64 x30.2.2]), (11030, v7, .arr (eSl eInt).k 30 ((eSl eInt).E a23.2.2))]⟩ := by
       refine l_step hF rfl [6, 8] rfl rfl ⟨?_, ?_, trivial⟩
       ·refine l_op rfl rfl rfl (o_callA rfl rfl rfl rfl (c_cloneO 11076 h360602 fun v360603 => ?_) )
        exact b_nil (l_go hF rfl (g36_17 v360603) (le_q rfl rfl))
       ·refine l_op rfl rfl rfl (o_val rfl (v_loadP ty3 rfl rfl (l_lit rfl rfl)) ?_)
        exact b_nil (l_go hF rfl (g36_9) (le_q rfl rfl))
      have g36_8 : F [0, 1, 2, 3, 4, 7, 8] ⟨[(6, HV.ptr 11006 v3 0), (7, slE (eSl eInt) x1.2.1), (9, HV.ar 11030 v7 (eSl eInt).k 0 ((a23.2.2).length)), (10, HV.int .i64 a9.1), (11, HV.int .i64 a23.1), (54, slE eFromLabelTo x1.1.2.2), (55, HV.int .i64 ((x1.1.2.2).length : Int)), (56, HV.int .i64 a23.2.1), (70, HV.ar 11030 v7 (eSl eInt).k 0 ((a23.2.2).length)), (71, HV.int .i64 a23.1), (74, HV.ptr 11030 v7 ((a9.1).toNat * (eSl eInt).k)), (78, HV.int .i64 x30.2.1)], [(11006, v3, .arr 3 24 [HV.int .i64 x1.1.1, HV.int .i64 x1.1.2.1, slE eFromLabelTo x1.1.2.2]), (11013, v32, .arr 3 49 [HV.int .i64 x30.1, HV.int .i64 x30.2.1, HV.int .i64 x30.2.2]), (11030, v7, .arr (eSl eInt).k 30 ((eSl eInt).E a23.2.2))]⟩ := by
       refine l_step hF rfl [5, 9] rfl rfl ⟨?_, ?_, trivial⟩
       ·refine l_op rfl rfl rfl (o_val rfl (v_loadP ty30 rfl rfl (l_cell (eSl eInt) h360502 (o := 0) rfl rfl)) ?_)
        exact b_nil (l_go hF rfl (g36_9) (le_q rfl rfl))
       ·refine l_op rfl rfl rfl (o_bsl rfl rfl (as_of (cs := [HV.int .i64 x30.2.1]) ty30 ty3 rfl rfl rfl rfl rfl) ?_)
        exact b_nil (l_go hF rfl (g36_10) (le_q rfl rfl))
      have g36_6 : F [0, 1, 2, 3, 4, 7] ⟨[(6, HV.ptr 11006 v3 0), (7, slE (eSl eInt) x1.2.1), (9, HV.ar 11030 v7 (eSl eInt).k 0 ((a23.2.2).length)), (10, HV.int .i64 a9.1), (11, HV.int .i64 a23.1), (54, slE eFromLabelTo x1.1.2.2), (55, HV.int .i64 ((x1.1.2.2).length : Int)), (56, HV.int .i64 a23.2.1), (70, HV.ar 11030 v7 (eSl eInt).k 0 ((a23.2.2).length)), (71, HV.int .i64 a23.1), (74, HV.ptr 11030 v7 ((a9.1).toNat * (eSl eInt).k)), (77, HV.ptr 11013 v32 1)], [(11006, v3, .arr 3 24 [HV.int .i64 x1.1.1, HV.int .i64 x1.1.2.1, slE eFromLabelTo x1.1.2.2]), (11013, v32, .arr 3 49 [HV.int .i64 x30.1, HV.int .i64 x30.2.1, HV.int .i64 x30.2.2]), (11030, v7, .arr (eSl eInt).k 30 ((eSl eInt).E a23.2.2))]⟩ := by
       refine l_step hF rfl [5, 8] rfl rfl ⟨?_, ?_, trivial⟩
       ·refine l_op rfl rfl rfl (o_val rfl (v_loadP ty30 rfl rfl (l_cell (eSl eInt) h360502 (o := 0) rfl rfl)) ?_)
        exact b_nil (l_go hF rfl (g36_7) (le_q rfl rfl))
       ·refine l_op rfl rfl rfl (o_val rfl (v_loadP ty3 rfl rfl (l_lit rfl rfl)) ?_)
        exact b_nil (l_go hF rfl (g36_8) (le_q rfl rfl))
      have g36_5 : F [0, 1, 2, 3, 4] ⟨[(6, HV.ptr 11006 v3 0), (7, slE (eSl eInt) x1.2.1), (9, HV.ar 11030 v7 (eSl eInt).k 0 ((a23.2.2).length)), (10, HV.int .i64 a9.1), (11, HV.int .i64 a23.1), (13, HV.ptr 11013 v32 0), (54, slE eFromLabelTo x1.1.2.2), (55, HV.int .i64 ((x1.1.2.2).length : Int)), (56, HV.int .i64 a23.2.1), (70, HV.ar 11030 v7 (eSl eInt).k 0 ((a23.2.2).length)), (71, HV.int .i64 a23.1), (74, HV.ptr 11030 v7 ((a9.1).toNat * (eSl eInt).k))], [(11006, v3, .arr 3 24 [HV.int .i64 x1.1.1, HV.int .i64 x1.1.2.1, slE eFromLabelTo x1.1.2.2]), (11013, v32, .arr 3 49 [HV.int .i64 x30.1, HV.int .i64 x30.2.1, HV.int .i64 x30.2.2]), (11030, v7, .arr (eSl eInt).k 30 ((eSl eInt).E a23.2.2))]⟩ := by
       refine l_take (i := 7) hF rfl rfl rfl (v_fieldAddrP fo49_1 rfl rfl) ?_
       exact l_go hF rfl (g36_6) (le_q rfl rfl)
      have g36_4 : F [0, 1, 2, 3] ⟨[(6, HV.ptr 11006 v3 0), (7, slE (eSl eInt) x1.2.1), (9, HV.ar 11030 v7 (eSl eInt).k 0 ((a23.2.2).length)), (10, HV.int .i64 a9.1), (11, HV.int .i64 a23.1), (13, HV.ptr 11013 v32 0), (54, slE eFromLabelTo x1.1.2.2), (55, HV.int .i64 ((x1.1.2.2).length : Int)), (56, HV.int .i64 a23.2.1), (70, HV.ar 11030 v7 (eSl eInt).k 0 ((a23.2.2).length)), (71, HV.int .i64 a23.1), (72, HV.ar 11030 v7 (eSl eInt).k 0 ((a23.2.2).length)), (73, HV.int .i64 a9.1)], [(11006, v3, .arr 3 24 [HV.int .i64 x1.1.1, HV.int .i64 x1.1.2.1, slE eFromLabelTo x1.1.2.2]), (11013, v32, .arr 3 49 [HV.int .i64 x30.1, HV.int .i64 x30.2.1, HV.int .i64 x30.2.2]), (11030, v7, .arr (eSl eInt).k 30 ((eSl eInt).E a23.2.2))]⟩ := by
       refine l_take (i := 4) hF rfl rfl rfl (v_idxA ty39 es39 rfl rfl (idx_lt h360402) rfl) ?_
       exact l_go hF rfl (g36_5) (le_q rfl rfl)
      have g36_3 : F [0, 1, 2] ⟨[(6, HV.ptr 11006 v3 0), (7, slE (eSl eInt) x1.2.1), (9, HV.ar 11030 v7 (eSl eInt).k 0 ((a23.2.2).length)), (10, HV.int .i64 a9.1), (11, HV.int .i64 a23.1), (13, HV.ptr 11013 v32 0), (54, slE eFromLabelTo x1.1.2.2), (55, HV.int .i64 ((x1.1.2.2).length : Int)), (56, HV.int .i64 a23.2.1), (70, HV.ar 11030 v7 (eSl eInt).k 0 ((a23.2.2).length)), (71, HV.int .i64 a23.1), (72, HV.ar 11030 v7 (eSl eInt).k 0 ((a23.2.2).length))], [(11006, v3, .arr 3 24 [HV.int .i64 x1.1.1, HV.int .i64 x1.1.2.1, slE eFromLabelTo x1.1.2.2]), (11013, v32, .arr 3 49 [HV.int .i64 x30.1, HV.int .i64 x30.2.1, HV.int .i64 x30.2.2]), (11030, v7, .arr (eSl eInt).k 30 ((eSl eInt).E a23.2.2))]⟩ := by
       refine l_take (i := 3) hF rfl rfl rfl (mv_val rfl rfl).2 ?_
       exact l_go hF rfl (g36_4) (le_q rfl rfl)
      have g36_2 : F [0, 1] ⟨[(6, HV.ptr 11006 v3 0), (7, slE (eSl eInt) x1.2.1), (9, HV.ar 11030 v7 (eSl eInt).k 0 ((a23.2.2).length)), (10, HV.int .i64 a9.1), (11, HV.int .i64 a23.1), (13, HV.ptr 11013 v32 0), (54, slE eFromLabelTo x1.1.2.2), (55, HV.int .i64 ((x1.1.2.2).length : Int)), (56, HV.int .i64 a23.2.1), (70, HV.ar 11030 v7 (eSl eInt).k 0 ((a23.2.2).length)), (71, HV.int .i64 a23.1)], [(11006, v3, .arr 3 24 [HV.int .i64 x1.1.1, HV.int .i64 x1.1.2.1, slE eFromLabelTo x1.1.2.2]), (11013, v32, .arr 3 49 [HV.int .i64 x30.1, HV.int .i64 x30.2.1, HV.int .i64 x30.2.2]), (11030, v7, .arr (eSl eInt).k 30 ((eSl eInt).E a23.2.2))]⟩ := by
       refine l_take (i := 2) hF rfl rfl rfl (mv_val rfl rfl).2 ?_
       exact l_go hF rfl (g36_3) (le_q rfl rfl)
      have g36_1 : F [0] ⟨[(6, HV.ptr 11006 v3 0), (7, slE (eSl eInt) x1.2.1), (9, HV.ar 11030 v7 (eSl eInt).k 0 ((a23.2.2).length)), (10, HV.int .i64 a9.1), (11, HV.int .i64 a23.1), (13, HV.ptr 11013 v32 0), (54, slE eFromLabelTo x1.1.2.2), (55, HV.int .i64 ((x1.1.2.2).length : Int)), (56, HV.int .i64 a23.2.1), (70, HV.ar 11030 v7 (eSl eInt).k 0 ((a23.2.2).length))], [(11006, v3, .arr 3 24 [HV.int .i64 x1.1.1, HV.int .i64 x1.1.2.1, slE eFromLabelTo x1.1.2.2]), (11013, v32, .arr 3 49 [HV.int .i64 x30.1, HV.int .i64 x30.2.1, HV.int .i64 x30.2.2]), (11030, v7, .arr (eSl eInt).k 30 ((eSl eInt).E a23.2.2))]⟩ := by
       refine l_take (i := 1) hF rfl rfl rfl (mv_val rfl rfl).2 ?_
       exact l_go hF rfl (g36_2) (le_q rfl rfl)
      have g36_0 : F [] ⟨[(6, HV.ptr 11006 v3 0), (7, slE (eSl eInt) x1.2.1), (9, HV.ar 11030 v7 (eSl eInt).k 0 ((a23.2.2).length)), (10, HV.int .i64 a9.1), (11, HV.int .i64 a23.1), (13, HV.ptr 11013 v32 0), (54, slE eFromLabelTo x1.1.2.2), (55, HV.int .i64 ((x1.1.2.2).length : Int)), (56, HV.int .i64 a23.2.1)], [(11006, v3, .arr 3 24 [HV.int .i64 x1.1.1, HV.int .i64 x1.1.2.1, slE eFromLabelTo x1.1.2.2]), (11013, v32, .arr 3 49 [HV.int .i64 x30.1, HV.int .i64 x30.2.1, HV.int .i64 x30.2.2]), (11030, v7, .arr (eSl eInt).k 30 ((eSl eInt).E a23.2.2))]⟩ := by
       refine l_take (i := 0) hF rfl rfl rfl (mv_val rfl rfl).2 ?_
       exact l_go hF rfl (g36_1) (le_q rfl rfl)
      exact g36_0
     have h := ifF (bF' hc) h
     refine AW.skip ?_
     exact to_le (s' := ⟨[(6, HV.ptr 11006 v3 0), (7, slE (eSl eInt) x1.2.1), (9, HV.ar 11030 v7 (eSl eInt).k 0 ((a23.2.2).length)), (10, HV.int .i64 a9.1), (11, HV.int .i64 a23.1), (54, slE eFromLabelTo x1.1.2.2), (55, HV.int .i64 ((x1.1.2.2).length : Int)), (56, HV.int .i64 a23.2.1)], [(11006, v3, .arr 3 24 [HV.int .i64 x1.1.1, HV.int .i64 x1.1.2.1, slE eFromLabelTo x1.1.2.2]), (11030, v7, .arr (eSl eInt).k 30 ((eSl eInt).E a23.2.2))]⟩) (AS.le_of ⟨rfl, rfl, rfl, rfl, rfl, rfl, rfl, rfl, trivial⟩ ⟨rfl, rfl, trivial⟩) ⟨(a23.1, a23.2.2), (), h, rfl⟩
    refine AW.rg rfl fun K hK => ?_
    refine bv rfl (v_fieldAddrP fo49_0 rfl rfl) ?_
    refine bv rfl (v_loadP ty3 rfl rfl (l_lit rfl rfl)) ?_
    refine mv rfl rfl ?_
    refine bv rfl (v_bin rfl rfl b_eql) ?_
    refine mv rfl rfl ?_
    by_cases hg37 : x30.1 = a9.1
    ·have h := ifT hg37 h
     refine b_T rfl rfl rfl rfl (decide_eq_true hg37) (o_val rfl (v_fieldAddrP fo49_2 rfl rfl) ?_)
     refine b_T rfl rfl rfl rfl rfl (o_val rfl (v_loadP ty3 rfl rfl (l_lit rfl rfl)) ?_)
     refine b_T rfl rfl rfl rfl rfl (o_val rfl (mv_val rfl rfl).2 ?_)
     refine b_T rfl rfl rfl rfl rfl (o_val rfl (v_bin rfl rfl b_eql) ?_)
     refine bv rfl (v_pickT rfl rfl rfl) ?_
     refine b_nil (hK _ ?_)
     clear hK K
     exact to_le (s' := ⟨[(6, HV.ptr 11006 v3 0), (7, slE (eSl eInt) x1.2.1), (9, HV.ar 11030 v7 (eSl eInt).k 0 ((a23.2.2).length)), (10, HV.int .i64 a9.1), (11, HV.int .i64 a23.1), (13, HV.ptr 11013 v32 0), (54, slE eFromLabelTo x1.1.2.2), (55, HV.int .i64 ((x1.1.2.2).length : Int)), (56, HV.int .i64 a23.2.1), (69, HV.bool (decide (x30.2.2 = a23.1)))], [(11006, v3, .arr 3 24 [HV.int .i64 x1.1.1, HV.int .i64 x1.1.2.1, slE eFromLabelTo x1.1.2.2]), (11013, v32, .arr 3 49 [HV.int .i64 x30.1, HV.int .i64 x30.2.1, HV.int .i64 x30.2.2]), (11030, v7, .arr (eSl eInt).k 30 ((eSl eInt).E a23.2.2))]⟩) (AS.le_of ⟨rfl, rfl, rfl, rfl, rfl, rfl, rfl, rfl, rfl, rfl, trivial⟩ ⟨rfl, rfl, rfl, trivial⟩) ⟨decide (x30.2.2 = a23.1), (), h, rfl⟩
    have h := ifF hg37 h
    refine b_F rfl rfl rfl rfl rfl (decide_eq_false hg37) ?_
    refine b_F rfl rfl rfl rfl rfl rfl ?_
    refine b_F rfl rfl rfl rfl rfl rfl ?_
    refine b_F rfl rfl rfl rfl rfl rfl ?_
    refine bv rfl (v_pickF rfl rfl rfl) ?_
    refine b_nil (hK _ ?_)
    clear hK K
    exact to_le (s' := ⟨[(6, HV.ptr 11006 v3 0), (7, slE (eSl eInt) x1.2.1), (9, HV.ar 11030 v7 (eSl eInt).k 0 ((a23.2.2).length)), (10, HV.int .i64 a9.1), (11, HV.int .i64 a23.1), (13, HV.ptr 11013 v32 0), (54, slE eFromLabelTo x1.1.2.2), (55, HV.int .i64 ((x1.1.2.2).length : Int)), (56, HV.int .i64 a23.2.1), (69, HV.bool false)], [(11006, v3, .arr 3 24 [HV.int .i64 x1.1.1, HV.int .i64 x1.1.2.1, slE eFromLabelTo x1.1.2.2]), (11013, v32, .arr 3 49 [HV.int .i64 x30.1, HV.int .i64 x30.2.1, HV.int .i64 x30.2.2]), (11030, v7, .arr (eSl eInt).k 30 ((eSl eInt).E a23.2.2))]⟩) (AS.le_of ⟨rfl, rfl, rfl, rfl, rfl, rfl, rfl, rfl, rfl, rfl, trivial⟩ ⟨rfl, rfl, rfl, trivial⟩) ⟨false, (), h, rfl⟩
   have hc := of_decide_eq_false hc
   have h := ifF hc h
   refine AW.exit ?_
   exact to_le (s' := ⟨[(6, HV.ptr 11006 v3 0), (7, slE (eSl eInt) x1.2.1), (9, HV.ar 11030 v7 (eSl eInt).k 0 ((a23.2.2).length)), (10, HV.int .i64 a9.1), (11, HV.int .i64 a23.1)], [(11006, v3, .arr 3 24 [HV.int .i64 x1.1.1, HV.int .i64 x1.1.2.1, slE eFromLabelTo x1.1.2.2]), (11030, v7, .arr (eSl eInt).k 30 ((eSl eInt).E a23.2.2))]⟩) (AS.le_of ⟨rfl, rfl, rfl, rfl, rfl, trivial⟩ ⟨rfl, rfl, trivial⟩) ⟨(a23.2.2, a23.1), (), h, rfl⟩
  have hc := of_decide_eq_false hc
  have h := ifF hc h
  refine AW.exit ?_
  exact to_le (s' := ⟨[], []⟩) (AS.le_of trivial trivial) ⟨(), (), h, rfl⟩
 refine AW.rg rfl fun K hK => ?_
 refine mv rfl rfl ?_
 refine bv rfl (v_bin rfl rfl b_neq) ?_
 refine mv rfl rfl ?_
 by_cases hg42 : x1.2.2 ≠ 0
 ·have h := ifT hg42 h
  refine b_F rfl rfl rfl rfl rfl (decide_eq_true hg42) ?_
  refine b_F rfl rfl rfl rfl rfl rfl ?_
  refine b_F rfl rfl rfl rfl rfl rfl ?_
  refine bv rfl (v_pickT rfl rfl rfl) ?_
  refine b_nil (hK _ ?_)
  clear hK K
  exact to_le (s' := ⟨[(6, HV.ptr 11006 v3 0), (7, slE (eSl eInt) x1.2.1), (8, HV.int .i64 x1.2.2), (26, HV.bool true)], [(11006, v3, .arr 3 24 [HV.int .i64 x1.1.1, HV.int .i64 x1.1.2.1, slE eFromLabelTo x1.1.2.2])]⟩) (AS.le_of ⟨rfl, rfl, rfl, rfl, trivial⟩ ⟨rfl, trivial⟩) ⟨true, (), h, rfl⟩
 have h := ifF hg42 h
 refine b_T rfl rfl rfl rfl (decide_eq_false hg42) (o_val rfl (v_fieldAddrP fo24_1 rfl rfl) ?_)
 refine b_T rfl rfl rfl rfl rfl (o_val rfl (v_loadP ty3 rfl rfl (l_lit rfl rfl)) ?_)
 refine b_T rfl rfl rfl rfl rfl (o_val rfl (v_bin rfl rfl b_eql) ?_)
 refine bv rfl (v_pickF rfl rfl rfl) ?_
 refine b_nil (hK _ ?_)
 clear hK K
 exact to_le (s' := ⟨[(6, HV.ptr 11006 v3 0), (7, slE (eSl eInt) x1.2.1), (8, HV.int .i64 x1.2.2), (26, HV.bool (decide (x1.1.2.1 = 0)))], [(11006, v3, .arr 3 24 [HV.int .i64 x1.1.1, HV.int .i64 x1.1.2.1, slE eFromLabelTo x1.1.2.2])]⟩) (AS.le_of ⟨rfl, rfl, rfl, rfl, trivial⟩ ⟨rfl, trivial⟩) ⟨decide (x1.1.2.1 = 0), (), h, rfl⟩

end Go.AW

namespace Go.AW
open Go Go.Proofs
set_option linter.unusedVariables false
set_option maxHeartbeats 1600000 in
set_option maxRecDepth 100000 in
theorem w_ref12_Same {p0 : List (Int)} {p1 : List (Int)} {r : Bool} (h : m_ref12_Same p0 p1 = some r) : Pure Tryd.prog 33 [slE eInt p0, slE eInt p1] (· = HV.bool r) := by
 unfold m_ref12_Same at h
 refine Pure.of_body Tryd.func33 rfl rfl (Nat.le_of_ble_eq_true rfl) fun hf => ?_
 unfold Tryd.f33
 dsimp only [enumS, Nat.reduceAdd]
 refine AW.rgs rfl fun K hK => ?_
 refine mv rfl rfl ?_
 refine b_fin hK (s' := ⟨[(0, slE eInt p0), (1, slE eInt p1)], []⟩) (le_q rfl rfl) ?_
 clear hK K
 refine AW.seq ?_
 refine AW.rgs rfl fun K hK => ?_
 refine mv rfl rfl ?_
 refine bv rfl (v_lenF rfl rfl ty30 rfl) ?_
 refine mv rfl rfl ?_
 refine bv rfl (v_lenF rfl rfl ty30 rfl) ?_
 refine bv rfl (v_bin rfl rfl b_neq) ?_
 refine b_fin hK (s' := ⟨[(0, slE eInt p0), (1, slE eInt p1), (10, HV.bool (decide (((p0).length : Int) ≠ ((p1).length : Int))))], []⟩) (le_q rfl rfl) ?_
 clear hK K
 refine AW.cond rfl (fun hc => ?_) (fun hc => ?_)
 ·have hc := of_decide_eq_true hc
  have h := ifT hc h
  refine AW.rgs rfl fun K hK => ?_
  refine mv rfl rfl ?_
  refine b_fin hK (s' := ⟨[(4, HV.bool false)], []⟩) (le_q rfl rfl) ?_
  clear hK K
  refine AW.ret ?_
  have h := Option.some.inj h
  subst h
  exact ret_pure (hs := [HV.bool false]) (q := HV.bool false) (.inr rfl) (resT rfl rfl) rfl trivial
 have hc := of_decide_eq_false hc
 have h := ifF hc h
 refine AW.skip ?_
 refine AW.seq ?_
 refine AW.rgs rfl fun K hK => ?_
 refine mv rfl rfl ?_
 refine b_fin hK (s' := ⟨[(0, slE eInt p0), (1, slE eInt p1), (5, HV.int .i64 0)], []⟩) (le_q rfl rfl) ?_
 clear hK K
 refine AW.lpR h (by first | exact up_then | exact up_to) (S := Int) (V := Unit) (fun a v => ⟨[(0, slE eInt p0), (1, slE eInt p1), (5, HV.int .i64 a)], []⟩) ?_ (X := Unit) (W := Unit) (fun a v => ⟨[], []⟩) (fun a9 w10 h => ?_) (fun a1 w2 st3 h hr4=> ?_)
 ·exact to_le (s' := ⟨[(0, slE eInt p0), (1, slE eInt p1), (5, HV.int .i64 0)], []⟩) (AS.le_of ⟨rfl, rfl, rfl, trivial⟩ trivial) ⟨(), rfl⟩
 ·refine AW.rgs rfl fun K hK => ?_
  refine mv rfl rfl ?_
  refine b_fin hK (s' := ⟨[(4, HV.bool true)], []⟩) (le_q rfl rfl) ?_
  clear hK K
  refine AW.ret ?_
  have h := Option.some.inj h
  subst h
  exact ret_pure (hs := [HV.bool true]) (q := HV.bool true) (.inr rfl) (resT rfl rfl) rfl trivial
 refine AW.seq ?_
 refine AW.rgs rfl fun K hK => ?_
 refine mv rfl rfl ?_
 refine mv rfl rfl ?_
 refine bv rfl (v_lenF rfl rfl ty30 rfl) ?_
 refine bv rfl (v_bin rfl rfl b_lss) ?_
 refine b_fin hK (s' := ⟨[(0, slE eInt p0), (1, slE eInt p1), (5, HV.int .i64 a1), (14, HV.bool (decide (a1 < ((p0).length : Int))))], []⟩) (le_q rfl rfl) ?_
 clear hK K
 refine AW.cond rfl (fun hc => ?_) (fun hc => ?_)
 ·have hc := of_decide_eq_true hc
  have h := ifT hc h
  refine AW.skip ?_
  refine AW.seq (AW.block ?_)
  refine AW.dgs 9 follows rfl rfl fun K hK => ?_
  refine sm rfl rfl ?_
  refine sm rfl rfl ?_
  obtain ⟨x5, h6, h⟩ := bS h
  refine sv rfl (v_idxF ty30 es30 rfl rfl (idx_lt h6)) ?_
  refine sv rfl (v_loadF ty3 rfl (l_cell eInt h6 (o := 0) rfl rfl)) ?_
  refine sm rfl rfl ?_
  refine sm rfl rfl ?_
  obtain ⟨x7, h8, h⟩ := bS h
  refine sv rfl (v_idxF ty30 es30 rfl rfl (idx_lt h8)) ?_
  refine sv rfl (v_loadF ty3 rfl (l_cell eInt h8 (o := 0) rfl rfl)) ?_
  refine sv rfl (v_bin rfl rfl b_neq) ?_
  refine s_nil ?_
  refine b_fin hK (s' := ⟨[(0, slE eInt p0), (1, slE eInt p1), (5, HV.int .i64 a1), (25, HV.bool (decide (x5 ≠ x7)))], []⟩) (le_q rfl rfl) ?_
  clear hK K
  refine AW.cond rfl (fun hc => ?_) (fun hc => ?_)
  ·have hc := of_decide_eq_true hc
   have h := ifT hc h
   refine AW.rgs rfl fun K hK => ?_
   refine mv rfl rfl ?_
   refine b_fin hK (s' := ⟨[(4, HV.bool false)], []⟩) (le_q rfl rfl) ?_
   clear hK K
   have h := hr4 _ h
   refine AW.ret ?_
   have h := Option.some.inj h
   subst h
   exact ret_pure (hs := [HV.bool false]) (q := HV.bool false) (.inr rfl) (resT rfl rfl) rfl trivial
  have hc := of_decide_eq_false hc
  have h := ifF hc h
  refine AW.skip ?_
  refine AW.rg rfl fun K hK => ?_
  refine mv rfl rfl ?_
  refine bv rfl (v_bin rfl rfl b_add) ?_
  refine mv rfl rfl ?_
  refine b_nil (hK _ ?_)
  clear hK K
  exact to_le (s' := ⟨[(0, slE eInt p0), (1, slE eInt p1), (5, HV.int .i64 (IntKind.wrap .i64 (a1 + 1)))], []⟩) (AS.le_of ⟨rfl, rfl, rfl, trivial⟩ trivial) ⟨IntKind.wrap .i64 (a1 + 1), (), h, rfl⟩
 have hc := of_decide_eq_false hc
 have h := ifF hc h
 refine AW.exit ?_
 exact to_le (s' := ⟨[], []⟩) (AS.le_of trivial trivial) ⟨(), (), h, rfl⟩

set_option maxHeartbeats 1600000 in
set_option maxRecDepth 100000 in
theorem w_ref12_SameSets {p0 : List (List (Int))} {p1 : List (List (Int))} {r : Bool} (h : m_ref12_SameSets p0 p1 = some r) : Pure Tryd.prog 21 [slE (eSl eInt) p0, slE (eSl eInt) p1] (· = HV.bool r) := by
 unfold m_ref12_SameSets at h
 refine Pure.of_body Tryd.func21 rfl rfl (Nat.le_of_ble_eq_true rfl) fun hf => ?_
 unfold Tryd.f21
 dsimp only [enumS, Nat.reduceAdd]
 refine AW.rgs rfl fun K hK => ?_
 refine mv rfl rfl ?_
 refine b_fin hK (s' := ⟨[(0, slE (eSl eInt) p0), (1, slE (eSl eInt) p1)], []⟩) (le_q rfl rfl) ?_
 clear hK K
 refine AW.seq ?_
 refine AW.rgs rfl fun K hK => ?_
 refine mv rfl rfl ?_
 refine bv rfl (v_lenF rfl rfl ty39 rfl) ?_
 refine mv rfl rfl ?_
 refine bv rfl (v_lenF rfl rfl ty39 rfl) ?_
 refine bv rfl (v_bin rfl rfl b_neq) ?_
 refine b_fin hK (s' := ⟨[(0, slE (eSl eInt) p0), (1, slE (eSl eInt) p1), (10, HV.bool (decide (((p0).length : Int) ≠ ((p1).length : Int))))], []⟩) (le_q rfl rfl) ?_
 clear hK K
 refine AW.cond rfl (fun hc => ?_) (fun hc => ?_)
 ·have hc := of_decide_eq_true hc
  have h := ifT hc h
  refine AW.rgs rfl fun K hK => ?_
  refine mv rfl rfl ?_
  refine b_fin hK (s' := ⟨[(4, HV.bool false)], []⟩) (le_q rfl rfl) ?_
  clear hK K
  refine AW.ret ?_
  have h := Option.some.inj h
  subst h
  exact ret_pure (hs := [HV.bool false]) (q := HV.bool false) (.inr rfl) (resT rfl rfl) rfl trivial
 have hc := of_decide_eq_false hc
 have h := ifF hc h
 refine AW.skip ?_
 refine AW.seq ?_
 refine AW.rgs rfl fun K hK => ?_
 refine mv rfl rfl ?_
 refine b_fin hK (s' := ⟨[(0, slE (eSl eInt) p0), (1, slE (eSl eInt) p1), (5, HV.int .i64 0)], []⟩) (le_q rfl rfl) ?_
 clear hK K
 refine AW.lpR h (by first | exact up_then | exact up_to) (S := Int) (V := Unit) (fun a v => ⟨[(0, slE (eSl eInt) p0), (1, slE (eSl eInt) p1), (5, HV.int .i64 a)], []⟩) ?_ (X := Unit) (W := Unit) (fun a v => ⟨[], []⟩) (fun a11 w12 h => ?_) (fun a1 w2 st3 h hr4=> ?_)
 ·exact to_le (s' := ⟨[(0, slE (eSl eInt) p0), (1, slE (eSl eInt) p1), (5, HV.int .i64 0)], []⟩) (AS.le_of ⟨rfl, rfl, rfl, trivial⟩ trivial) ⟨(), rfl⟩
 ·refine AW.rgs rfl fun K hK => ?_
  refine mv rfl rfl ?_
  refine b_fin hK (s' := ⟨[(4, HV.bool true)], []⟩) (le_q rfl rfl) ?_
  clear hK K
  refine AW.ret ?_
  have h := Option.some.inj h
  subst h
  exact ret_pure (hs := [HV.bool true]) (q := HV.bool true) (.inr rfl) (resT rfl rfl) rfl trivial
 refine AW.seq ?_
 refine AW.rgs rfl fun K hK => ?_
 refine mv rfl rfl ?_
 refine mv rfl rfl ?_
 refine bv rfl (v_lenF rfl rfl ty39 rfl) ?_
 refine bv rfl (v_bin rfl rfl b_lss) ?_
 refine b_fin hK (s' := ⟨[(0, slE (eSl eInt) p0), (1, slE (eSl eInt) p1), (5, HV.int .i64 a1), (14, HV.bool (decide (a1 < ((p0).length : Int))))], []⟩) (le_q rfl rfl) ?_
 clear hK K
 refine AW.cond rfl (fun hc => ?_) (fun hc => ?_)
 ·have hc := of_decide_eq_true hc
  have h := ifT hc h
  refine AW.skip ?_
  refine AW.seq (AW.block ?_)
  refine AW.dgs 10 follows rfl rfl fun K hK => ?_
  refine sm rfl rfl ?_
  refine sm rfl rfl ?_
  obtain ⟨x5, h6, h⟩ := bS h
  refine sv rfl (v_idxF ty39 es39 rfl rfl (idx_lt h6)) ?_
  refine sv rfl (v_loadF ty30 rfl (l_cell (eSl eInt) h6 (o := 0) rfl rfl)) ?_
  refine sm rfl rfl ?_
  refine sm rfl rfl ?_
  obtain ⟨x7, h8, h⟩ := bS h
  refine sv rfl (v_idxF ty39 es39 rfl rfl (idx_lt h8)) ?_
  refine sv rfl (v_loadF ty30 rfl (l_cell (eSl eInt) h8 (o := 0) rfl rfl)) ?_
  obtain ⟨x9, h10, h⟩ := bS h
  refine s_op rfl rfl (ops_call rfl rfl rfl rfl (ACallD.pure0 (w_ref12_Same h10)) ?_)
  refine sv rfl (v_not rfl) ?_
  refine s_nil ?_
  refine b_fin hK (s' := ⟨[(0, slE (eSl eInt) p0), (1, slE (eSl eInt) p1), (5, HV.int .i64 a1), (26, HV.bool (!x9))], []⟩) (le_q rfl rfl) ?_
  clear hK K
  refine AW.cond rfl (fun hc => ?_) (fun hc => ?_)
  ·have h := ifT hc h
   refine AW.rgs rfl fun K hK => ?_
   refine mv rfl rfl ?_
   refine b_fin hK (s' := ⟨[(4, HV.bool false)], []⟩) (le_q rfl rfl) ?_
   clear hK K
   have h := hr4 _ h
   refine AW.ret ?_
   have h := Option.some.inj h
   subst h
   exact ret_pure (hs := [HV.bool false]) (q := HV.bool false) (.inr rfl) (resT rfl rfl) rfl trivial
  have h := ifF (bF' hc) h
  refine AW.skip ?_
  refine AW.rg rfl fun K hK => ?_
  refine mv rfl rfl ?_
  refine bv rfl (v_bin rfl rfl b_add) ?_
  refine mv rfl rfl ?_
  refine b_nil (hK _ ?_)
  clear hK K
  exact to_le (s' := ⟨[(0, slE (eSl eInt) p0), (1, slE (eSl eInt) p1), (5, HV.int .i64 (IntKind.wrap .i64 (a1 + 1)))], []⟩) (AS.le_of ⟨rfl, rfl, rfl, trivial⟩ trivial) ⟨IntKind.wrap .i64 (a1 + 1), (), h, rfl⟩
 have hc := of_decide_eq_false hc
 have h := ifF hc h
 refine AW.exit ?_
 exact to_le (s' := ⟨[], []⟩) (AS.le_of trivial trivial) ⟨(), (), h, rfl⟩

set_option maxHeartbeats 1600000 in
set_option maxRecDepth 100000 in
theorem w_law12_even  {r : TLabelsStatesEdges} (h : m_law12_even  = some r) : Pure Tryd.prog 31 [] (· = HV.agg [HV.int .i64 r.1, HV.int .i64 r.2.1, slE eFromLabelTo r.2.2]) := by
 unfold m_law12_even at h
 refine Pure.of_body Tryd.func31 rfl rfl (Nat.le_of_ble_eq_true rfl) fun hf => ?_
 unfold Tryd.f31
 dsimp only [enumS, Nat.reduceAdd]
 refine AW.rgs rfl fun K hK => ?_
 refine b_op rfl (o_alloc (fid := 31) (zs := [HV.int .i64 0, HV.int .i64 0, HV.v (.slice none 0 0)]) 31000 rfl rfl ty24 rfl (fun v1 => ?_))
 refine b_fin hK (s' := ⟨[(0, HV.ptr 31000 v1 0)], [(31000, v1, .arr 3 24 [HV.int .i64 0, HV.int .i64 0, HV.v (.slice none 0 0)])]⟩) (le_q rfl rfl) ?_
 clear hK K
 refine AW.rgs rfl fun K hK => ?_
 refine b_op rfl (o_build (cs := [HV.int .i64 0, HV.int .i64 0, HV.int .i64 1]) rfl (bl_of ty49 rfl rfl rfl rfl) ?_)
 refine b_op rfl (o_build (cs := [HV.int .i64 0, HV.int .i64 1, HV.int .i64 0]) rfl (bl_of ty49 rfl rfl rfl rfl) ?_)
 refine b_op rfl (o_build (cs := [HV.int .i64 1, HV.int .i64 0, HV.int .i64 0]) rfl (bl_of ty49 rfl rfl rfl rfl) ?_)
 refine b_op rfl (o_bsl rfl rfl (as_of (cs := [HV.int .i64 0, HV.int .i64 0, HV.int .i64 1, HV.int .i64 0, HV.int .i64 1, HV.int .i64 0, HV.int .i64 1, HV.int .i64 0, HV.int .i64 0]) ty22 ty49 rfl rfl rfl rfl rfl) ?_)
 refine b_op rfl (o_build (cs := [HV.int .i64 2, HV.int .i64 2, slE eFromLabelTo [(0, 0, 1), (0, 1, 0), (1, 0, 0)]]) rfl (bl_of ty24 rfl rfl rfl rfl) ?_)
 refine b_op rfl (o_store (cs := [HV.int .i64 2, HV.int .i64 2, slE eFromLabelTo [(0, 0, 1), (0, 1, 0), (1, 0, 0)]]) (zs := [HV.int .i64 2, HV.int .i64 2, slE eFromLabelTo [(0, 0, 1), (0, 1, 0), (1, 0, 0)]]) rfl rfl rfl ty24 rfl rfl rfl rfl rfl ?_)
 refine b_fin hK (s' := ⟨[(0, HV.ptr 31000 v1 0)], [(31000, v1, .arr 3 24 [HV.int .i64 2, HV.int .i64 2, slE eFromLabelTo [(0, 0, 1), (0, 1, 0), (1, 0, 0)]])]⟩) (le_q rfl rfl) ?_
 clear hK K
 refine AW.ret ?_
 have h := Option.some.inj h
 subst h
 exact ret_pure (hs := [HV.agg [HV.int .i64 2, HV.int .i64 2, slE eFromLabelTo [(0, 0, 1), (0, 1, 0), (1, 0, 0)]]]) (q := HV.agg [HV.int .i64 2, HV.int .i64 2, slE eFromLabelTo [(0, 0, 1), (0, 1, 0), (1, 0, 0)]]) (.inr rfl) (resP ty24 rfl rfl (l_litA rfl (Nat.le_of_ble_eq_true rfl) rfl) rfl) rfl ⟨trivial, trivial, (clean_slE fun _ _ => ⟨trivial, trivial, trivial, trivial⟩), trivial⟩

set_option maxHeartbeats 1600000 in
set_option maxRecDepth 100000 in
theorem w_integer_trim {p0 : List (Int)} {r : (List (Int))} (h : m_integer_trim p0 = some r) : Pure Tryd.prog 86 [slE (encM (HV.int .u32)) p0] (· = slE (encM (HV.int .u32)) r) := by
 unfold m_integer_trim at h
 refine Pure.of_body Tryd.func86 rfl rfl (Nat.le_of_ble_eq_true rfl) fun hf => ?_
 unfold Tryd.f86
 dsimp only [enumS, Nat.reduceAdd]
 refine AW.rgs rfl fun K hK => ?_
 refine mv rfl rfl ?_
 refine b_fin hK (s' := ⟨[(0, slE (encM (HV.int .u32)) p0)], []⟩) (le_q rfl rfl) ?_
 clear hK K
 refine AW.seq (AW.lpX h up_then (S := (List Int)) (V := Unit) (fun a v => ⟨[(0, slE (encM (HV.int .u32)) a)], []⟩) ?_ (X := (List Int)) (W := Unit) (fun a v => ⟨[(0, slE (encM (HV.int .u32)) a)], []⟩) (fun a12 w13 h => ?_) (fun a1 w2 st3 h => ?_))
 ·exact to_le (s' := ⟨[(0, slE (encM (HV.int .u32)) p0)], []⟩) (AS.le_of ⟨rfl, trivial⟩ trivial) ⟨(), rfl⟩
 ·refine AW.rgs rfl fun K hK => ?_
  refine mv rfl rfl ?_
  refine mv rfl rfl ?_
  refine b_fin hK (s' := ⟨[(2, slE (encM (HV.int .u32)) a12)], []⟩) (le_q rfl rfl) ?_
  clear hK K
  refine AW.ret ?_
  have h := Option.some.inj h
  subst h
  exact ret_pure (hs := [slE (encM (HV.int .u32)) a12]) (q := slE (encM (HV.int .u32)) a12) (.inr rfl) (resT rfl rfl) rfl (clean_slE fun _ _ => ⟨trivial, trivial⟩)
 refine AW.seq ?_
 refine AW.seqJ h (S := Bool) (V := Unit) (fun a v => ⟨[(0, slE (encM (HV.int .u32)) a1), (14, HV.bool a)], []⟩) (fun a5 w6 h => ?_) (fun k7 h => ?_)
 ·refine AW.cond rfl (fun hc => ?_) (fun hc => ?_)
  ·have h := ifT hc h
   refine AW.skip ?_
   refine AW.block ?_
   refine AW.rg rfl fun K hK => ?_
   refine mv rfl rfl ?_
   refine mv rfl rfl ?_
   refine bv rfl (v_lenF rfl rfl ty99 rfl) ?_
   refine bv rfl (v_bin rfl rfl b_sub) ?_
   obtain ⟨h8, h⟩ := ifN h
   refine bv rfl (v_sliceF (encM (HV.int .u32)) ty99 es99 rfl rfl rfl h8) ?_
   refine mv rfl rfl ?_
   refine b_nil (hK _ ?_)
   clear hK K
   exact to_le (s' := ⟨[(0, slE (encM (HV.int .u32)) ((a1.take (IntKind.wrap .i64 (((a1).length : Int) - 1)).toNat).drop (0 : Int).toNat))], []⟩) (AS.le_of ⟨rfl, trivial⟩ trivial) ⟨(a1.take (IntKind.wrap .i64 (((a1).length : Int) - 1)).toNat).drop (0 : Int).toNat, (), h, rfl⟩
  have h := ifF (bF' hc) h
  refine AW.exit ?_
  exact to_le (s' := ⟨[(0, slE (encM (HV.int .u32)) a1)], []⟩) (AS.le_of ⟨rfl, trivial⟩ trivial) ⟨a1, (), h, rfl⟩
 refine AW.rg rfl fun K hK => ?_
 refine mv rfl rfl ?_
 refine bv rfl (v_lenF rfl rfl ty99 rfl) ?_
 refine bv rfl (v_bin rfl rfl b_gtr) ?_
 refine mv rfl rfl ?_
 by_cases hg11 : 0 < ((a1).length : Int)
 ·have h := ifT hg11 h
  refine b_T rfl rfl rfl rfl (decide_eq_true hg11) (o_val rfl (mv_val rfl rfl).2 ?_)
  refine b_T rfl rfl rfl rfl rfl (o_val rfl (mv_val rfl rfl).2 ?_)
  refine b_T rfl rfl rfl rfl rfl (o_val rfl (v_lenF rfl rfl ty99 rfl) ?_)
  refine b_T rfl rfl rfl rfl rfl (o_val rfl (v_bin rfl rfl b_sub) ?_)
  obtain ⟨x9, h10, h⟩ := bS h
  refine b_T rfl rfl rfl rfl rfl (o_val rfl (v_idxF ty99 es99 rfl rfl (idx_lt h10)) ?_)
  refine b_T rfl rfl rfl rfl rfl (o_val rfl (v_loadF ty97 rfl (l_cell (encM (HV.int .u32)) h10 (o := 0) rfl rfl)) ?_)
  refine b_T rfl rfl rfl rfl rfl (o_val rfl (v_bin rfl rfl b_eql) ?_)
  refine bv rfl (v_pickT rfl rfl rfl) ?_
  refine b_nil (hK _ ?_)
  clear hK K
  exact to_le (s' := ⟨[(0, slE (encM (HV.int .u32)) a1), (14, HV.bool (decide (x9 = 0)))], []⟩) (AS.le_of ⟨rfl, rfl, trivial⟩ trivial) ⟨decide (x9 = 0), (), h, rfl⟩
 have h := ifF hg11 h
 refine b_F rfl rfl rfl rfl rfl (decide_eq_false hg11) ?_
 refine b_F rfl rfl rfl rfl rfl rfl ?_
 refine b_F rfl rfl rfl rfl rfl rfl ?_
 refine b_F rfl rfl rfl rfl rfl rfl ?_
 refine b_F rfl rfl rfl rfl rfl rfl ?_
 refine b_F rfl rfl rfl rfl rfl rfl ?_
 refine b_F rfl rfl rfl rfl rfl rfl ?_
 refine bv rfl (v_pickF rfl rfl rfl) ?_
 refine b_nil (hK _ ?_)
 clear hK K
 exact to_le (s' := ⟨[(0, slE (encM (HV.int .u32)) a1), (14, HV.bool false)], []⟩) (AS.le_of ⟨rfl, rfl, trivial⟩ trivial) ⟨false, (), h, rfl⟩

set_option maxHeartbeats 1600000 in
set_option maxRecDepth 100000 in
theorem w_integer_number {p0 : Bool} {p1 : List (Int)} {r : TNegMag} (h : m_integer_number p0 p1 = some r) : Pure Tryd.prog 63 [HV.bool p0, slE (encM (HV.int .u32)) p1] (· = HV.agg [HV.bool r.1, HV.str r.2]) := by
 unfold m_integer_number at h
 refine Pure.of_body Tryd.func63 rfl rfl (Nat.le_of_ble_eq_true rfl) fun hf => ?_
 unfold Tryd.f63
 dsimp only [enumS, Nat.reduceAdd]
 refine AW.rgs rfl fun K hK => ?_
 refine b_op rfl (o_alloc (fid := 63) (zs := [HV.bool false, HV.str ([] : List UInt8)]) 63004 rfl rfl ty63 rfl (fun v1 => ?_))
 refine b_fin hK (s' := ⟨[(0, HV.bool p0), (1, slE (encM (HV.int .u32)) p1), (4, HV.ptr 63004 v1 0)], [(63004, v1, .arr 2 63 [HV.bool false, HV.str ([] : List UInt8)])]⟩) (le_q rfl rfl) ?_
 clear hK K
 refine AW.rgs rfl fun K hK => ?_
 refine mv rfl rfl ?_
 obtain ⟨x2, h3, h⟩ := bS h
 refine b_op rfl (o_call rfl rfl rfl rfl (ACallD.pure0 (w_integer_trim h3)) ?_)
 refine mv rfl rfl ?_
 refine b_fin hK (s' := ⟨[(0, HV.bool p0), (1, slE (encM (HV.int .u32)) x2), (4, HV.ptr 63004 v1 0)], [(63004, v1, .arr 2 63 [HV.bool false, HV.str ([] : List UInt8)])]⟩) (le_q rfl rfl) ?_
 clear hK K
 refine AW.seq ?_
 refine AW.rgs rfl fun K hK => ?_
 refine mv rfl rfl ?_
 refine bv rfl (v_lenF rfl rfl ty99 rfl) ?_
 refine bv rfl (v_bin rfl rfl b_eql) ?_
 refine b_fin hK (s' := ⟨[(0, HV.bool p0), (1, slE (encM (HV.int .u32)) x2), (4, HV.ptr 63004 v1 0), (13, HV.bool (decide (((x2).length : Int) = 0)))], [(63004, v1, .arr 2 63 [HV.bool false, HV.str ([] : List UInt8)])]⟩) (le_q rfl rfl) ?_
 clear hK K
 refine AW.cond rfl (fun hc => ?_) (fun hc => ?_)
 ·have hc := of_decide_eq_true hc
  have h := ifT hc h
  refine AW.rgs rfl fun K hK => ?_
  refine b_op rfl (o_build (cs := [HV.bool false, HV.str ([] : List UInt8)]) rfl (bl_of ty63 rfl rfl rfl rfl) ?_)
  refine b_op rfl (o_store (cs := [HV.bool false, HV.str ([] : List UInt8)]) (zs := [HV.bool false, HV.str ([] : List UInt8)]) rfl rfl rfl ty63 rfl rfl rfl rfl rfl ?_)
  refine b_fin hK (s' := ⟨[(4, HV.ptr 63004 v1 0)], [(63004, v1, .arr 2 63 [HV.bool false, HV.str ([] : List UInt8)])]⟩) (le_q rfl rfl) ?_
  clear hK K
  refine AW.ret ?_
  have h := Option.some.inj h
  subst h
  exact ret_pure (hs := [HV.agg [HV.bool false, HV.str ([] : List UInt8)]]) (q := HV.agg [HV.bool false, HV.str ([] : List UInt8)]) (.inr rfl) (resP ty63 rfl rfl (l_litA rfl (Nat.le_of_ble_eq_true rfl) rfl) rfl) rfl ⟨trivial, trivial, trivial⟩
 have hc := of_decide_eq_false hc
 have h := ifF hc h
 refine AW.skip ?_
 refine AW.rgs rfl fun K hK => ?_
 refine mv rfl rfl ?_
 refine bv rfl (v_lenF rfl rfl ty99 rfl) ?_
 refine bv rfl (v_bin rfl rfl b_mul) ?_
 obtain ⟨h5, h⟩ := ifN h
 refine b_op rfl (o_makeE (fid := 63) eU8 (0 : Int) 63018 rfl rfl ty25 rfl rfl ty5 rfl rfl h5 (fun v4 => ?_))
 refine mv rfl rfl ?_
 refine b_fin hK (s' := ⟨[(0, HV.bool p0), (1, slE (encM (HV.int .u32)) x2), (4, HV.ptr 63004 v1 0), (5, HV.ar 63018 v4 eU8.k 0 ((List.replicate (0 : Int).toNat (0 : Int)).length))], [(63004, v1, .arr 2 63 [HV.bool false, HV.str ([] : List UInt8)]), (63018, v4, .arr eU8.k 5 (eU8.E (List.replicate (0 : Int).toNat (0 : Int))))]⟩) (le_q rfl rfl) ?_
 clear hK K
 refine AW.seq ?_
 refine AW.rgs rfl fun K hK => ?_
 refine mv rfl rfl ?_
 refine bv rfl (v_lenF rfl rfl ty99 rfl) ?_
 refine bv rfl (v_bin rfl rfl b_sub) ?_
 refine mv rfl rfl ?_
 refine b_fin hK (s' := ⟨[(0, HV.bool p0), (1, slE (encM (HV.int .u32)) x2), (4, HV.ptr 63004 v1 0), (5, HV.ar 63018 v4 eU8.k 0 ((List.replicate (0 : Int).toNat (0 : Int)).length)), (6, HV.int .i64 (IntKind.wrap .i64 (((x2).length : Int) - 1)))], [(63004, v1, .arr 2 63 [HV.bool false, HV.str ([] : List UInt8)]), (63018, v4, .arr eU8.k 5 (eU8.E (List.replicate (0 : Int).toNat (0 : Int))))]⟩) (le_q rfl rfl) ?_
 clear hK K
 refine AW.lpX h (by first | exact up_then | exact up_to) (S := Int × (List Int)) (V := Nat) (fun a v => ⟨[(0, HV.bool p0), (1, slE (encM (HV.int .u32)) x2), (4, HV.ptr 63004 v1 0), (5, HV.ar 63018 v eU8.k 0 ((a.2).length)), (6, HV.int .i64 a.1)], [(63004, v1, .arr 2 63 [HV.bool false, HV.str ([] : List UInt8)]), (63018, v, .arr eU8.k 5 (eU8.E a.2))]⟩) ?_ (X := (List Int)) (W := Nat) (fun a v => ⟨[(0, HV.bool p0), (4, HV.ptr 63004 v1 0), (5, HV.ar 63018 v eU8.k 0 ((a).length))], [(63004, v1, .arr 2 63 [HV.bool false, HV.str ([] : List UInt8)]), (63018, v, .arr eU8.k 5 (eU8.E a))]⟩) (fun a28 w29 h => ?_) (fun a6 w7 st8 h => ?_)
 ·exact to_le (s' := ⟨[(0, HV.bool p0), (1, slE (encM (HV.int .u32)) x2), (4, HV.ptr 63004 v1 0), (5, HV.ar 63018 v4 eU8.k 0 ((List.replicate (0 : Int).toNat (0 : Int)).length)), (6, HV.int .i64 (IntKind.wrap .i64 (((x2).length : Int) - 1)))], [(63004, v1, .arr 2 63 [HV.bool false, HV.str ([] : List UInt8)]), (63018, v4, .arr eU8.k 5 (eU8.E (List.replicate (0 : Int).toNat (0 : Int))))]⟩) (AS.le_of ⟨rfl, rfl, rfl, rfl, rfl, trivial⟩ ⟨rfl, rfl, trivial⟩) ⟨v4, rfl⟩
 ·refine AW.to (to_frz 2 [(63018, w29, .arr eU8.k 5 (eU8.E a28))] ⟨[(0, HV.bool p0), (4, HV.ptr 63004 v1 0), (5, slE eU8 a28)], [(63004, v1, .arr 2 63 [HV.bool false, HV.str ([] : List UInt8)])]⟩ ⟨⟨_, rfl, rfl⟩, ⟨_, rfl, rfl⟩, ⟨_, rfl, frz_slE eU8 (l := a28) rfl fun _ _ => rfl⟩, trivial⟩ ⟨rfl, trivial⟩ ⟨rfl, trivial⟩ ⟨rfl, trivial⟩ ?_)
  refine AW.rgs rfl fun K hK => ?_
  refine mv rfl rfl ?_
  refine mv rfl rfl ?_
  refine bv rfl (v_convB (l := a28) ty25 ty5 ty9 rfl) ?_
  refine b_op rfl (o_build (cs := [HV.bool p0, HV.str (a28.map fun (n : Int) => UInt8.ofNat n.toNat)]) rfl (bl_of ty63 rfl rfl rfl rfl) ?_)
  refine b_op rfl (o_store (cs := [HV.bool p0, HV.str (a28.map fun (n : Int) => UInt8.ofNat n.toNat)]) (zs := [HV.bool p0, HV.str (a28.map fun (n : Int) => UInt8.ofNat n.toNat)]) rfl rfl rfl ty63 rfl rfl rfl rfl rfl ?_)
  refine b_fin hK (s' := ⟨[(4, HV.ptr 63004 v1 0)], [(63004, v1, .arr 2 63 [HV.bool p0, HV.str (a28.map fun (n : Int) => UInt8.ofNat n.toNat)])]⟩) (le_q rfl rfl) ?_
  clear hK K
  refine AW.ret ?_
  have h := Option.some.inj h
  subst h
  exact ret_pure (hs := [HV.agg [HV.bool p0, HV.str (a28.map fun (n : Int) => UInt8.ofNat n.toNat)]]) (q := HV.agg [HV.bool p0, HV.str (a28.map fun (n : Int) => UInt8.ofNat n.toNat)]) (.inr rfl) (resP ty63 rfl rfl (l_litA rfl (Nat.le_of_ble_eq_true rfl) rfl) rfl) rfl ⟨trivial, trivial, trivial⟩
 refine AW.seq ?_
 refine AW.rgs rfl fun K hK => ?_
 refine mv rfl rfl ?_
 refine bv rfl (v_bin rfl rfl b_geq) ?_
 refine b_fin hK (s' := ⟨[(0, HV.bool p0), (1, slE (encM (HV.int .u32)) x2), (4, HV.ptr 63004 v1 0), (5, HV.ar 63018 w7 eU8.k 0 ((a6.2).length)), (6, HV.int .i64 a6.1), (23, HV.bool (decide (0 ≤ a6.1)))], [(63004, v1, .arr 2 63 [HV.bool false, HV.str ([] : List UInt8)]), (63018, w7, .arr eU8.k 5 (eU8.E a6.2))]⟩) (le_q rfl rfl) ?_
 clear hK K
 refine AW.cond rfl (fun hc => ?_) (fun hc => ?_)
 ·have hc := of_decide_eq_true hc
  have h := ifT hc h
  refine AW.skip ?_
  refine AW.seq (AW.block ?_)
  refine AW.rgs rfl fun K hK => ?_
  refine mv rfl rfl ?_
  refine b_fin hK (s' := ⟨[(0, HV.bool p0), (1, slE (encM (HV.int .u32)) x2), (4, HV.ptr 63004 v1 0), (5, HV.ar 63018 w7 eU8.k 0 ((a6.2).length)), (6, HV.int .i64 a6.1), (7, HV.int .i64 3)], [(63004, v1, .arr 2 63 [HV.bool false, HV.str ([] : List UInt8)]), (63018, w7, .arr eU8.k 5 (eU8.E a6.2))]⟩) (le_q rfl rfl) ?_
  clear hK K
  refine AW.lpX h (by first | exact up_then | exact up_to) (S := Int × (List Int)) (V := Nat) (fun a v => ⟨[(0, HV.bool p0), (1, slE (encM (HV.int .u32)) x2), (4, HV.ptr 63004 v1 0), (5, HV.ar 63018 v eU8.k 0 ((a.2).length)), (6, HV.int .i64 a6.1), (7, HV.int .i64 a.1)], [(63004, v1, .arr 2 63 [HV.bool false, HV.str ([] : List UInt8)]), (63018, v, .arr eU8.k 5 (eU8.E a.2))]⟩) ?_ (X := (List Int)) (W := Nat) (fun a v => ⟨[(0, HV.bool p0), (1, slE (encM (HV.int .u32)) x2), (4, HV.ptr 63004 v1 0), (5, HV.ar 63018 v eU8.k 0 ((a).length)), (6, HV.int .i64 a6.1)], [(63004, v1, .arr 2 63 [HV.bool false, HV.str ([] : List UInt8)]), (63018, v, .arr eU8.k 5 (eU8.E a))]⟩) (fun a26 w27 h => ?_) (fun a10 w11 st12 h => ?_)
  ·exact to_le (s' := ⟨[(0, HV.bool p0), (1, slE (encM (HV.int .u32)) x2), (4, HV.ptr 63004 v1 0), (5, HV.ar 63018 w7 eU8.k 0 ((a6.2).length)), (6, HV.int .i64 a6.1), (7, HV.int .i64 3)], [(63004, v1, .arr 2 63 [HV.bool false, HV.str ([] : List UInt8)]), (63018, w7, .arr eU8.k 5 (eU8.E a6.2))]⟩) (AS.le_of ⟨rfl, rfl, rfl, rfl, rfl, rfl, trivial⟩ ⟨rfl, rfl, trivial⟩) ⟨w7, rfl⟩
  ·refine AW.rg rfl fun K hK => ?_
   refine mv rfl rfl ?_
   refine bv rfl (v_bin rfl rfl b_sub) ?_
   refine mv rfl rfl ?_
   refine b_nil (hK _ ?_)
   clear hK K
   exact to_le (s' := ⟨[(0, HV.bool p0), (1, slE (encM (HV.int .u32)) x2), (4, HV.ptr 63004 v1 0), (5, HV.ar 63018 w27 eU8.k 0 ((a26).length)), (6, HV.int .i64 (IntKind.wrap .i64 (a6.1 - 1)))], [(63004, v1, .arr 2 63 [HV.bool false, HV.str ([] : List UInt8)]), (63018, w27, .arr eU8.k 5 (eU8.E a26))]⟩) (AS.le_of ⟨rfl, rfl, rfl, rfl, rfl, trivial⟩ ⟨rfl, rfl, trivial⟩) ⟨(IntKind.wrap .i64 (a6.1 - 1), a26), w27, h, rfl⟩
  refine AW.seq ?_
  refine AW.rgs rfl fun K hK => ?_
  refine mv rfl rfl ?_
  refine bv rfl (v_bin rfl rfl b_geq) ?_
  refine b_fin hK (s' := ⟨[(0, HV.bool p0), (1, slE (encM (HV.int .u32)) x2), (4, HV.ptr 63004 v1 0), (5, HV.ar 63018 w11 eU8.k 0 ((a10.2).length)), (6, HV.int .i64 a6.1), (7, HV.int .i64 a10.1), (27, HV.bool (decide (0 ≤ a10.1)))], [(63004, v1, .arr 2 63 [HV.bool false, HV.str ([] : List UInt8)]), (63018, w11, .arr eU8.k 5 (eU8.E a10.2))]⟩) (le_q rfl rfl) ?_
  clear hK K
  refine AW.cond rfl (fun hc => ?_) (fun hc => ?_)
  ·have hc := of_decide_eq_true hc
   have h := ifT hc h
   refine AW.skip ?_
   refine AW.seqJ h (S := (List Int)) (V := Nat) (fun a v => ⟨[(0, HV.bool p0), (1, slE (encM (HV.int .u32)) x2), (4, HV.ptr 63004 v1 0), (5, HV.ar 63018 v eU8.k 0 ((a).length)), (6, HV.int .i64 a6.1), (7, HV.int .i64 a10.1)], [(63004, v1, .arr 2 63 [HV.bool false, HV.str ([] : List UInt8)]), (63018, v, .arr eU8.k 5 (eU8.E a))]⟩) (fun a14 w15 h => ?_) (fun k16 h => ?_)
   ·refine AW.rg rfl fun K hK => ?_
    refine mv rfl rfl ?_
    refine bv rfl (v_bin rfl rfl b_sub) ?_
    refine mv rfl rfl ?_
    refine b_nil (hK _ ?_)
    clear hK K
    exact to_le (s' := ⟨[(0, HV.bool p0), (1, slE (encM (HV.int .u32)) x2), (4, HV.ptr 63004 v1 0), (5, HV.ar 63018 w15 eU8.k 0 ((a14).length)), (6, HV.int .i64 a6.1), (7, HV.int .i64 (IntKind.wrap .i64 (a10.1 - 1)))], [(63004, v1, .arr 2 63 [HV.bool false, HV.str ([] : List UInt8)]), (63018, w15, .arr eU8.k 5 (eU8.E a14))]⟩) (AS.le_of ⟨rfl, rfl, rfl, rfl, rfl, rfl, trivial⟩ ⟨rfl, rfl, trivial⟩) ⟨(IntKind.wrap .i64 (a10.1 - 1), a14), w15, h, rfl⟩
   refine AW.block ?_
   refine AW.rgs rfl fun K hK => ?_
   refine mv rfl rfl ?_
   refine mv rfl rfl ?_
   obtain ⟨x17, h18, h⟩ := bS h
   refine bv rfl (v_idxF ty99 es99 rfl rfl (idx_lt h18)) ?_
   refine bv rfl (v_loadF ty97 rfl (l_cell (encM (HV.int .u32)) h18 (o := 0) rfl rfl)) ?_
   refine mv rfl rfl ?_
   refine bv rfl (v_bin rfl rfl b_mul) ?_
   obtain ⟨h19, h⟩ := ifN h
   refine bv rfl (v_bin rfl rfl (b_shr h19)) ?_
   refine bv rfl (v_convI ty97 ty5 rfl) ?_
   refine mv rfl rfl ?_
   refine b_fin hK (s' := ⟨[(0, HV.bool p0), (1, slE (encM (HV.int .u32)) x2), (4, HV.ptr 63004 v1 0), (5, HV.ar 63018 w11 eU8.k 0 ((a10.2).length)), (6, HV.int .i64 a6.1), (7, HV.int .i64 a10.1), (8, HV.int .u8 (IntKind.wrap .u8 (Int.fdiv x17 (2 ^ (min ((IntKind.wrap .i64 (8 * a10.1))).toNat (IntKind.bits .u32))))))], [(63004, v1, .arr 2 63 [HV.bool false, HV.str ([] : List UInt8)]), (63018, w11, .arr eU8.k 5 (eU8.E a10.2))]⟩) (le_q rfl rfl) ?_
   clear hK K
   refine AW.seqJ h (S := Bool) (V := Unit) (fun a v => ⟨[(0, HV.bool p0), (1, slE (encM (HV.int .u32)) x2), (4, HV.ptr 63004 v1 0), (5, HV.ar 63018 w11 eU8.k 0 ((a10.2).length)), (6, HV.int .i64 a6.1), (7, HV.int .i64 a10.1), (8, HV.int .u8 (IntKind.wrap .u8 (Int.fdiv x17 (2 ^ (min ((IntKind.wrap .i64 (8 * a10.1))).toNat (IntKind.bits .u32)))))), (44, HV.bool a)], [(63004, v1, .arr 2 63 [HV.bool false, HV.str ([] : List UInt8)]), (63018, w11, .arr eU8.k 5 (eU8.E a10.2))]⟩) (fun a20 w21 h => ?_) (fun k22 h => ?_)
   ·refine AW.cond rfl (fun hc => ?_) (fun hc => ?_)
    ·have h := ifT hc h
     refine AW.rg rfl fun K hK => ?_
     refine mv rfl rfl ?_
     refine mv rfl rfl ?_
     refine b_op rfl (o_bsl rfl rfl (as_of (cs := [HV.int .u8 (IntKind.wrap .u8 (Int.fdiv x17 (2 ^ (min ((IntKind.wrap .i64 (8 * a10.1))).toNat (IntKind.bits .u32)))))]) ty25 ty5 rfl rfl rfl rfl rfl) ?_)
     obtain ⟨h24, h⟩ := ifN h
     refine b_op rfl (o_appE eU8 (l := a10.2) (m := [IntKind.wrap .u8 (Int.fdiv x17 (2 ^ (min ((IntKind.wrap .i64 (8 * a10.1))).toNat (IntKind.bits .u32))))]) rfl rfl ty25 ty25 ty5 rfl rfl rfl rfl rfl h24 (fun v23 => ?_))
     refine mv rfl rfl ?_
     refine b_nil (hK _ ?_)
     clear hK K
     exact to_le (s' := ⟨[(0, HV.bool p0), (1, slE (encM (HV.int .u32)) x2), (4, HV.ptr 63004 v1 0), (5, HV.ar 63018 v23 eU8.k 0 ((a10.2 ++ [IntKind.wrap .u8 (Int.fdiv x17 (2 ^ (min ((IntKind.wrap .i64 (8 * a10.1))).toNat (IntKind.bits .u32))))]).length)), (6, HV.int .i64 a6.1), (7, HV.int .i64 a10.1)], [(63004, v1, .arr 2 63 [HV.bool false, HV.str ([] : List UInt8)]), (63018, v23, .arr eU8.k 5 (eU8.E (a10.2 ++ [IntKind.wrap .u8 (Int.fdiv x17 (2 ^ (min ((IntKind.wrap .i64 (8 * a10.1))).toNat (IntKind.bits .u32))))])))]⟩) (AS.le_of ⟨rfl, rfl, rfl, rfl, rfl, rfl, trivial⟩ ⟨rfl, rfl, trivial⟩) ⟨a10.2 ++ [IntKind.wrap .u8 (Int.fdiv x17 (2 ^ (min ((IntKind.wrap .i64 (8 * a10.1))).toNat (IntKind.bits .u32))))], v23, h, rfl⟩
    have h := ifF (bF' hc) h
    refine AW.skip ?_
    exact to_le (s' := ⟨[(0, HV.bool p0), (1, slE (encM (HV.int .u32)) x2), (4, HV.ptr 63004 v1 0), (5, HV.ar 63018 w11 eU8.k 0 ((a10.2).length)), (6, HV.int .i64 a6.1), (7, HV.int .i64 a10.1)], [(63004, v1, .arr 2 63 [HV.bool false, HV.str ([] : List UInt8)]), (63018, w11, .arr eU8.k 5 (eU8.E a10.2))]⟩) (AS.le_of ⟨rfl, rfl, rfl, rfl, rfl, rfl, trivial⟩ ⟨rfl, rfl, trivial⟩) ⟨a10.2, w11, h, rfl⟩
   refine AW.rg rfl fun K hK => ?_
   refine mv rfl rfl ?_
   refine bv rfl (v_bin rfl rfl b_neq) ?_
   refine mv rfl rfl ?_
   by_cases hg25 : (IntKind.wrap .u8 (Int.fdiv x17 (2 ^ (min ((IntKind.wrap .i64 (8 * a10.1))).toNat (IntKind.bits .u32))))) ≠ 0
   ·have h := ifT hg25 h
    refine b_F rfl rfl rfl rfl rfl (decide_eq_true hg25) ?_
    refine b_F rfl rfl rfl rfl rfl rfl ?_
    refine b_F rfl rfl rfl rfl rfl rfl ?_
    refine bv rfl (v_pickT rfl rfl rfl) ?_
    refine b_nil (hK _ ?_)
    clear hK K
    exact to_le (s' := ⟨[(0, HV.bool p0), (1, slE (encM (HV.int .u32)) x2), (4, HV.ptr 63004 v1 0), (5, HV.ar 63018 w11 eU8.k 0 ((a10.2).length)), (6, HV.int .i64 a6.1), (7, HV.int .i64 a10.1), (8, HV.int .u8 (IntKind.wrap .u8 (Int.fdiv x17 (2 ^ (min ((IntKind.wrap .i64 (8 * a10.1))).toNat (IntKind.bits .u32)))))), (44, HV.bool true)], [(63004, v1, .arr 2 63 [HV.bool false, HV.str ([] : List UInt8)]), (63018, w11, .arr eU8.k 5 (eU8.E a10.2))]⟩) (AS.le_of ⟨rfl, rfl, rfl, rfl, rfl, rfl, rfl, rfl, trivial⟩ ⟨rfl, rfl, trivial⟩) ⟨true, (), h, rfl⟩
   have h := ifF hg25 h
   refine b_T rfl rfl rfl rfl (decide_eq_false hg25) (o_val rfl (mv_val rfl rfl).2 ?_)
   refine b_T rfl rfl rfl rfl rfl (o_val rfl (v_lenA rfl rfl ty25 rfl rfl) ?_)
   refine b_T rfl rfl rfl rfl rfl (o_val rfl (v_bin rfl rfl b_gtr) ?_)
   refine bv rfl (v_pickF rfl rfl rfl) ?_
   refine b_nil (hK _ ?_)
   clear hK K
   exact to_le (s' := ⟨[(0, HV.bool p0), (1, slE (encM (HV.int .u32)) x2), (4, HV.ptr 63004 v1 0), (5, HV.ar 63018 w11 eU8.k 0 ((a10.2).length)), (6, HV.int .i64 a6.1), (7, HV.int .i64 a10.1), (8, HV.int .u8 (IntKind.wrap .u8 (Int.fdiv x17 (2 ^ (min ((IntKind.wrap .i64 (8 * a10.1))).toNat (IntKind.bits .u32)))))), (44, HV.bool (decide (0 < (((a10.2).length : Nat) : Int))))], [(63004, v1, .arr 2 63 [HV.bool false, HV.str ([] : List UInt8)]), (63018, w11, .arr eU8.k 5 (eU8.E a10.2))]⟩) (AS.le_of ⟨rfl, rfl, rfl, rfl, rfl, rfl, rfl, rfl, trivial⟩ ⟨rfl, rfl, trivial⟩) ⟨decide (0 < (((a10.2).length : Nat) : Int)), (), h, rfl⟩
  have hc := of_decide_eq_false hc
  have h := ifF hc h
  refine AW.exit ?_
  exact to_le (s' := ⟨[(0, HV.bool p0), (1, slE (encM (HV.int .u32)) x2), (4, HV.ptr 63004 v1 0), (5, HV.ar 63018 w11 eU8.k 0 ((a10.2).length)), (6, HV.int .i64 a6.1)], [(63004, v1, .arr 2 63 [HV.bool false, HV.str ([] : List UInt8)]), (63018, w11, .arr eU8.k 5 (eU8.E a10.2))]⟩) (AS.le_of ⟨rfl, rfl, rfl, rfl, rfl, trivial⟩ ⟨rfl, rfl, trivial⟩) ⟨a10.2, w11, h, rfl⟩
 have hc := of_decide_eq_false hc
 have h := ifF hc h
 refine AW.exit ?_
 exact to_le (s' := ⟨[(0, HV.bool p0), (4, HV.ptr 63004 v1 0), (5, HV.ar 63018 w7 eU8.k 0 ((a6.2).length))], [(63004, v1, .arr 2 63 [HV.bool false, HV.str ([] : List UInt8)]), (63018, w7, .arr eU8.k 5 (eU8.E a6.2))]⟩) (AS.le_of ⟨rfl, rfl, rfl, trivial⟩ ⟨rfl, rfl, trivial⟩) ⟨a6.2, w7, h, rfl⟩

set_option maxHeartbeats 1600000 in
set_option maxRecDepth 100000 in
theorem w_integer_Of {p0 : Int} {r : TNegMag} (h : m_integer_Of p0 = some r) : Pure Tryd.prog 50 [HV.int .i64 p0] (· = HV.agg [HV.bool r.1, HV.str r.2]) := by
 unfold m_integer_Of at h
 refine Pure.of_body Tryd.func50 rfl rfl (Nat.le_of_ble_eq_true rfl) fun hf => ?_
 unfold Tryd.f50
 dsimp only [enumS, Nat.reduceAdd]
 refine AW.rgs rfl fun K hK => ?_
 refine b_op rfl (o_alloc (fid := 50) (zs := [HV.bool false, HV.str ([] : List UInt8)]) 50002 rfl rfl ty63 rfl (fun v1 => ?_))
 refine b_fin hK (s' := ⟨[(0, HV.int .i64 p0), (2, HV.ptr 50002 v1 0)], [(50002, v1, .arr 2 63 [HV.bool false, HV.str ([] : List UInt8)])]⟩) (le_q rfl rfl) ?_
 clear hK K
 refine AW.rgs rfl fun K hK => ?_
 refine mv rfl rfl ?_
 refine bv rfl (v_convI ty3 ty95 rfl) ?_
 refine mv rfl rfl ?_
 refine b_fin hK (s' := ⟨[(0, HV.int .i64 p0), (2, HV.ptr 50002 v1 0), (3, HV.int .u64 (IntKind.wrap .u64 p0))], [(50002, v1, .arr 2 63 [HV.bool false, HV.str ([] : List UInt8)])]⟩) (le_q rfl rfl) ?_
 clear hK K
 refine AW.seq ?_
 refine AW.rgs rfl fun K hK => ?_
 refine mv rfl rfl ?_
 refine bv rfl (v_bin rfl rfl b_lss) ?_
 refine b_fin hK (s' := ⟨[(0, HV.int .i64 p0), (2, HV.ptr 50002 v1 0), (3, HV.int .u64 (IntKind.wrap .u64 p0)), (7, HV.bool (decide (p0 < 0)))], [(50002, v1, .arr 2 63 [HV.bool false, HV.str ([] : List UInt8)])]⟩) (le_q rfl rfl) ?_
 clear hK K
 refine AW.lastJ h (by first | exact up_then | exact up_to) (S := Int) (V := Unit) (fun a v => ⟨[(0, HV.int .i64 p0), (2, HV.ptr 50002 v1 0), (3, HV.int .u64 a)], [(50002, v1, .arr 2 63 [HV.bool false, HV.str ([] : List UInt8)])]⟩) (fun a2 w3 h => ?_) (fun k4 h => ?_)
 ·refine AW.rgs rfl fun K hK => ?_
  refine mv rfl rfl ?_
  refine bv rfl (v_bin rfl rfl b_lss) ?_
  refine mv rfl rfl ?_
  refine bv rfl (v_convI ty95 ty97 rfl) ?_
  refine mv rfl rfl ?_
  refine bv rfl (v_bin rfl rfl (b_shr (by decide))) ?_
  refine bv rfl (v_convI ty95 ty97 rfl) ?_
  refine b_op rfl (o_bsl rfl rfl (as_of (cs := [HV.int .u32 (IntKind.wrap .u32 a2), HV.int .u32 (IntKind.wrap .u32 (Int.fdiv a2 (2 ^ (min (32 : Int).toNat (IntKind.bits .u64)))))]) ty99 ty97 rfl rfl rfl rfl rfl) ?_)
  obtain ⟨x5, h6, h⟩ := bS h
  refine b_op rfl (o_call rfl rfl rfl rfl (ACallD.pure0 (w_integer_number h6)) ?_)
  refine b_op rfl (o_store (cs := [HV.bool x5.1, HV.str x5.2]) (zs := [HV.bool x5.1, HV.str x5.2]) rfl rfl rfl ty63 rfl rfl rfl rfl rfl ?_)
  refine b_fin hK (s' := ⟨[(2, HV.ptr 50002 v1 0)], [(50002, v1, .arr 2 63 [HV.bool x5.1, HV.str x5.2])]⟩) (le_q rfl rfl) ?_
  clear hK K
  refine AW.ret ?_
  have h := Option.some.inj h
  subst h
  exact ret_pure (hs := [HV.agg [HV.bool x5.1, HV.str x5.2]]) (q := HV.agg [HV.bool x5.1, HV.str x5.2]) (.inr rfl) (resP ty63 rfl rfl (l_litA rfl (Nat.le_of_ble_eq_true rfl) rfl) rfl) rfl ⟨trivial, trivial, trivial⟩
 refine AW.cond rfl (fun hc => ?_) (fun hc => ?_)
 ·have hc := of_decide_eq_true hc
  have h := ifT hc h
  refine AW.rg rfl fun K hK => ?_
  refine mv rfl rfl ?_
  refine bv rfl (v_neg rfl) ?_
  refine mv rfl rfl ?_
  refine b_nil (hK _ ?_)
  clear hK K
  exact to_le (s' := ⟨[(0, HV.int .i64 p0), (2, HV.ptr 50002 v1 0), (3, HV.int .u64 (IntKind.wrap .u64 (0 - (IntKind.wrap .u64 p0))))], [(50002, v1, .arr 2 63 [HV.bool false, HV.str ([] : List UInt8)])]⟩) (AS.le_of ⟨rfl, rfl, rfl, trivial⟩ ⟨rfl, trivial⟩) ⟨IntKind.wrap .u64 (0 - (IntKind.wrap .u64 p0)), (), h, rfl⟩
 have hc := of_decide_eq_false hc
 have h := ifF hc h
 refine AW.skip ?_
 exact to_le (s' := ⟨[(0, HV.int .i64 p0), (2, HV.ptr 50002 v1 0), (3, HV.int .u64 (IntKind.wrap .u64 p0))], [(50002, v1, .arr 2 63 [HV.bool false, HV.str ([] : List UInt8)])]⟩) (AS.le_of ⟨rfl, rfl, rfl, trivial⟩ ⟨rfl, trivial⟩) ⟨IntKind.wrap .u64 p0, (), h, rfl⟩

set_option maxHeartbeats 1600000 in
set_option maxRecDepth 100000 in
theorem w_integer_digits {p0 : TNegMag} {r : (List (Int))} (h : m_integer_digits p0 = some r) : Pure Tryd.prog 64 [HV.agg [HV.bool p0.1, HV.str p0.2]] (· = slE (encM (HV.int .u32)) r) := by
 unfold m_integer_digits at h
 refine Pure.of_body Tryd.func64 rfl rfl (Nat.le_of_ble_eq_true rfl) fun hf => ?_
 unfold Tryd.f64
 dsimp only [enumS, Nat.reduceAdd]
 refine AW.rgs rfl fun K hK => ?_
 refine b_op rfl (o_box rfl rfl rfl ?_)
 refine mv rfl rfl ?_
 refine b_fin hK (s' := ⟨[(1, HV.fptr [HV.bool p0.1, HV.str p0.2] 0)], []⟩) (le_q rfl rfl) ?_
 clear hK K
 refine AW.rgs rfl fun K hK => ?_
 refine bv rfl (v_fieldAddrF fo63_1 rfl) ?_
 refine bv rfl (v_loadF ty9 rfl (l_lit rfl rfl)) ?_
 refine bv rfl (v_lenS rfl rfl ty9 rfl) ?_
 refine bv rfl (v_bin rfl rfl b_add) ?_
 refine bv rfl (v_bin rfl rfl (b_quo (by decide))) ?_
 obtain ⟨h2, h⟩ := ifN h
 refine b_op rfl (o_makeE (fid := 64) (encM (HV.int .u32)) (0 : Int) 64011 rfl rfl ty99 rfl rfl ty97 rfl rfl h2 (fun v1 => ?_))
 refine mv rfl rfl ?_
 refine b_fin hK (s' := ⟨[(1, HV.fptr [HV.bool p0.1, HV.str p0.2] 0), (3, HV.ar 64011 v1 (encM (HV.int .u32)).k 0 ((List.replicate (IntKind.wrap .i64 (Int.tdiv (IntKind.wrap .i64 (((p0.2).length : Int) + 3)) 4)).toNat (0 : Int)).length))], [(64011, v1, .arr (encM (HV.int .u32)).k 97 ((encM (HV.int .u32)).E (List.replicate (IntKind.wrap .i64 (Int.tdiv (IntKind.wrap .i64 (((p0.2).length : Int) + 3)) 4)).toNat (0 : Int))))]⟩) (le_q rfl rfl) ?_
 clear hK K
 refine AW.seq ?_
 refine AW.rgs rfl fun K hK => ?_
 refine bv rfl (v_fieldAddrF fo63_1 rfl) ?_
 refine bv rfl (v_loadF ty9 rfl (l_lit rfl rfl)) ?_
 refine bv rfl (v_lenS rfl rfl ty9 rfl) ?_
 refine mv rfl rfl ?_
 refine b_fin hK (s' := ⟨[(1, HV.fptr [HV.bool p0.1, HV.str p0.2] 0), (3, HV.ar 64011 v1 (encM (HV.int .u32)).k 0 ((List.replicate (IntKind.wrap .i64 (Int.tdiv (IntKind.wrap .i64 (((p0.2).length : Int) + 3)) 4)).toNat (0 : Int)).length)), (14, HV.int .i64 ((p0.2).length : Int)), (15, HV.int .i64 0)], [(64011, v1, .arr (encM (HV.int .u32)).k 97 ((encM (HV.int .u32)).E (List.replicate (IntKind.wrap .i64 (Int.tdiv (IntKind.wrap .i64 (((p0.2).length : Int) + 3)) 4)).toNat (0 : Int))))]⟩) (le_q rfl rfl) ?_
 clear hK K
 refine AW.lpX h (by first | exact up_then | exact up_to) (S := Int × (List Int)) (V := Unit) (fun a v => ⟨[(1, HV.fptr [HV.bool p0.1, HV.str p0.2] 0), (3, HV.ar 64011 v1 (encM (HV.int .u32)).k 0 ((a.2).length)), (14, HV.int .i64 ((p0.2).length : Int)), (15, HV.int .i64 a.1)], [(64011, v1, .arr (encM (HV.int .u32)).k 97 ((encM (HV.int .u32)).E a.2))]⟩) ?_ (X := (List Int)) (W := Unit) (fun a v => ⟨[(3, HV.ar 64011 v1 (encM (HV.int .u32)).k 0 ((a).length))], [(64011, v1, .arr (encM (HV.int .u32)).k 97 ((encM (HV.int .u32)).E a))]⟩) (fun a16 w17 h => ?_) (fun a3 w4 st5 h => ?_)
 ·exact to_le (s' := ⟨[(1, HV.fptr [HV.bool p0.1, HV.str p0.2] 0), (3, HV.ar 64011 v1 (encM (HV.int .u32)).k 0 ((List.replicate (IntKind.wrap .i64 (Int.tdiv (IntKind.wrap .i64 (((p0.2).length : Int) + 3)) 4)).toNat (0 : Int)).length)), (14, HV.int .i64 ((p0.2).length : Int)), (15, HV.int .i64 0)], [(64011, v1, .arr (encM (HV.int .u32)).k 97 ((encM (HV.int .u32)).E (List.replicate (IntKind.wrap .i64 (Int.tdiv (IntKind.wrap .i64 (((p0.2).length : Int) + 3)) 4)).toNat (0 : Int))))]⟩) (AS.le_of ⟨rfl, rfl, rfl, rfl, trivial⟩ ⟨rfl, trivial⟩) ⟨(), rfl⟩
 ·refine AW.to (to_frz 2 [(64011, v1, .arr (encM (HV.int .u32)).k 97 ((encM (HV.int .u32)).E a16))] ⟨[(3, slE (encM (HV.int .u32)) a16)], []⟩ ⟨⟨_, rfl, frz_slE (encM (HV.int .u32)) (l := a16) rfl fun _ _ => rfl⟩, trivial⟩ trivial ⟨rfl, trivial⟩ ⟨rfl, trivial⟩ ?_)
  refine AW.rgs rfl fun K hK => ?_
  refine mv rfl rfl ?_
  obtain ⟨x18, h19, h⟩ := bS h
  refine b_op rfl (o_call rfl rfl rfl rfl (ACallD.pure0 (w_integer_trim h19)) ?_)
  refine mv rfl rfl ?_
  refine b_fin hK (s' := ⟨[(2, slE (encM (HV.int .u32)) x18)], []⟩) (le_q rfl rfl) ?_
  clear hK K
  refine AW.ret ?_
  have h := Option.some.inj h
  subst h
  exact ret_pure (hs := [slE (encM (HV.int .u32)) x18]) (q := slE (encM (HV.int .u32)) x18) (.inr rfl) (resT rfl rfl) rfl (clean_slE fun _ _ => ⟨trivial, trivial⟩)
 refine AW.rgs rfl fun K hK => ?_
 refine bv rfl (v_bin rfl rfl b_lss) ?_
 refine b_fin hK (s' := ⟨[(1, HV.fptr [HV.bool p0.1, HV.str p0.2] 0), (3, HV.ar 64011 v1 (encM (HV.int .u32)).k 0 ((a3.2).length)), (14, HV.int .i64 ((p0.2).length : Int)), (15, HV.int .i64 a3.1), (16, HV.bool (decide (a3.1 < ((p0.2).length : Int))))], [(64011, v1, .arr (encM (HV.int .u32)).k 97 ((encM (HV.int .u32)).E a3.2))]⟩) (le_q rfl rfl) ?_
 clear hK K
 refine AW.cseq rfl (fun hc => ?_) (fun hc => ?_)
 ·have hc := of_decide_eq_true hc
  have h := ifT hc h
  refine AW.skip ?_
  refine AW.seq (AW.block ?_)
  refine AW.rgs rfl fun K hK => ?_
  refine mv rfl rfl ?_
  refine mv rfl rfl ?_
  refine b_fin hK (s' := ⟨[(1, HV.fptr [HV.bool p0.1, HV.str p0.2] 0), (3, HV.ar 64011 v1 (encM (HV.int .u32)).k 0 ((a3.2).length)), (4, HV.int .i64 a3.1), (14, HV.int .i64 ((p0.2).length : Int)), (15, HV.int .i64 a3.1)], [(64011, v1, .arr (encM (HV.int .u32)).k 97 ((encM (HV.int .u32)).E a3.2))]⟩) (le_q rfl rfl) ?_
  clear hK K
  refine AW.rgs rfl fun K hK => ?_
  refine bv rfl (v_fieldAddrF fo63_1 rfl) ?_
  refine bv rfl (v_loadF ty9 rfl (l_lit rfl rfl)) ?_
  refine bv rfl (v_fieldAddrF fo63_1 rfl) ?_
  refine bv rfl (v_loadF ty9 rfl (l_lit rfl rfl)) ?_
  refine bv rfl (v_lenS rfl rfl ty9 rfl) ?_
  refine bv rfl (v_bin rfl rfl b_sub) ?_
  refine mv rfl rfl ?_
  refine bv rfl (v_bin rfl rfl b_sub) ?_
  obtain ⟨x7, h8, h⟩ := bS h
  refine bv rfl (v_idxS ty9 rfl rfl h8) ?_
  refine mv rfl rfl ?_
  refine b_fin hK (s' := ⟨[(1, HV.fptr [HV.bool p0.1, HV.str p0.2] 0), (3, HV.ar 64011 v1 (encM (HV.int .u32)).k 0 ((a3.2).length)), (4, HV.int .i64 a3.1), (5, HV.int .u8 (x7.toNat : Int)), (14, HV.int .i64 ((p0.2).length : Int)), (15, HV.int .i64 a3.1)], [(64011, v1, .arr (encM (HV.int .u32)).k 97 ((encM (HV.int .u32)).E a3.2))]⟩) (le_q rfl rfl) ?_
  clear hK K
  refine AW.dg 13 follows rfl rfl fun K hK => ?_
  refine sm rfl rfl ?_
  refine sm rfl rfl ?_
  refine sv rfl (v_bin rfl rfl (b_quo (by decide))) ?_
  obtain ⟨x9, h10, h⟩ := bS h
  refine sv rfl (v_idxA ty99 es99 rfl rfl (idx_lt h10) rfl) ?_
  obtain ⟨x11, h12, h⟩ := bS h
  refine sv rfl (v_loadP ty97 rfl rfl (l_cell (encM (HV.int .u32)) h12 (o := 0) rfl rfl)) ?_
  refine sm rfl rfl ?_
  refine sv rfl (v_convI ty5 ty97 rfl) ?_
  refine sm rfl rfl ?_
  refine sv rfl (v_bin rfl rfl (b_rem (by decide))) ?_
  refine sv rfl (v_bin rfl rfl b_mul) ?_
  obtain ⟨h13, h⟩ := ifN h
  refine sv rfl (v_bin rfl rfl (b_shl h13)) ?_
  refine sv rfl (v_bin rfl rfl b_or) ?_
  obtain ⟨x14, h15, h⟩ := bS h
  refine sv rfl (v_idxA ty99 es99 rfl rfl (idx_lt h15) rfl) ?_
  refine s_nil ?_
  refine b_op rfl (o_storeE (encM (HV.int .u32)) (l := a3.2) (j := (IntKind.wrap .i64 (Int.tdiv a3.1 4))) (v := IntKind.wrap .u32 (BitVec.ofInt (IntKind.bits .u32) x11 ||| BitVec.ofInt (IntKind.bits .u32) (IntKind.wrap .u32 ((IntKind.wrap .u32 (x7.toNat : Int)) * 2 ^ (min ((IntKind.wrap .i64 (8 * (Int.tmod a3.1 4)))).toNat (IntKind.bits .u32))))).toNat) rfl rfl rfl ty97 rfl rfl rfl (idx_lt h15) ?_)
  refine b_fin hK (s' := ⟨[(1, HV.fptr [HV.bool p0.1, HV.str p0.2] 0), (3, HV.ar 64011 v1 (encM (HV.int .u32)).k 0 (((a3.2).set (IntKind.wrap .i64 (Int.tdiv a3.1 4)).toNat (IntKind.wrap .u32 (BitVec.ofInt (IntKind.bits .u32) x11 ||| BitVec.ofInt (IntKind.bits .u32) (IntKind.wrap .u32 ((IntKind.wrap .u32 (x7.toNat : Int)) * 2 ^ (min ((IntKind.wrap .i64 (8 * (Int.tmod a3.1 4)))).toNat (IntKind.bits .u32))))).toNat)).length)), (14, HV.int .i64 ((p0.2).length : Int)), (15, HV.int .i64 a3.1)], [(64011, v1, .arr (encM (HV.int .u32)).k 97 ((encM (HV.int .u32)).E ((a3.2).set (IntKind.wrap .i64 (Int.tdiv a3.1 4)).toNat (IntKind.wrap .u32 (BitVec.ofInt (IntKind.bits .u32) x11 ||| BitVec.ofInt (IntKind.bits .u32) (IntKind.wrap .u32 ((IntKind.wrap .u32 (x7.toNat : Int)) * 2 ^ (min ((IntKind.wrap .i64 (8 * (Int.tmod a3.1 4)))).toNat (IntKind.bits .u32))))).toNat))))]⟩) (AS.le_of ⟨rfl, arl (by first | rfl | simp only [List.length_set, sortI_len, sortS_len]), rfl, rfl, trivial⟩ ⟨rfl, trivial⟩) ?_
  clear hK K
  refine AW.rg rfl fun K hK => ?_
  refine bv rfl (v_bin rfl rfl b_add) ?_
  refine mv rfl rfl ?_
  refine b_nil (hK _ ?_)
  clear hK K
  exact to_le (s' := ⟨[(1, HV.fptr [HV.bool p0.1, HV.str p0.2] 0), (3, HV.ar 64011 v1 (encM (HV.int .u32)).k 0 (((a3.2).set (IntKind.wrap .i64 (Int.tdiv a3.1 4)).toNat (IntKind.wrap .u32 (BitVec.ofInt (IntKind.bits .u32) x11 ||| BitVec.ofInt (IntKind.bits .u32) (IntKind.wrap .u32 ((IntKind.wrap .u32 (x7.toNat : Int)) * 2 ^ (min ((IntKind.wrap .i64 (8 * (Int.tmod a3.1 4)))).toNat (IntKind.bits .u32))))).toNat)).length)), (14, HV.int .i64 ((p0.2).length : Int)), (15, HV.int .i64 (IntKind.wrap .i64 (a3.1 + 1)))], [(64011, v1, .arr (encM (HV.int .u32)).k 97 ((encM (HV.int .u32)).E ((a3.2).set (IntKind.wrap .i64 (Int.tdiv a3.1 4)).toNat (IntKind.wrap .u32 (BitVec.ofInt (IntKind.bits .u32) x11 ||| BitVec.ofInt (IntKind.bits .u32) (IntKind.wrap .u32 ((IntKind.wrap .u32 (x7.toNat : Int)) * 2 ^ (min ((IntKind.wrap .i64 (8 * (Int.tmod a3.1 4)))).toNat (IntKind.bits .u32))))).toNat))))]⟩) (AS.le_of ⟨rfl, rfl, rfl, rfl, trivial⟩ ⟨rfl, trivial⟩) ⟨(IntKind.wrap .i64 (a3.1 + 1), (a3.2).set (IntKind.wrap .i64 (Int.tdiv a3.1 4)).toNat (IntKind.wrap .u32 (BitVec.ofInt (IntKind.bits .u32) x11 ||| BitVec.ofInt (IntKind.bits .u32) (IntKind.wrap .u32 ((IntKind.wrap .u32 (x7.toNat : Int)) * 2 ^ (min ((IntKind.wrap .i64 (8 * (Int.tmod a3.1 4)))).toNat (IntKind.bits .u32))))).toNat)), (), h, rfl⟩
 have hc := of_decide_eq_false hc
 have h := ifF hc h
 refine AW.exit ?_
 exact to_le (s' := ⟨[(3, HV.ar 64011 v1 (encM (HV.int .u32)).k 0 ((a3.2).length))], [(64011, v1, .arr (encM (HV.int .u32)).k 97 ((encM (HV.int .u32)).E a3.2))]⟩) (AS.le_of ⟨rfl, trivial⟩ ⟨rfl, trivial⟩) ⟨a3.2, (), h, rfl⟩

end Go.AW
