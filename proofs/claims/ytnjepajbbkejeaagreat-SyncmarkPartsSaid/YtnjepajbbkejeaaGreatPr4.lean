import Derived.Test.YtnjepajbbkejeaaGreatPr3
import Derived.DeepKeys3
import Derived.Lib.IndexBytes
import Derived.Shelf.Strings.Shaped
import Derived.Test.YtnjepajbbkejeaaGreatChecked
import Derived.WideKeyMaps
namespace Go.AW
open Go Go.Proofs
set_option linter.unusedVariables false
set_option maxHeartbeats 1600000 in
set_option maxRecDepth 100000 in
theorem w_graph_list {p0 : TFromLabelTo} {r : (List (Int))} (h : m_graph_list p0 = some r) : Pure Tryz.prog 64 [HV.agg [HV.int .i64 p0.1, HV.int .i64 p0.2.1, HV.int .i64 p0.2.2]] (· = slE eInt r) := by
 unfold m_graph_list at h
 refine Pure.of_body Tryz.func64 rfl rfl (Nat.le_of_ble_eq_true rfl) fun hf => ?_
 unfold Tryz.f64
 dsimp only [enumS, Nat.reduceAdd]
 refine AW.rgs rfl fun K hK => ?_
 refine b_op rfl (o_box rfl rfl rfl ?_)
 refine mv rfl rfl ?_
 refine b_fin hK (s' := ⟨[(1, HV.fptr [HV.int .i64 p0.1, HV.int .i64 p0.2.1, HV.int .i64 p0.2.2] 0)], []⟩) (le_q rfl rfl) ?_
 clear hK K
 refine AW.rgs rfl fun K hK => ?_
 refine bv rfl (v_fieldAddrF fo44_0 rfl) ?_
 refine bv rfl (v_loadF ty3 rfl (l_lit rfl rfl)) ?_
 refine bv rfl (v_fieldAddrF fo44_1 rfl) ?_
 refine bv rfl (v_loadF ty3 rfl (l_lit rfl rfl)) ?_
 refine bv rfl (v_fieldAddrF fo44_2 rfl) ?_
 refine bv rfl (v_loadF ty3 rfl (l_lit rfl rfl)) ?_
 refine b_op rfl (o_bsl rfl rfl (as_of (cs := [HV.int .i64 p0.1, HV.int .i64 p0.2.1, HV.int .i64 p0.2.2]) ty55 ty3 rfl rfl rfl rfl rfl) ?_)
 refine mv rfl rfl ?_
 refine b_fin hK (s' := ⟨[(2, slE eInt [p0.1, p0.2.1, p0.2.2])], []⟩) (le_q rfl rfl) ?_
 clear hK K
 refine AW.ret ?_
 have h := Option.some.inj h
 subst h
 exact ret_pure (hs := [slE eInt [p0.1, p0.2.1, p0.2.2]]) (q := slE eInt [p0.1, p0.2.1, p0.2.2]) (.inr rfl) (resT rfl rfl) rfl (clean_slE fun _ _ => ⟨trivial, trivial⟩)

set_option maxHeartbeats 1600000 in
set_option maxRecDepth 100000 in
theorem w_cmp_isNaN_int {p0 : Int} {r : Bool} (h : m_cmp_isNaN_int p0 = some r) : Pure Tryz.prog 132 [HV.int .i64 p0] (· = HV.bool r) := by
 unfold m_cmp_isNaN_int at h
 refine Pure.of_body Tryz.func132 rfl rfl (Nat.le_of_ble_eq_true rfl) fun hf => ?_
 unfold Tryz.f132
 dsimp only [enumS, Nat.reduceAdd]
 refine AW.rgs rfl fun K hK => ?_
 refine mv rfl rfl ?_
 refine b_fin hK (s' := ⟨[(0, HV.int .i64 p0)], []⟩) (le_q rfl rfl) ?_
 clear hK K
 refine AW.rgs rfl fun K hK => ?_
 refine mv rfl rfl ?_
 refine mv rfl rfl ?_
 refine bv rfl (v_bin rfl rfl b_neq) ?_
 refine mv rfl rfl ?_
 refine b_fin hK (s' := ⟨[(2, HV.bool (decide (p0 ≠ p0)))], []⟩) (le_q rfl rfl) ?_
 clear hK K
 refine AW.ret ?_
 have h := Option.some.inj h
 subst h
 exact ret_pure (hs := [HV.bool (decide (p0 ≠ p0))]) (q := HV.bool (decide (p0 ≠ p0))) (.inr rfl) (resT rfl rfl) rfl trivial

set_option maxHeartbeats 1600000 in
set_option maxRecDepth 100000 in
theorem w_cmp_Compare_int {p0 : Int} {p1 : Int} {r : Int} (h : m_cmp_Compare_int p0 p1 = some r) : Pure Tryz.prog 116 [HV.int .i64 p0, HV.int .i64 p1] (· = HV.int .i64 r) := by
 unfold m_cmp_Compare_int at h
 refine Pure.of_body Tryz.func116 rfl rfl (Nat.le_of_ble_eq_true rfl) fun hf => ?_
 unfold Tryz.f116
 dsimp only [enumS, Nat.reduceAdd]
 refine AW.rgs rfl fun K hK => ?_
 refine mv rfl rfl ?_
 refine b_fin hK (s' := ⟨[(0, HV.int .i64 p0), (1, HV.int .i64 p1)], []⟩) (le_q rfl rfl) ?_
 clear hK K
 refine AW.rgs rfl fun K hK => ?_
 refine mv rfl rfl ?_
 obtain ⟨x1, h2, h⟩ := bS h
 refine b_op rfl (o_call rfl rfl rfl rfl (ACallD.pure0 (w_cmp_isNaN_int h2)) ?_)
 refine mv rfl rfl ?_
 refine b_fin hK (s' := ⟨[(0, HV.int .i64 p0), (1, HV.int .i64 p1), (5, HV.bool x1)], []⟩) (le_q rfl rfl) ?_
 clear hK K
 refine AW.rgs rfl fun K hK => ?_
 refine mv rfl rfl ?_
 obtain ⟨x3, h4, h⟩ := bS h
 refine b_op rfl (o_call rfl rfl rfl rfl (ACallD.pure0 (w_cmp_isNaN_int h4)) ?_)
 refine mv rfl rfl ?_
 refine b_fin hK (s' := ⟨[(0, HV.int .i64 p0), (1, HV.int .i64 p1), (5, HV.bool x1), (6, HV.bool x3)], []⟩) (le_q rfl rfl) ?_
 clear hK K
 refine AW.seq ?_
 refine AW.rgs rfl fun K hK => ?_
 refine mv rfl rfl ?_
 refine b_fin hK (s' := ⟨[(0, HV.int .i64 p0), (1, HV.int .i64 p1), (6, HV.bool x3), (11, HV.bool x1)], []⟩) (le_q rfl rfl) ?_
 clear hK K
 refine AW.cond rfl (fun hc => ?_) (fun hc => ?_)
 ·have h := ifT hc h
  refine AW.seq ?_
  refine AW.rgs rfl fun K hK => ?_
  refine mv rfl rfl ?_
  refine b_fin hK (s' := ⟨[(12, HV.bool x3)], []⟩) (le_q rfl rfl) ?_
  clear hK K
  refine AW.cond rfl (fun hc => ?_) (fun hc => ?_)
  ·have h := ifT hc h
   refine AW.rgs rfl fun K hK => ?_
   refine mv rfl rfl ?_
   refine b_fin hK (s' := ⟨[(4, HV.int .i64 0)], []⟩) (le_q rfl rfl) ?_
   clear hK K
   refine AW.ret ?_
   have h := Option.some.inj h
   subst h
   exact ret_pure (hs := [HV.int .i64 0]) (q := HV.int .i64 0) (.inr rfl) (resT rfl rfl) rfl trivial
  have h := ifF (bF' hc) h
  refine AW.skip ?_
  refine AW.rgs rfl fun K hK => ?_
  refine mv rfl rfl ?_
  refine b_fin hK (s' := ⟨[(4, HV.int .i64 (-1))], []⟩) (le_q rfl rfl) ?_
  clear hK K
  refine AW.ret ?_
  have h := Option.some.inj h
  subst h
  exact ret_pure (hs := [HV.int .i64 (-1)]) (q := HV.int .i64 (-1)) (.inr rfl) (resT rfl rfl) rfl trivial
 have h := ifF (bF' hc) h
 refine AW.skip ?_
 refine AW.seq ?_
 refine AW.rgs rfl fun K hK => ?_
 refine mv rfl rfl ?_
 refine b_fin hK (s' := ⟨[(0, HV.int .i64 p0), (1, HV.int .i64 p1), (13, HV.bool x3)], []⟩) (le_q rfl rfl) ?_
 clear hK K
 refine AW.cond rfl (fun hc => ?_) (fun hc => ?_)
 ·have h := ifT hc h
  refine AW.rgs rfl fun K hK => ?_
  refine mv rfl rfl ?_
  refine b_fin hK (s' := ⟨[(4, HV.int .i64 1)], []⟩) (le_q rfl rfl) ?_
  clear hK K
  refine AW.ret ?_
  have h := Option.some.inj h
  subst h
  exact ret_pure (hs := [HV.int .i64 1]) (q := HV.int .i64 1) (.inr rfl) (resT rfl rfl) rfl trivial
 have h := ifF (bF' hc) h
 refine AW.skip ?_
 refine AW.seq ?_
 refine AW.rgs rfl fun K hK => ?_
 refine mv rfl rfl ?_
 refine mv rfl rfl ?_
 refine bv rfl (v_bin rfl rfl b_lss) ?_
 refine b_fin hK (s' := ⟨[(0, HV.int .i64 p0), (1, HV.int .i64 p1), (16, HV.bool (decide (p0 < p1)))], []⟩) (le_q rfl rfl) ?_
 clear hK K
 refine AW.cond rfl (fun hc => ?_) (fun hc => ?_)
 ·have hc := of_decide_eq_true hc
  have h := ifT hc h
  refine AW.rgs rfl fun K hK => ?_
  refine mv rfl rfl ?_
  refine b_fin hK (s' := ⟨[(4, HV.int .i64 (-1))], []⟩) (le_q rfl rfl) ?_
  clear hK K
  refine AW.ret ?_
  have h := Option.some.inj h
  subst h
  exact ret_pure (hs := [HV.int .i64 (-1)]) (q := HV.int .i64 (-1)) (.inr rfl) (resT rfl rfl) rfl trivial
 have hc := of_decide_eq_false hc
 have h := ifF hc h
 refine AW.skip ?_
 refine AW.seq ?_
 refine AW.rgs rfl fun K hK => ?_
 refine mv rfl rfl ?_
 refine mv rfl rfl ?_
 refine bv rfl (v_bin rfl rfl b_gtr) ?_
 refine b_fin hK (s' := ⟨[(19, HV.bool (decide (p1 < p0)))], []⟩) (le_q rfl rfl) ?_
 clear hK K
 refine AW.cond rfl (fun hc => ?_) (fun hc => ?_)
 ·have hc := of_decide_eq_true hc
  have h := ifT hc h
  refine AW.rgs rfl fun K hK => ?_
  refine mv rfl rfl ?_
  refine b_fin hK (s' := ⟨[(4, HV.int .i64 1)], []⟩) (le_q rfl rfl) ?_
  clear hK K
  refine AW.ret ?_
  have h := Option.some.inj h
  subst h
  exact ret_pure (hs := [HV.int .i64 1]) (q := HV.int .i64 1) (.inr rfl) (resT rfl rfl) rfl trivial
 have hc := of_decide_eq_false hc
 have h := ifF hc h
 refine AW.skip ?_
 refine AW.rgs rfl fun K hK => ?_
 refine mv rfl rfl ?_
 refine b_fin hK (s' := ⟨[(4, HV.int .i64 0)], []⟩) (le_q rfl rfl) ?_
 clear hK K
 refine AW.ret ?_
 have h := Option.some.inj h
 subst h
 exact ret_pure (hs := [HV.int .i64 0]) (q := HV.int .i64 0) (.inr rfl) (resT rfl rfl) rfl trivial

set_option maxHeartbeats 1600000 in
set_option maxRecDepth 100000 in
theorem w_slices_Compare_Lint_int {p0 : List (Int)} {p1 : List (Int)} {r : Int} (h : m_slices_Compare_Lint_int p0 p1 = some r) : Pure Tryz.prog 87 [slE eInt p0, slE eInt p1] (· = HV.int .i64 r) := by
 unfold m_slices_Compare_Lint_int at h
 refine Pure.of_body Tryz.func87 rfl rfl (Nat.le_of_ble_eq_true rfl) fun hf => ?_
 unfold Tryz.f87
 dsimp only [enumS, Nat.reduceAdd]
 refine AW.rgs rfl fun K hK => ?_
 refine mv rfl rfl ?_
 refine b_fin hK (s' := ⟨[(0, slE eInt p0), (1, slE eInt p1)], []⟩) (le_q rfl rfl) ?_
 clear hK K
 refine AW.seq ?_
 refine AW.rgs rfl fun K hK => ?_
 refine mv rfl rfl ?_
 refine bv rfl (v_lenF rfl rfl ty55 rfl) ?_
 refine mv rfl rfl ?_
 refine b_fin hK (s' := ⟨[(0, slE eInt p0), (1, slE eInt p1), (9, slE eInt p0), (10, HV.int .i64 ((p0).length : Int)), (11, HV.int .i64 0)], []⟩) (le_q rfl rfl) ?_
 clear hK K
 refine AW.lpR h (by first | exact up_then | exact up_to) (S := Int) (V := Unit) (fun a v => ⟨[(0, slE eInt p0), (1, slE eInt p1), (9, slE eInt p0), (10, HV.int .i64 ((p0).length : Int)), (11, HV.int .i64 a)], []⟩) ?_ (X := Unit) (W := Unit) (fun a v => ⟨[(0, slE eInt p0), (1, slE eInt p1)], []⟩) (fun a11 w12 h => ?_) (fun a1 w2 st3 h hr4=> ?_)
 ·exact to_le (s' := ⟨[(0, slE eInt p0), (1, slE eInt p1), (9, slE eInt p0), (10, HV.int .i64 ((p0).length : Int)), (11, HV.int .i64 0)], []⟩) (AS.le_of ⟨rfl, rfl, rfl, rfl, rfl, trivial⟩ trivial) ⟨(), rfl⟩
 ·refine AW.seq ?_
  refine AW.rgs rfl fun K hK => ?_
  refine mv rfl rfl ?_
  refine bv rfl (v_lenF rfl rfl ty55 rfl) ?_
  refine mv rfl rfl ?_
  refine bv rfl (v_lenF rfl rfl ty55 rfl) ?_
  refine bv rfl (v_bin rfl rfl b_lss) ?_
  refine b_fin hK (s' := ⟨[(35, HV.bool (decide (((p0).length : Int) < ((p1).length : Int))))], []⟩) (le_q rfl rfl) ?_
  clear hK K
  refine AW.cond rfl (fun hc => ?_) (fun hc => ?_)
  ·have hc := of_decide_eq_true hc
   have h := ifT hc h
   refine AW.rgs rfl fun K hK => ?_
   refine mv rfl rfl ?_
   refine b_fin hK (s' := ⟨[(4, HV.int .i64 (-1))], []⟩) (le_q rfl rfl) ?_
   clear hK K
   refine AW.ret ?_
   have h := Option.some.inj h
   subst h
   exact ret_pure (hs := [HV.int .i64 (-1)]) (q := HV.int .i64 (-1)) (.inr rfl) (resT rfl rfl) rfl trivial
  have hc := of_decide_eq_false hc
  have h := ifF hc h
  refine AW.skip ?_
  refine AW.rgs rfl fun K hK => ?_
  refine mv rfl rfl ?_
  refine b_fin hK (s' := ⟨[(4, HV.int .i64 0)], []⟩) (le_q rfl rfl) ?_
  clear hK K
  refine AW.ret ?_
  have h := Option.some.inj h
  subst h
  exact ret_pure (hs := [HV.int .i64 0]) (q := HV.int .i64 0) (.inr rfl) (resT rfl rfl) rfl trivial
 refine AW.rgs rfl fun K hK => ?_
 refine bv rfl (v_bin rfl rfl b_lss) ?_
 refine b_fin hK (s' := ⟨[(0, slE eInt p0), (1, slE eInt p1), (9, slE eInt p0), (10, HV.int .i64 ((p0).length : Int)), (11, HV.int .i64 a1), (12, HV.bool (decide (a1 < ((p0).length : Int))))], []⟩) (le_q rfl rfl) ?_
 clear hK K
 refine AW.cseq rfl (fun hc => ?_) (fun hc => ?_)
 ·have hc := of_decide_eq_true hc
  have h := ifT hc h
  refine AW.skip ?_
  refine AW.seq (AW.block ?_)
  refine AW.rgs rfl fun K hK => ?_
  refine mv rfl rfl ?_
  obtain ⟨x5, h6, h⟩ := bS h
  refine bv rfl (v_idxF ty55 es55 rfl rfl (idx_lt h6)) ?_
  refine bv rfl (v_loadF ty3 rfl (l_cell eInt h6 (o := 0) rfl rfl)) ?_
  refine mv rfl rfl ?_
  refine mv rfl rfl ?_
  refine b_fin hK (s' := ⟨[(0, slE eInt p0), (1, slE eInt p1), (5, HV.int .i64 a1), (6, HV.int .i64 x5), (9, slE eInt p0), (10, HV.int .i64 ((p0).length : Int)), (11, HV.int .i64 a1)], []⟩) (le_q rfl rfl) ?_
  clear hK K
  refine AW.seq ?_
  refine AW.rgs rfl fun K hK => ?_
  refine mv rfl rfl ?_
  refine mv rfl rfl ?_
  refine bv rfl (v_lenF rfl rfl ty55 rfl) ?_
  refine bv rfl (v_bin rfl rfl b_geq) ?_
  refine b_fin hK (s' := ⟨[(0, slE eInt p0), (1, slE eInt p1), (5, HV.int .i64 a1), (6, HV.int .i64 x5), (9, slE eInt p0), (10, HV.int .i64 ((p0).length : Int)), (11, HV.int .i64 a1), (19, HV.bool (decide (((p1).length : Int) ≤ a1)))], []⟩) (le_q rfl rfl) ?_
  clear hK K
  refine AW.cond rfl (fun hc => ?_) (fun hc => ?_)
  ·have hc := of_decide_eq_true hc
   have h := ifT hc h
   refine AW.rgs rfl fun K hK => ?_
   refine mv rfl rfl ?_
   refine b_fin hK (s' := ⟨[(4, HV.int .i64 1)], []⟩) (le_q rfl rfl) ?_
   clear hK K
   have h := hr4 _ h
   refine AW.ret ?_
   have h := Option.some.inj h
   subst h
   exact ret_pure (hs := [HV.int .i64 1]) (q := HV.int .i64 1) (.inr rfl) (resT rfl rfl) rfl trivial
  have hc := of_decide_eq_false hc
  have h := ifF hc h
  refine AW.skip ?_
  refine AW.rgs rfl fun K hK => ?_
  refine mv rfl rfl ?_
  refine mv rfl rfl ?_
  obtain ⟨x7, h8, h⟩ := bS h
  refine bv rfl (v_idxF ty55 es55 rfl rfl (idx_lt h8)) ?_
  refine bv rfl (v_loadF ty3 rfl (l_cell eInt h8 (o := 0) rfl rfl)) ?_
  refine mv rfl rfl ?_
  refine b_fin hK (s' := ⟨[(0, slE eInt p0), (1, slE eInt p1), (6, HV.int .i64 x5), (7, HV.int .i64 x7), (9, slE eInt p0), (10, HV.int .i64 ((p0).length : Int)), (11, HV.int .i64 a1)], []⟩) (le_q rfl rfl) ?_
  clear hK K
  refine AW.rgs rfl fun K hK => ?_
  refine mv rfl rfl ?_
  refine mv rfl rfl ?_
  obtain ⟨x9, h10, h⟩ := bS h
  refine b_op rfl (o_call rfl rfl rfl rfl (ACallD.pure0 (w_cmp_Compare_int h10)) ?_)
  refine mv rfl rfl ?_
  refine b_fin hK (s' := ⟨[(0, slE eInt p0), (1, slE eInt p1), (8, HV.int .i64 x9), (9, slE eInt p0), (10, HV.int .i64 ((p0).length : Int)), (11, HV.int .i64 a1)], []⟩) (le_q rfl rfl) ?_
  clear hK K
  refine AW.rgs rfl fun K hK => ?_
  refine mv rfl rfl ?_
  refine bv rfl (v_bin rfl rfl b_neq) ?_
  refine b_fin hK (s' := ⟨[(0, slE eInt p0), (1, slE eInt p1), (8, HV.int .i64 x9), (9, slE eInt p0), (10, HV.int .i64 ((p0).length : Int)), (11, HV.int .i64 a1), (28, HV.bool (decide (x9 ≠ 0)))], []⟩) (le_q rfl rfl) ?_
  clear hK K
  refine AW.cond rfl (fun hc => ?_) (fun hc => ?_)
  ·have hc := of_decide_eq_true hc
   have h := ifT hc h
   refine AW.rgs rfl fun K hK => ?_
   refine mv rfl rfl ?_
   refine mv rfl rfl ?_
   refine b_fin hK (s' := ⟨[(4, HV.int .i64 x9)], []⟩) (le_q rfl rfl) ?_
   clear hK K
   have h := hr4 _ h
   refine AW.ret ?_
   have h := Option.some.inj h
   subst h
   exact ret_pure (hs := [HV.int .i64 x9]) (q := HV.int .i64 x9) (.inr rfl) (resT rfl rfl) rfl trivial
  have hc := of_decide_eq_false hc
  have h := ifF hc h
  refine AW.skip ?_
  refine AW.rg rfl fun K hK => ?_
  refine bv rfl (v_bin rfl rfl b_add) ?_
  refine mv rfl rfl ?_
  refine b_nil (hK _ ?_)
  clear hK K
  exact to_le (s' := ⟨[(0, slE eInt p0), (1, slE eInt p1), (9, slE eInt p0), (10, HV.int .i64 ((p0).length : Int)), (11, HV.int .i64 (IntKind.wrap .i64 (a1 + 1)))], []⟩) (AS.le_of ⟨rfl, rfl, rfl, rfl, rfl, trivial⟩ trivial) ⟨IntKind.wrap .i64 (a1 + 1), (), h, rfl⟩
 have hc := of_decide_eq_false hc
 have h := ifF hc h
 refine AW.exit ?_
 exact to_le (s' := ⟨[(0, slE eInt p0), (1, slE eInt p1)], []⟩) (AS.le_of ⟨rfl, rfl, trivial⟩ trivial) ⟨(), (), h, rfl⟩

set_option maxHeartbeats 1600000 in
set_option maxRecDepth 100000 in
theorem w_graph_by_api_Edge_1 {p0 : TFromLabelTo} {p1 : TFromLabelTo} {r : Int} (h : m_graph_by_api_Edge_1 p0 p1 = some r) : Pure Tryz.prog 86 [HV.agg [HV.int .i64 p0.1, HV.int .i64 p0.2.1, HV.int .i64 p0.2.2], HV.agg [HV.int .i64 p1.1, HV.int .i64 p1.2.1, HV.int .i64 p1.2.2], HV.fptr [HV.fn (.func 64) [] []] 0] (· = HV.int .i64 r) := by
 unfold m_graph_by_api_Edge_1 at h
 refine Pure.of_body Tryz.func86 rfl rfl (Nat.le_of_ble_eq_true rfl) fun hf => ?_
 unfold Tryz.f86
 dsimp only [enumS, Nat.reduceAdd]
 refine AW.rgs rfl fun K hK => ?_
 refine b_op rfl (o_box rfl rfl rfl ?_)
 refine b_op rfl (o_box rfl rfl rfl ?_)
 refine mv rfl rfl ?_
 refine b_fin hK (s' := ⟨[(2, HV.fptr [HV.fn (.func 64) [] []] 0), (3, HV.fptr [HV.int .i64 p0.1, HV.int .i64 p0.2.1, HV.int .i64 p0.2.2] 0), (4, HV.fptr [HV.int .i64 p1.1, HV.int .i64 p1.2.1, HV.int .i64 p1.2.2] 0)], []⟩) (le_q rfl rfl) ?_
 clear hK K
 refine AW.dgs 8 follows rfl rfl fun K hK => ?_
 refine sv rfl (v_loadF ty98 rfl (l_lit rfl rfl)) ?_
 refine sv rfl (v_loadF ty44 rfl (l_litA rfl (Nat.le_of_ble_eq_true rfl) rfl)) ?_
 obtain ⟨x1, h2, h⟩ := bS h
 refine s_op rfl rfl (ops_call rfl rfl rfl rfl (ACallD.pure0 (w_graph_list h2)) ?_)
 refine sv rfl (v_loadF ty98 rfl (l_lit rfl rfl)) ?_
 refine sv rfl (v_loadF ty44 rfl (l_litA rfl (Nat.le_of_ble_eq_true rfl) rfl)) ?_
 obtain ⟨x3, h4, h⟩ := bS h
 refine s_op rfl rfl (ops_call rfl rfl rfl rfl (ACallD.pure0 (w_graph_list h4)) ?_)
 obtain ⟨x5, h6, h⟩ := bS h
 refine s_op rfl rfl (ops_call rfl rfl rfl rfl (ACallD.pure0 (w_slices_Compare_Lint_int h6)) ?_)
 refine sm rfl rfl ?_
 refine s_nil ?_
 refine b_fin hK (s' := ⟨[(5, HV.int .i64 x5)], []⟩) (le_q rfl rfl) ?_
 clear hK K
 refine AW.ret ?_
 have h := Option.some.inj h
 subst h
 exact ret_pure (hs := [HV.int .i64 x5]) (q := HV.int .i64 x5) (.inr rfl) (resT rfl rfl) rfl trivial

set_option maxHeartbeats 1600000 in
set_option maxRecDepth 100000 in
theorem w_graph_by_api_Edge  : Pure Tryz.prog 63 [HV.fn (.func 64) [] []] (· = HV.fn (.func 86) [] [HV.fptr [HV.fn (.func 64) [] []] 0]) := by
 refine Pure.of_body Tryz.func63 rfl rfl (Nat.le_of_ble_eq_true rfl) fun hf => ?_
 unfold Tryz.f63
 dsimp only [enumS, Nat.reduceAdd]
 refine AW.rgs rfl fun K hK => ?_
 refine b_op rfl (o_box rfl rfl rfl ?_)
 refine mv rfl rfl ?_
 refine b_fin hK (s' := ⟨[(1, HV.fptr [HV.fn (.func 64) [] []] 0)], []⟩) (le_q rfl rfl) ?_
 clear hK K
 refine AW.rgs rfl fun K hK => ?_
 refine bv rfl (v_func rfl rfl) ?_
 refine mv rfl rfl ?_
 refine b_fin hK (s' := ⟨[(2, HV.fn (.func 86) [] [HV.fptr [HV.fn (.func 64) [] []] 0])], []⟩) (le_q rfl rfl) ?_
 clear hK K
 refine AW.ret ?_
 exact ret_pure (hs := [HV.fn (.func 86) [] [HV.fptr [HV.fn (.func 64) [] []] 0]]) (q := HV.fn (.func 86) [] [HV.fptr [HV.fn (.func 64) [] []] 0]) (.inr rfl) (resT rfl rfl) rfl ⟨trivial, ⟨⟨⟨trivial, trivial⟩, trivial⟩, trivial⟩⟩

set_option maxHeartbeats 1600000 in
set_option maxRecDepth 100000 in
theorem w_graph_Check {p0 : TLabelsStatesEdges} {r : Int} (h : m_graph_Check p0 = some r) : Pure Tryz.prog 41 [HV.agg [HV.int .i64 p0.1, HV.int .i64 p0.2.1, slE eFromLabelTo p0.2.2]] (· = HV.int .i64 r) := by
 unfold m_graph_Check at h
 refine Pure.of_body Tryz.func41 rfl rfl (Nat.le_of_ble_eq_true rfl) fun hf => ?_
 unfold Tryz.f41
 dsimp only [enumS, Nat.reduceAdd]
 refine AW.rgs rfl fun K hK => ?_
 refine b_op rfl (o_box rfl rfl rfl ?_)
 refine mv rfl rfl ?_
 refine b_fin hK (s' := ⟨[(1, HV.fptr [HV.int .i64 p0.1, HV.int .i64 p0.2.1, slE eFromLabelTo p0.2.2] 0)], []⟩) (le_q rfl rfl) ?_
 clear hK K
 refine AW.seq (AW.block ?_)
 refine AW.seqJ h (S := Bool) (V := Unit) (fun a v => ⟨[(1, HV.fptr [HV.int .i64 p0.1, HV.int .i64 p0.2.1, slE eFromLabelTo p0.2.2] 0), (6, HV.bool a)], []⟩) (fun a1 w2 h => ?_) (fun k3 h => ?_)
 ·refine AW.cond rfl (fun hc => ?_) (fun hc => ?_)
  ·have h := ifT hc h
   refine AW.rgs rfl fun K hK => ?_
   refine mv rfl rfl ?_
   refine b_fin hK (s' := ⟨[(2, HV.int .i64 12)], []⟩) (le_q rfl rfl) ?_
   clear hK K
   refine AW.ret ?_
   have h := Option.some.inj h
   subst h
   exact ret_pure (hs := [HV.int .i64 12]) (q := HV.int .i64 12) (.inr rfl) (resT rfl rfl) rfl trivial
  have h := ifF (bF' hc) h
  refine AW.rgs rfl fun K hK => ?_
  refine bv rfl (v_fieldAddrF fo24_1 rfl) ?_
  refine bv rfl (v_loadF ty3 rfl (l_lit rfl rfl)) ?_
  refine bv rfl (v_bin rfl rfl b_lss) ?_
  refine mv rfl rfl ?_
  refine b_fin hK (s' := ⟨[(1, HV.fptr [HV.int .i64 p0.1, HV.int .i64 p0.2.1, slE eFromLabelTo p0.2.2] 0), (15, HV.bool (decide (p0.2.1 < 0)))], []⟩) (le_q rfl rfl) ?_
  clear hK K
  refine AW.cond rfl (fun hc => ?_) (fun hc => ?_)
  ·have hc := of_decide_eq_true hc
   have h := ifT hc h
   refine AW.rgs rfl fun K hK => ?_
   refine mv rfl rfl ?_
   refine b_fin hK (s' := ⟨[(2, HV.int .i64 2)], []⟩) (le_q rfl rfl) ?_
   clear hK K
   refine AW.ret ?_
   have h := Option.some.inj h
   subst h
   exact ret_pure (hs := [HV.int .i64 2]) (q := HV.int .i64 2) (.inr rfl) (resT rfl rfl) rfl trivial
  have hc := of_decide_eq_false hc
  have h := ifF hc h
  refine AW.seqJ h (S := Bool) (V := Unit) (fun a v => ⟨[(1, HV.fptr [HV.int .i64 p0.1, HV.int .i64 p0.2.1, slE eFromLabelTo p0.2.2] 0), (19, HV.bool a)], []⟩) (fun a4 w5 h => ?_) (fun k6 h => ?_)
  ·refine AW.cond rfl (fun hc => ?_) (fun hc => ?_)
   ·have h := ifT hc h
    refine AW.rgs rfl fun K hK => ?_
    refine mv rfl rfl ?_
    refine b_fin hK (s' := ⟨[(2, HV.int .i64 4)], []⟩) (le_q rfl rfl) ?_
    clear hK K
    refine AW.ret ?_
    have h := Option.some.inj h
    subst h
    exact ret_pure (hs := [HV.int .i64 4]) (q := HV.int .i64 4) (.inr rfl) (resT rfl rfl) rfl trivial
   have h := ifF (bF' hc) h
   refine AW.skip ?_
   refine AW.rgs rfl fun K hK => ?_
   refine b_op rfl (o_call rfl rfl rfl rfl (ACallD.pure0 (w_graph_by_api_Edge )) ?_)
   refine mv rfl rfl ?_
   refine b_fin hK (s' := ⟨[(1, HV.fptr [HV.int .i64 p0.1, HV.int .i64 p0.2.1, slE eFromLabelTo p0.2.2] 0), (3, HV.fn (.func 86) [] [HV.fptr [HV.fn (.func 64) [] []] 0])], []⟩) (le_q rfl rfl) ?_
   clear hK K
   refine AW.seq ?_
   refine AW.rgs rfl fun K hK => ?_
   refine bv rfl (v_fieldAddrF fo24_2 rfl) ?_
   refine bv rfl (v_loadF ty22 rfl (l_lit rfl rfl)) ?_
   refine bv rfl (v_lenF rfl rfl ty22 rfl) ?_
   refine mv rfl rfl ?_
   refine b_fin hK (s' := ⟨[(1, HV.fptr [HV.int .i64 p0.1, HV.int .i64 p0.2.1, slE eFromLabelTo p0.2.2] 0), (3, HV.fn (.func 86) [] [HV.fptr [HV.fn (.func 64) [] []] 0]), (31, slE eFromLabelTo p0.2.2), (32, HV.int .i64 ((p0.2.2).length : Int)), (33, HV.int .i64 0)], []⟩) (le_q rfl rfl) ?_
   clear hK K
   refine AW.lpR h (by first | exact up_then | exact up_to) (S := Int) (V := Unit) (fun a v => ⟨[(1, HV.fptr [HV.int .i64 p0.1, HV.int .i64 p0.2.1, slE eFromLabelTo p0.2.2] 0), (3, HV.fn (.func 86) [] [HV.fptr [HV.fn (.func 64) [] []] 0]), (31, slE eFromLabelTo p0.2.2), (32, HV.int .i64 ((p0.2.2).length : Int)), (33, HV.int .i64 a)], []⟩) ?_ (X := Unit) (W := Unit) (fun a v => ⟨[], []⟩) (fun a27 w28 h => ?_) (fun a7 w8 st9 h hr10=> ?_)
   ·exact to_le (s' := ⟨[(1, HV.fptr [HV.int .i64 p0.1, HV.int .i64 p0.2.1, slE eFromLabelTo p0.2.2] 0), (3, HV.fn (.func 86) [] [HV.fptr [HV.fn (.func 64) [] []] 0]), (31, slE eFromLabelTo p0.2.2), (32, HV.int .i64 ((p0.2.2).length : Int)), (33, HV.int .i64 0)], []⟩) (AS.le_of ⟨rfl, rfl, rfl, rfl, rfl, trivial⟩ trivial) ⟨(), rfl⟩
   ·refine AW.rgs rfl fun K hK => ?_
    refine mv rfl rfl ?_
    refine b_fin hK (s' := ⟨[(2, HV.int .i64 0)], []⟩) (le_q rfl rfl) ?_
    clear hK K
    refine AW.ret ?_
    have h := Option.some.inj h
    subst h
    exact ret_pure (hs := [HV.int .i64 0]) (q := HV.int .i64 0) (.inr rfl) (resT rfl rfl) rfl trivial
   refine AW.rgs rfl fun K hK => ?_
   refine bv rfl (v_bin rfl rfl b_lss) ?_
   refine b_fin hK (s' := ⟨[(1, HV.fptr [HV.int .i64 p0.1, HV.int .i64 p0.2.1, slE eFromLabelTo p0.2.2] 0), (3, HV.fn (.func 86) [] [HV.fptr [HV.fn (.func 64) [] []] 0]), (31, slE eFromLabelTo p0.2.2), (32, HV.int .i64 ((p0.2.2).length : Int)), (33, HV.int .i64 a7), (34, HV.bool (decide (a7 < ((p0.2.2).length : Int))))], []⟩) (le_q rfl rfl) ?_
   clear hK K
   refine AW.cseq rfl (fun hc => ?_) (fun hc => ?_)
   ·have hc := of_decide_eq_true hc
    have h := ifT hc h
    refine AW.skip ?_
    refine AW.seq (AW.block ?_)
    refine AW.rgs rfl fun K hK => ?_
    refine mv rfl rfl ?_
    obtain ⟨x11, h12, h⟩ := bS h
    refine bv rfl (v_idxF ty22 es22 rfl rfl (idx_lt h12)) ?_
    refine bv rfl (v_loadF ty44 rfl (l_agg eFromLabelTo h12 rfl rfl)) ?_
    refine b_op rfl (o_alloc (fid := 41) (zs := [HV.int .i64 0, HV.int .i64 0, HV.int .i64 0]) 41005 rfl rfl ty44 rfl (fun v13 => ?_))
    refine mv rfl rfl ?_
    refine b_op rfl (o_store (cs := [HV.int .i64 x11.1, HV.int .i64 x11.2.1, HV.int .i64 x11.2.2]) (zs := [HV.int .i64 x11.1, HV.int .i64 x11.2.1, HV.int .i64 x11.2.2]) rfl rfl rfl ty44 rfl rfl rfl rfl rfl ?_)
    refine b_fin hK (s' := ⟨[(1, HV.fptr [HV.int .i64 p0.1, HV.int .i64 p0.2.1, slE eFromLabelTo p0.2.2] 0), (3, HV.fn (.func 86) [] [HV.fptr [HV.fn (.func 64) [] []] 0]), (4, HV.int .i64 a7), (5, HV.ptr 41005 v13 0), (31, slE eFromLabelTo p0.2.2), (32, HV.int .i64 ((p0.2.2).length : Int)), (33, HV.int .i64 a7)], [(41005, v13, .arr 3 44 [HV.int .i64 x11.1, HV.int .i64 x11.2.1, HV.int .i64 x11.2.2])]⟩) (le_q rfl rfl) ?_
    clear hK K
    refine AW.seq ?_
    refine AW.seqJ h (S := Bool) (V := Unit) (fun a v => ⟨[(1, HV.fptr [HV.int .i64 p0.1, HV.int .i64 p0.2.1, slE eFromLabelTo p0.2.2] 0), (3, HV.fn (.func 86) [] [HV.fptr [HV.fn (.func 64) [] []] 0]), (4, HV.int .i64 a7), (5, HV.ptr 41005 v13 0), (31, slE eFromLabelTo p0.2.2), (32, HV.int .i64 ((p0.2.2).length : Int)), (33, HV.int .i64 a7), (62, HV.bool a)], [(41005, v13, .arr 3 44 [HV.int .i64 x11.1, HV.int .i64 x11.2.1, HV.int .i64 x11.2.2])]⟩) (fun a14 w15 h => ?_) (fun k16 h => ?_)
    ·refine AW.cond rfl (fun hc => ?_) (fun hc => ?_)
     ·have h := ifT hc h
      refine AW.rgs rfl fun K hK => ?_
      refine mv rfl rfl ?_
      refine b_fin hK (s' := ⟨[(2, HV.int .i64 2)], []⟩) (le_q rfl rfl) ?_
      clear hK K
      have h := hr10 _ h
      refine AW.ret ?_
      have h := Option.some.inj h
      subst h
      exact ret_pure (hs := [HV.int .i64 2]) (q := HV.int .i64 2) (.inr rfl) (resT rfl rfl) rfl trivial
     have h := ifF (bF' hc) h
     refine AW.skip ?_
     refine AW.seqJ h (S := Bool) (V := Unit) (fun a v => ⟨[(1, HV.fptr [HV.int .i64 p0.1, HV.int .i64 p0.2.1, slE eFromLabelTo p0.2.2] 0), (3, HV.fn (.func 86) [] [HV.fptr [HV.fn (.func 64) [] []] 0]), (31, slE eFromLabelTo p0.2.2), (32, HV.int .i64 ((p0.2.2).length : Int)), (33, HV.int .i64 a7), (76, HV.bool a)], []⟩) (fun a17 w18 h => ?_) (fun k19 h => ?_)
     ·refine AW.cond rfl (fun hc => ?_) (fun hc => ?_)
      ·have h := ifT hc h
       refine AW.rgs rfl fun K hK => ?_
       refine mv rfl rfl ?_
       refine b_fin hK (s' := ⟨[(2, HV.int .i64 10)], []⟩) (le_q rfl rfl) ?_
       clear hK K
       have h := hr10 _ h
       refine AW.ret ?_
       have h := Option.some.inj h
       subst h
       exact ret_pure (hs := [HV.int .i64 10]) (q := HV.int .i64 10) (.inr rfl) (resT rfl rfl) rfl trivial
      have h := ifF (bF' hc) h
      refine AW.skip ?_
      refine AW.rg rfl fun K hK => ?_
      refine bv rfl (v_bin rfl rfl b_add) ?_
      refine mv rfl rfl ?_
      refine b_nil (hK _ ?_)
      clear hK K
      exact to_le (s' := ⟨[(1, HV.fptr [HV.int .i64 p0.1, HV.int .i64 p0.2.1, slE eFromLabelTo p0.2.2] 0), (3, HV.fn (.func 86) [] [HV.fptr [HV.fn (.func 64) [] []] 0]), (31, slE eFromLabelTo p0.2.2), (32, HV.int .i64 ((p0.2.2).length : Int)), (33, HV.int .i64 (IntKind.wrap .i64 (a7 + 1)))], []⟩) (AS.le_of ⟨rfl, rfl, rfl, rfl, rfl, trivial⟩ trivial) ⟨IntKind.wrap .i64 (a7 + 1), (), h, rfl⟩
     refine AW.dg 14 follows rfl rfl fun K hK => ?_
     refine sm rfl rfl ?_
     refine sv rfl (v_bin rfl rfl b_gtr) ?_
     refine sm rfl rfl ?_
     by_cases hg24 : 0 < a7
     ·have h := ifT hg24 h
      refine s_T rfl rfl rfl rfl rfl (decide_eq_true hg24) (ops_val rfl (mv_val rfl rfl).2 ?_)
      refine s_T rfl rfl rfl rfl rfl rfl (ops_val rfl (v_fieldAddrF fo24_2 rfl) ?_)
      refine s_T rfl rfl rfl rfl rfl rfl (ops_val rfl (v_loadF ty22 rfl (l_lit rfl rfl)) ?_)
      refine s_T rfl rfl rfl rfl rfl rfl (ops_val rfl (mv_val rfl rfl).2 ?_)
      refine s_T rfl rfl rfl rfl rfl rfl (ops_val rfl (v_bin rfl rfl b_sub) ?_)
      obtain ⟨x20, h21, h⟩ := bS h
      refine s_T rfl rfl rfl rfl rfl rfl (ops_val rfl (v_idxF ty22 es22 rfl rfl (idx_lt h21)) ?_)
      refine s_T rfl rfl rfl rfl rfl rfl (ops_val rfl (v_loadF ty44 rfl (l_agg eFromLabelTo h21 rfl rfl)) ?_)
      refine s_T rfl rfl rfl rfl rfl rfl (ops_val rfl (v_loadP ty44 rfl rfl (l_litA rfl (Nat.le_of_ble_eq_true rfl) rfl)) ?_)
      obtain ⟨x22, h23, h⟩ := bS h
      refine s_T rfl rfl rfl rfl rfl rfl (ops_call rfl rfl rfl rfl (ACallD.pure0 (w_graph_by_api_Edge_1 h23)) ?_)
      refine s_T rfl rfl rfl rfl rfl rfl (ops_val rfl (v_bin rfl rfl b_geq) ?_)
      refine sv rfl (v_pickT rfl rfl rfl) ?_
      refine s_nil ?_
      refine b_nil (hK _ ?_)
      clear hK K
      exact to_le (s' := ⟨[(1, HV.fptr [HV.int .i64 p0.1, HV.int .i64 p0.2.1, slE eFromLabelTo p0.2.2] 0), (3, HV.fn (.func 86) [] [HV.fptr [HV.fn (.func 64) [] []] 0]), (31, slE eFromLabelTo p0.2.2), (32, HV.int .i64 ((p0.2.2).length : Int)), (33, HV.int .i64 a7), (76, HV.bool (decide (0 ≤ x22)))], []⟩) (AS.le_of ⟨rfl, rfl, rfl, rfl, rfl, rfl, trivial⟩ trivial) ⟨decide (0 ≤ x22), (), h, rfl⟩
     have h := ifF hg24 h
     refine s_F rfl rfl rfl rfl rfl (decide_eq_false hg24) ?_
     refine s_F rfl rfl rfl rfl rfl rfl ?_
     refine s_F rfl rfl rfl rfl rfl rfl ?_
     refine s_F rfl rfl rfl rfl rfl rfl ?_
     refine s_F rfl rfl rfl rfl rfl rfl ?_
     refine s_F rfl rfl rfl rfl rfl rfl ?_
     refine s_F rfl rfl rfl rfl rfl rfl ?_
     refine s_F rfl rfl rfl rfl rfl rfl ?_
     refine s_F rfl rfl rfl rfl rfl rfl ?_
     refine s_F rfl rfl rfl rfl rfl rfl ?_
     refine sv rfl (v_pickF rfl rfl rfl) ?_
     refine s_nil ?_
     refine b_nil (hK _ ?_)
     clear hK K
     exact to_le (s' := ⟨[(1, HV.fptr [HV.int .i64 p0.1, HV.int .i64 p0.2.1, slE eFromLabelTo p0.2.2] 0), (3, HV.fn (.func 86) [] [HV.fptr [HV.fn (.func 64) [] []] 0]), (31, slE eFromLabelTo p0.2.2), (32, HV.int .i64 ((p0.2.2).length : Int)), (33, HV.int .i64 a7), (76, HV.bool false)], []⟩) (AS.le_of ⟨rfl, rfl, rfl, rfl, rfl, rfl, trivial⟩ trivial) ⟨false, (), h, rfl⟩
    refine AW.rg rfl fun K hK => ?_
    refine bv rfl (v_fieldAddrP fo44_0 rfl rfl) ?_
    refine bv rfl (v_loadP ty3 rfl rfl (l_lit rfl rfl)) ?_
    refine bv rfl (v_fieldAddrP fo44_1 rfl rfl) ?_
    refine bv rfl (v_loadP ty3 rfl rfl (l_lit rfl rfl)) ?_
    refine bv rfl (v_fieldAddrP fo44_2 rfl rfl) ?_
    refine bv rfl (v_loadP ty3 rfl rfl (l_lit rfl rfl)) ?_
    refine bv rfl (v_min3 rfl rfl rfl rfl) ?_
    refine bv rfl (v_bin rfl rfl b_lss) ?_
    refine mv rfl rfl ?_
    by_cases hg26 : (min (min x11.1 x11.2.1) x11.2.2) < 0
    ·have h := ifT hg26 h
     refine b_F rfl rfl rfl rfl rfl (decide_eq_true hg26) ?_
     refine b_F rfl rfl rfl rfl rfl rfl ?_
     refine b_F rfl rfl rfl rfl rfl rfl ?_
     refine b_F rfl rfl rfl rfl rfl rfl ?_
     refine b_F rfl rfl rfl rfl rfl rfl ?_
     refine b_F rfl rfl rfl rfl rfl rfl ?_
     refine b_F rfl rfl rfl rfl rfl rfl ?_
     refine b_F rfl rfl rfl rfl rfl rfl ?_
     refine bv rfl (v_pickT rfl rfl rfl) ?_
     refine mv rfl rfl ?_
     refine b_F rfl rfl rfl rfl rfl rfl ?_
     refine b_F rfl rfl rfl rfl rfl rfl ?_
     refine b_F rfl rfl rfl rfl rfl rfl ?_
     refine b_F rfl rfl rfl rfl rfl rfl ?_
     refine b_F rfl rfl rfl rfl rfl rfl ?_
     refine bv rfl (v_pickT rfl rfl rfl) ?_
     refine b_nil (hK _ ?_)
     clear hK K
     exact to_le (s' := ⟨[(1, HV.fptr [HV.int .i64 p0.1, HV.int .i64 p0.2.1, slE eFromLabelTo p0.2.2] 0), (3, HV.fn (.func 86) [] [HV.fptr [HV.fn (.func 64) [] []] 0]), (4, HV.int .i64 a7), (5, HV.ptr 41005 v13 0), (31, slE eFromLabelTo p0.2.2), (32, HV.int .i64 ((p0.2.2).length : Int)), (33, HV.int .i64 a7), (62, HV.bool true)], [(41005, v13, .arr 3 44 [HV.int .i64 x11.1, HV.int .i64 x11.2.1, HV.int .i64 x11.2.2])]⟩) (AS.le_of ⟨rfl, rfl, rfl, rfl, rfl, rfl, rfl, rfl, trivial⟩ ⟨rfl, trivial⟩) ⟨true, (), h, rfl⟩
    have h := ifF hg26 h
    refine b_T rfl rfl rfl rfl (decide_eq_false hg26) (o_val rfl (v_fieldAddrP fo44_0 rfl rfl) ?_)
    refine b_T rfl rfl rfl rfl rfl (o_val rfl (v_loadP ty3 rfl rfl (l_lit rfl rfl)) ?_)
    refine b_T rfl rfl rfl rfl rfl (o_val rfl (v_fieldAddrP fo44_2 rfl rfl) ?_)
    refine b_T rfl rfl rfl rfl rfl (o_val rfl (v_loadP ty3 rfl rfl (l_lit rfl rfl)) ?_)
    refine b_T rfl rfl rfl rfl rfl (o_val rfl (v_max rfl rfl rfl) ?_)
    refine b_T rfl rfl rfl rfl rfl (o_val rfl (v_fieldAddrF fo24_1 rfl) ?_)
    refine b_T rfl rfl rfl rfl rfl (o_val rfl (v_loadF ty3 rfl (l_lit rfl rfl)) ?_)
    refine b_T rfl rfl rfl rfl rfl (o_val rfl (v_bin rfl rfl b_geq) ?_)
    refine bv rfl (v_pickF rfl rfl rfl) ?_
    refine mv rfl rfl ?_
    by_cases hg25 : p0.2.1 ≤ (max x11.1 x11.2.2)
    ·have h := ifT hg25 h
     refine b_F rfl rfl rfl rfl rfl (decide_eq_true hg25) ?_
     refine b_F rfl rfl rfl rfl rfl rfl ?_
     refine b_F rfl rfl rfl rfl rfl rfl ?_
     refine b_F rfl rfl rfl rfl rfl rfl ?_
     refine b_F rfl rfl rfl rfl rfl rfl ?_
     refine bv rfl (v_pickT rfl rfl rfl) ?_
     refine b_nil (hK _ ?_)
     clear hK K
     exact to_le (s' := ⟨[(1, HV.fptr [HV.int .i64 p0.1, HV.int .i64 p0.2.1, slE eFromLabelTo p0.2.2] 0), (3, HV.fn (.func 86) [] [HV.fptr [HV.fn (.func 64) [] []] 0]), (4, HV.int .i64 a7), (5, HV.ptr 41005 v13 0), (31, slE eFromLabelTo p0.2.2), (32, HV.int .i64 ((p0.2.2).length : Int)), (33, HV.int .i64 a7), (62, HV.bool true)], [(41005, v13, .arr 3 44 [HV.int .i64 x11.1, HV.int .i64 x11.2.1, HV.int .i64 x11.2.2])]⟩) (AS.le_of ⟨rfl, rfl, rfl, rfl, rfl, rfl, rfl, rfl, trivial⟩ ⟨rfl, trivial⟩) ⟨true, (), h, rfl⟩
    have h := ifF hg25 h
    refine b_T rfl rfl rfl rfl (decide_eq_false hg25) (o_val rfl (v_fieldAddrP fo44_1 rfl rfl) ?_)
    refine b_T rfl rfl rfl rfl rfl (o_val rfl (v_loadP ty3 rfl rfl (l_lit rfl rfl)) ?_)
    refine b_T rfl rfl rfl rfl rfl (o_val rfl (v_fieldAddrF fo24_0 rfl) ?_)
    refine b_T rfl rfl rfl rfl rfl (o_val rfl (v_loadF ty3 rfl (l_lit rfl rfl)) ?_)
    refine b_T rfl rfl rfl rfl rfl (o_val rfl (v_bin rfl rfl b_geq) ?_)
    refine bv rfl (v_pickF rfl rfl rfl) ?_
    refine b_nil (hK _ ?_)
    clear hK K
    exact to_le (s' := ⟨[(1, HV.fptr [HV.int .i64 p0.1, HV.int .i64 p0.2.1, slE eFromLabelTo p0.2.2] 0), (3, HV.fn (.func 86) [] [HV.fptr [HV.fn (.func 64) [] []] 0]), (4, HV.int .i64 a7), (5, HV.ptr 41005 v13 0), (31, slE eFromLabelTo p0.2.2), (32, HV.int .i64 ((p0.2.2).length : Int)), (33, HV.int .i64 a7), (62, HV.bool (decide (p0.1 ≤ x11.2.1)))], [(41005, v13, .arr 3 44 [HV.int .i64 x11.1, HV.int .i64 x11.2.1, HV.int .i64 x11.2.2])]⟩) (AS.le_of ⟨rfl, rfl, rfl, rfl, rfl, rfl, rfl, rfl, trivial⟩ ⟨rfl, trivial⟩) ⟨decide (p0.1 ≤ x11.2.1), (), h, rfl⟩
   have hc := of_decide_eq_false hc
   have h := ifF hc h
   refine AW.exit ?_
   exact to_le (s' := ⟨[], []⟩) (AS.le_of trivial trivial) ⟨(), (), h, rfl⟩
  refine AW.rg rfl fun K hK => ?_
  refine bv rfl (v_fieldAddrF fo24_1 rfl) ?_
  refine bv rfl (v_loadF ty3 rfl (l_lit rfl rfl)) ?_
  refine bv rfl (v_bin rfl rfl b_gtr) ?_
  refine mv rfl rfl ?_
  by_cases hg29 : 64 < p0.2.1
  ·have h := ifT hg29 h
   refine b_F rfl rfl rfl rfl rfl (decide_eq_true hg29) ?_
   refine b_F rfl rfl rfl rfl rfl rfl ?_
   refine b_F rfl rfl rfl rfl rfl rfl ?_
   refine b_F rfl rfl rfl rfl rfl rfl ?_
   refine bv rfl (v_pickT rfl rfl rfl) ?_
   refine mv rfl rfl ?_
   refine b_nil (hK _ ?_)
   clear hK K
   exact to_le (s' := ⟨[(1, HV.fptr [HV.int .i64 p0.1, HV.int .i64 p0.2.1, slE eFromLabelTo p0.2.2] 0), (19, HV.bool true)], []⟩) (AS.le_of ⟨rfl, rfl, trivial⟩ trivial) ⟨true, (), h, rfl⟩
  have h := ifF hg29 h
  refine b_T rfl rfl rfl rfl (decide_eq_false hg29) (o_val rfl (v_fieldAddrF fo24_2 rfl) ?_)
  refine b_T rfl rfl rfl rfl rfl (o_val rfl (v_loadF ty22 rfl (l_lit rfl rfl)) ?_)
  refine b_T rfl rfl rfl rfl rfl (o_val rfl (v_lenF rfl rfl ty22 rfl) ?_)
  refine b_T rfl rfl rfl rfl rfl (o_val rfl (v_bin rfl rfl b_gtr) ?_)
  refine bv rfl (v_pickF rfl rfl rfl) ?_
  refine mv rfl rfl ?_
  refine b_nil (hK _ ?_)
  clear hK K
  exact to_le (s' := ⟨[(1, HV.fptr [HV.int .i64 p0.1, HV.int .i64 p0.2.1, slE eFromLabelTo p0.2.2] 0), (19, HV.bool (decide (1024 < ((p0.2.2).length : Int))))], []⟩) (AS.le_of ⟨rfl, rfl, trivial⟩ trivial) ⟨decide (1024 < ((p0.2.2).length : Int)), (), h, rfl⟩
 refine AW.rg rfl fun K hK => ?_
 refine bv rfl (v_fieldAddrF fo24_0 rfl) ?_
 refine bv rfl (v_loadF ty3 rfl (l_lit rfl rfl)) ?_
 refine bv rfl (v_bin rfl rfl b_lss) ?_
 refine mv rfl rfl ?_
 by_cases hg30 : p0.1 < 1
 ·have h := ifT hg30 h
  refine b_F rfl rfl rfl rfl rfl (decide_eq_true hg30) ?_
  refine b_F rfl rfl rfl rfl rfl rfl ?_
  refine b_F rfl rfl rfl rfl rfl rfl ?_
  refine bv rfl (v_pickT rfl rfl rfl) ?_
  refine mv rfl rfl ?_
  refine b_nil (hK _ ?_)
  clear hK K
  exact to_le (s' := ⟨[(1, HV.fptr [HV.int .i64 p0.1, HV.int .i64 p0.2.1, slE eFromLabelTo p0.2.2] 0), (6, HV.bool true)], []⟩) (AS.le_of ⟨rfl, rfl, trivial⟩ trivial) ⟨true, (), h, rfl⟩
 have h := ifF hg30 h
 refine b_T rfl rfl rfl rfl (decide_eq_false hg30) (o_val rfl (v_fieldAddrF fo24_0 rfl) ?_)
 refine b_T rfl rfl rfl rfl rfl (o_val rfl (v_loadF ty3 rfl (l_lit rfl rfl)) ?_)
 refine b_T rfl rfl rfl rfl rfl (o_val rfl (v_bin rfl rfl b_gtr) ?_)
 refine bv rfl (v_pickF rfl rfl rfl) ?_
 refine mv rfl rfl ?_
 refine b_nil (hK _ ?_)
 clear hK K
 exact to_le (s' := ⟨[(1, HV.fptr [HV.int .i64 p0.1, HV.int .i64 p0.2.1, slE eFromLabelTo p0.2.2] 0), (6, HV.bool (decide (256 < p0.1)))], []⟩) (AS.le_of ⟨rfl, rfl, trivial⟩ trivial) ⟨decide (256 < p0.1), (), h, rfl⟩

set_option maxHeartbeats 1600000 in
set_option maxRecDepth 100000 in
theorem w_graph_checkSet {p0 : TLabelsStatesEdges} {p1 : List (Int)} {r : Int} (h : m_graph_checkSet p0 p1 = some r) : Pure Tryz.prog 100 [HV.agg [HV.int .i64 p0.1, HV.int .i64 p0.2.1, slE eFromLabelTo p0.2.2], slE eInt p1] (· = HV.int .i64 r) := by
 unfold m_graph_checkSet at h
 refine Pure.of_body Tryz.func100 rfl rfl (Nat.le_of_ble_eq_true rfl) fun hf => ?_
 unfold Tryz.f100
 dsimp only [enumS, Nat.reduceAdd]
 refine AW.rgs rfl fun K hK => ?_
 refine b_op rfl (o_box rfl rfl rfl ?_)
 refine mv rfl rfl ?_
 refine b_fin hK (s' := ⟨[(1, slE eInt p1), (2, HV.fptr [HV.int .i64 p0.1, HV.int .i64 p0.2.1, slE eFromLabelTo p0.2.2] 0)], []⟩) (le_q rfl rfl) ?_
 clear hK K
 refine AW.seq ?_
 refine AW.rgs rfl fun K hK => ?_
 refine mv rfl rfl ?_
 refine bv rfl (v_lenF rfl rfl ty55 rfl) ?_
 refine mv rfl rfl ?_
 refine b_fin hK (s' := ⟨[(1, slE eInt p1), (2, HV.fptr [HV.int .i64 p0.1, HV.int .i64 p0.2.1, slE eFromLabelTo p0.2.2] 0), (7, slE eInt p1), (8, HV.int .i64 ((p1).length : Int)), (9, HV.int .i64 0)], []⟩) (le_q rfl rfl) ?_
 clear hK K
 refine AW.lpR h (by first | exact up_then | exact up_to) (S := Int) (V := Unit) (fun a v => ⟨[(1, slE eInt p1), (2, HV.fptr [HV.int .i64 p0.1, HV.int .i64 p0.2.1, slE eFromLabelTo p0.2.2] 0), (7, slE eInt p1), (8, HV.int .i64 ((p1).length : Int)), (9, HV.int .i64 a)], []⟩) ?_ (X := Unit) (W := Unit) (fun a v => ⟨[], []⟩) (fun a17 w18 h => ?_) (fun a1 w2 st3 h hr4=> ?_)
 ·exact to_le (s' := ⟨[(1, slE eInt p1), (2, HV.fptr [HV.int .i64 p0.1, HV.int .i64 p0.2.1, slE eFromLabelTo p0.2.2] 0), (7, slE eInt p1), (8, HV.int .i64 ((p1).length : Int)), (9, HV.int .i64 0)], []⟩) (AS.le_of ⟨rfl, rfl, rfl, rfl, rfl, trivial⟩ trivial) ⟨(), rfl⟩
 ·refine AW.rgs rfl fun K hK => ?_
  refine mv rfl rfl ?_
  refine b_fin hK (s' := ⟨[(4, HV.int .i64 0)], []⟩) (le_q rfl rfl) ?_
  clear hK K
  refine AW.ret ?_
  have h := Option.some.inj h
  subst h
  exact ret_pure (hs := [HV.int .i64 0]) (q := HV.int .i64 0) (.inr rfl) (resT rfl rfl) rfl trivial
 refine AW.rgs rfl fun K hK => ?_
 refine bv rfl (v_bin rfl rfl b_lss) ?_
 refine b_fin hK (s' := ⟨[(1, slE eInt p1), (2, HV.fptr [HV.int .i64 p0.1, HV.int .i64 p0.2.1, slE eFromLabelTo p0.2.2] 0), (7, slE eInt p1), (8, HV.int .i64 ((p1).length : Int)), (9, HV.int .i64 a1), (10, HV.bool (decide (a1 < ((p1).length : Int))))], []⟩) (le_q rfl rfl) ?_
 clear hK K
 refine AW.cseq rfl (fun hc => ?_) (fun hc => ?_)
 ·have hc := of_decide_eq_true hc
  have h := ifT hc h
  refine AW.skip ?_
  refine AW.seq (AW.block ?_)
  refine AW.rgs rfl fun K hK => ?_
  refine mv rfl rfl ?_
  obtain ⟨x5, h6, h⟩ := bS h
  refine bv rfl (v_idxF ty55 es55 rfl rfl (idx_lt h6)) ?_
  refine bv rfl (v_loadF ty3 rfl (l_cell eInt h6 (o := 0) rfl rfl)) ?_
  refine mv rfl rfl ?_
  refine mv rfl rfl ?_
  refine b_fin hK (s' := ⟨[(1, slE eInt p1), (2, HV.fptr [HV.int .i64 p0.1, HV.int .i64 p0.2.1, slE eFromLabelTo p0.2.2] 0), (5, HV.int .i64 a1), (6, HV.int .i64 x5), (7, slE eInt p1), (8, HV.int .i64 ((p1).length : Int)), (9, HV.int .i64 a1)], []⟩) (le_q rfl rfl) ?_
  clear hK K
  refine AW.seq ?_
  refine AW.seqJ h (S := Bool) (V := Unit) (fun a v => ⟨[(1, slE eInt p1), (2, HV.fptr [HV.int .i64 p0.1, HV.int .i64 p0.2.1, slE eFromLabelTo p0.2.2] 0), (5, HV.int .i64 a1), (6, HV.int .i64 x5), (7, slE eInt p1), (8, HV.int .i64 ((p1).length : Int)), (9, HV.int .i64 a1), (21, HV.bool a)], []⟩) (fun a7 w8 h => ?_) (fun k9 h => ?_)
  ·refine AW.cond rfl (fun hc => ?_) (fun hc => ?_)
   ·have h := ifT hc h
    refine AW.rgs rfl fun K hK => ?_
    refine mv rfl rfl ?_
    refine b_fin hK (s' := ⟨[(4, HV.int .i64 25)], []⟩) (le_q rfl rfl) ?_
    clear hK K
    have h := hr4 _ h
    refine AW.ret ?_
    have h := Option.some.inj h
    subst h
    exact ret_pure (hs := [HV.int .i64 25]) (q := HV.int .i64 25) (.inr rfl) (resT rfl rfl) rfl trivial
   have h := ifF (bF' hc) h
   refine AW.skip ?_
   refine AW.seqJ h (S := Bool) (V := Unit) (fun a v => ⟨[(1, slE eInt p1), (2, HV.fptr [HV.int .i64 p0.1, HV.int .i64 p0.2.1, slE eFromLabelTo p0.2.2] 0), (7, slE eInt p1), (8, HV.int .i64 ((p1).length : Int)), (9, HV.int .i64 a1), (32, HV.bool a)], []⟩) (fun a10 w11 h => ?_) (fun k12 h => ?_)
   ·refine AW.cond rfl (fun hc => ?_) (fun hc => ?_)
    ·have h := ifT hc h
     refine AW.rgs rfl fun K hK => ?_
     refine mv rfl rfl ?_
     refine b_fin hK (s' := ⟨[(4, HV.int .i64 10)], []⟩) (le_q rfl rfl) ?_
     clear hK K
     have h := hr4 _ h
     refine AW.ret ?_
     have h := Option.some.inj h
     subst h
     exact ret_pure (hs := [HV.int .i64 10]) (q := HV.int .i64 10) (.inr rfl) (resT rfl rfl) rfl trivial
    have h := ifF (bF' hc) h
    refine AW.skip ?_
    refine AW.rg rfl fun K hK => ?_
    refine bv rfl (v_bin rfl rfl b_add) ?_
    refine mv rfl rfl ?_
    refine b_nil (hK _ ?_)
    clear hK K
    exact to_le (s' := ⟨[(1, slE eInt p1), (2, HV.fptr [HV.int .i64 p0.1, HV.int .i64 p0.2.1, slE eFromLabelTo p0.2.2] 0), (7, slE eInt p1), (8, HV.int .i64 ((p1).length : Int)), (9, HV.int .i64 (IntKind.wrap .i64 (a1 + 1)))], []⟩) (AS.le_of ⟨rfl, rfl, rfl, rfl, rfl, trivial⟩ trivial) ⟨IntKind.wrap .i64 (a1 + 1), (), h, rfl⟩
   refine AW.rg rfl fun K hK => ?_
   refine mv rfl rfl ?_
   refine bv rfl (v_bin rfl rfl b_gtr) ?_
   refine mv rfl rfl ?_
   by_cases hg15 : 0 < a1
   ·have h := ifT hg15 h
    refine b_T rfl rfl rfl rfl (decide_eq_true hg15) (o_val rfl (mv_val rfl rfl).2 ?_)
    refine b_T rfl rfl rfl rfl rfl (o_val rfl (mv_val rfl rfl).2 ?_)
    refine b_T rfl rfl rfl rfl rfl (o_val rfl (mv_val rfl rfl).2 ?_)
    refine b_T rfl rfl rfl rfl rfl (o_val rfl (v_bin rfl rfl b_sub) ?_)
    obtain ⟨x13, h14, h⟩ := bS h
    refine b_T rfl rfl rfl rfl rfl (o_val rfl (v_idxF ty55 es55 rfl rfl (idx_lt h14)) ?_)
    refine b_T rfl rfl rfl rfl rfl (o_val rfl (v_loadF ty3 rfl (l_cell eInt h14 (o := 0) rfl rfl)) ?_)
    refine b_T rfl rfl rfl rfl rfl (o_val rfl (v_bin rfl rfl b_leq) ?_)
    refine bv rfl (v_pickT rfl rfl rfl) ?_
    refine b_nil (hK _ ?_)
    clear hK K
    exact to_le (s' := ⟨[(1, slE eInt p1), (2, HV.fptr [HV.int .i64 p0.1, HV.int .i64 p0.2.1, slE eFromLabelTo p0.2.2] 0), (7, slE eInt p1), (8, HV.int .i64 ((p1).length : Int)), (9, HV.int .i64 a1), (32, HV.bool (decide (x5 ≤ x13)))], []⟩) (AS.le_of ⟨rfl, rfl, rfl, rfl, rfl, rfl, trivial⟩ trivial) ⟨decide (x5 ≤ x13), (), h, rfl⟩
   have h := ifF hg15 h
   refine b_F rfl rfl rfl rfl rfl (decide_eq_false hg15) ?_
   refine b_F rfl rfl rfl rfl rfl rfl ?_
   refine b_F rfl rfl rfl rfl rfl rfl ?_
   refine b_F rfl rfl rfl rfl rfl rfl ?_
   refine b_F rfl rfl rfl rfl rfl rfl ?_
   refine b_F rfl rfl rfl rfl rfl rfl ?_
   refine b_F rfl rfl rfl rfl rfl rfl ?_
   refine bv rfl (v_pickF rfl rfl rfl) ?_
   refine b_nil (hK _ ?_)
   clear hK K
   exact to_le (s' := ⟨[(1, slE eInt p1), (2, HV.fptr [HV.int .i64 p0.1, HV.int .i64 p0.2.1, slE eFromLabelTo p0.2.2] 0), (7, slE eInt p1), (8, HV.int .i64 ((p1).length : Int)), (9, HV.int .i64 a1), (32, HV.bool false)], []⟩) (AS.le_of ⟨rfl, rfl, rfl, rfl, rfl, rfl, trivial⟩ trivial) ⟨false, (), h, rfl⟩
  refine AW.rg rfl fun K hK => ?_
  refine mv rfl rfl ?_
  refine bv rfl (v_bin rfl rfl b_lss) ?_
  refine mv rfl rfl ?_
  by_cases hg16 : x5 < 0
  ·have h := ifT hg16 h
   refine b_F rfl rfl rfl rfl rfl (decide_eq_true hg16) ?_
   refine b_F rfl rfl rfl rfl rfl rfl ?_
   refine b_F rfl rfl rfl rfl rfl rfl ?_
   refine b_F rfl rfl rfl rfl rfl rfl ?_
   refine bv rfl (v_pickT rfl rfl rfl) ?_
   refine b_nil (hK _ ?_)
   clear hK K
   exact to_le (s' := ⟨[(1, slE eInt p1), (2, HV.fptr [HV.int .i64 p0.1, HV.int .i64 p0.2.1, slE eFromLabelTo p0.2.2] 0), (5, HV.int .i64 a1), (6, HV.int .i64 x5), (7, slE eInt p1), (8, HV.int .i64 ((p1).length : Int)), (9, HV.int .i64 a1), (21, HV.bool true)], []⟩) (AS.le_of ⟨rfl, rfl, rfl, rfl, rfl, rfl, rfl, rfl, trivial⟩ trivial) ⟨true, (), h, rfl⟩
  have h := ifF hg16 h
  refine b_T rfl rfl rfl rfl (decide_eq_false hg16) (o_val rfl (mv_val rfl rfl).2 ?_)
  refine b_T rfl rfl rfl rfl rfl (o_val rfl (v_fieldAddrF fo24_1 rfl) ?_)
  refine b_T rfl rfl rfl rfl rfl (o_val rfl (v_loadF ty3 rfl (l_lit rfl rfl)) ?_)
  refine b_T rfl rfl rfl rfl rfl (o_val rfl (v_bin rfl rfl b_geq) ?_)
  refine bv rfl (v_pickF rfl rfl rfl) ?_
  refine b_nil (hK _ ?_)
  clear hK K
  exact to_le (s' := ⟨[(1, slE eInt p1), (2, HV.fptr [HV.int .i64 p0.1, HV.int .i64 p0.2.1, slE eFromLabelTo p0.2.2] 0), (5, HV.int .i64 a1), (6, HV.int .i64 x5), (7, slE eInt p1), (8, HV.int .i64 ((p1).length : Int)), (9, HV.int .i64 a1), (21, HV.bool (decide (p0.2.1 ≤ x5)))], []⟩) (AS.le_of ⟨rfl, rfl, rfl, rfl, rfl, rfl, rfl, rfl, trivial⟩ trivial) ⟨decide (p0.2.1 ≤ x5), (), h, rfl⟩
 have hc := of_decide_eq_false hc
 have h := ifF hc h
 refine AW.exit ?_
 exact to_le (s' := ⟨[], []⟩) (AS.le_of trivial trivial) ⟨(), (), h, rfl⟩

set_option maxHeartbeats 1600000 in
set_option maxRecDepth 100000 in
theorem w_graph_leaving (p0 : TLabelsStatesEdges) (p1 : Int) : Pure Tryz.prog 101 [HV.agg [HV.int .i64 p0.1, HV.int .i64 p0.2.1, slE eFromLabelTo p0.2.2], HV.int .i64 p1] (· = HV.fn (.func 124) [] [HV.fptr [HV.int .i64 p0.1, HV.int .i64 p0.2.1, slE eFromLabelTo p0.2.2] 0, HV.fptr [HV.int .i64 p1] 0]) := by
 refine Pure.of_body Tryz.func101 rfl rfl (Nat.le_of_ble_eq_true rfl) fun hf => ?_
 unfold Tryz.f101
 dsimp only [enumS, Nat.reduceAdd]
 refine AW.rgs rfl fun K hK => ?_
 refine b_op rfl (o_box rfl rfl rfl ?_)
 refine b_op rfl (o_box rfl rfl rfl ?_)
 refine mv rfl rfl ?_
 refine b_fin hK (s' := ⟨[(2, HV.fptr [HV.int .i64 p0.1, HV.int .i64 p0.2.1, slE eFromLabelTo p0.2.2] 0), (3, HV.fptr [HV.int .i64 p1] 0)], []⟩) (le_q rfl rfl) ?_
 clear hK K
 refine AW.rgs rfl fun K hK => ?_
 refine bv rfl (v_func rfl rfl) ?_
 refine mv rfl rfl ?_
 refine b_fin hK (s' := ⟨[(4, HV.fn (.func 124) [] [HV.fptr [HV.int .i64 p0.1, HV.int .i64 p0.2.1, slE eFromLabelTo p0.2.2] 0, HV.fptr [HV.int .i64 p1] 0])], []⟩) (le_q rfl rfl) ?_
 clear hK K
 refine AW.ret ?_
 exact ret_pure (hs := [HV.fn (.func 124) [] [HV.fptr [HV.int .i64 p0.1, HV.int .i64 p0.2.1, slE eFromLabelTo p0.2.2] 0, HV.fptr [HV.int .i64 p1] 0]]) (q := HV.fn (.func 124) [] [HV.fptr [HV.int .i64 p0.1, HV.int .i64 p0.2.1, slE eFromLabelTo p0.2.2] 0, HV.fptr [HV.int .i64 p1] 0]) (.inr rfl) (resT rfl rfl) rfl ⟨trivial, ⟨⟨trivial, trivial, (clean_slE fun _ _ => ⟨trivial, trivial, trivial, trivial⟩), trivial⟩, ⟨trivial, trivial⟩, trivial⟩⟩

end Go.AW

namespace Go.AW
open Go Go.Proofs
set_option linter.unusedVariables false
set_option maxHeartbeats 1600000 in
set_option maxRecDepth 100000 in
theorem w_graph_Step {p0 : TLabelsStatesEdges} {p1 : List (Int)} {p2 : Int} {r : (List (Int)) × Int} (h : m_graph_Step p0 p1 p2 = some r) : Pure Tryz.prog 79 [HV.agg [HV.int .i64 p0.1, HV.int .i64 p0.2.1, slE eFromLabelTo p0.2.2], slE eInt p1, HV.int .i64 p2] (· = HV.tup [slE eInt r.1, HV.int .i64 r.2]) := by
 unfold m_graph_Step at h
 refine Pure.of_body Tryz.func79 rfl rfl (Nat.le_of_ble_eq_true rfl) fun hf => ?_
 unfold Tryz.f79
 dsimp only [enumS, Nat.reduceAdd]
 refine AW.rgs rfl fun K hK => ?_
 refine b_op rfl (o_box rfl rfl rfl ?_)
 refine b_op rfl (o_box rfl rfl rfl ?_)
 refine mv rfl rfl ?_
 refine mv rfl rfl ?_
 refine b_fin hK (s' := ⟨[(1, slE eInt p1), (3, HV.fptr [HV.int .i64 p0.1, HV.int .i64 p0.2.1, slE eFromLabelTo p0.2.2] 0), (5, HV.fptr [HV.int .i64 p2] 0)], []⟩) (le_q rfl rfl) ?_
 clear hK K
 refine AW.seq ?_
 refine AW.rgs rfl fun K hK => ?_
 refine bv rfl (v_loadF ty24 rfl (l_litA rfl (Nat.le_of_ble_eq_true rfl) rfl)) ?_
 obtain ⟨x1, h2, h⟩ := bS h
 refine b_op rfl (o_call rfl rfl rfl rfl (ACallD.pure0 (w_graph_Check h2)) ?_)
 refine bv rfl (v_bin rfl rfl b_neq) ?_
 refine b_fin hK (s' := ⟨[(1, slE eInt p1), (3, HV.fptr [HV.int .i64 p0.1, HV.int .i64 p0.2.1, slE eFromLabelTo p0.2.2] 0), (5, HV.fptr [HV.int .i64 p2] 0), (16, HV.bool (decide (x1 ≠ 0)))], []⟩) (le_q rfl rfl) ?_
 clear hK K
 refine AW.cond rfl (fun hc => ?_) (fun hc => ?_)
 ·have hc := of_decide_eq_true hc
  have h := ifT hc h
  refine AW.rgs rfl fun K hK => ?_
  refine mv rfl rfl ?_
  refine mv rfl rfl ?_
  refine b_fin hK (s' := ⟨[(6, HV.v (.slice none 0 0)), (7, HV.int .i64 1)], []⟩) (le_q rfl rfl) ?_
  clear hK K
  refine AW.to (to_weak ⟨[(6, slE eInt ([] : List Int)), (7, HV.int .i64 1)], []⟩ ⟨⟨_, rfl, .nil _⟩, ⟨_, rfl, .refl _⟩, trivial⟩ trivial ?_)
  refine AW.ret ?_
  have h := Option.some.inj h
  subst h
  exact ret_pure (hs := [slE eInt ([] : List Int), HV.int .i64 1]) (q := HV.tup [slE eInt ([] : List Int), HV.int .i64 1]) (.inr rfl) (resT rfl (resT rfl rfl)) rfl ⟨(clean_slE fun _ _ => ⟨trivial, trivial⟩), trivial, trivial⟩
 have hc := of_decide_eq_false hc
 have h := ifF hc h
 refine AW.skip ?_
 refine AW.seq ?_
 refine AW.rgs rfl fun K hK => ?_
 refine bv rfl (v_loadF ty24 rfl (l_litA rfl (Nat.le_of_ble_eq_true rfl) rfl)) ?_
 refine mv rfl rfl ?_
 obtain ⟨x3, h4, h⟩ := bS h
 refine b_op rfl (o_call rfl rfl rfl rfl (ACallD.pure0 (w_graph_checkSet h4)) ?_)
 refine mv rfl rfl ?_
 refine b_fin hK (s' := ⟨[(1, slE eInt p1), (3, HV.fptr [HV.int .i64 p0.1, HV.int .i64 p0.2.1, slE eFromLabelTo p0.2.2] 0), (5, HV.fptr [HV.int .i64 p2] 0), (8, HV.int .i64 x3)], []⟩) (le_q rfl rfl) ?_
 clear hK K
 refine AW.rgs rfl fun K hK => ?_
 refine mv rfl rfl ?_
 refine bv rfl (v_bin rfl rfl b_neq) ?_
 refine b_fin hK (s' := ⟨[(1, slE eInt p1), (3, HV.fptr [HV.int .i64 p0.1, HV.int .i64 p0.2.1, slE eFromLabelTo p0.2.2] 0), (5, HV.fptr [HV.int .i64 p2] 0), (8, HV.int .i64 x3), (21, HV.bool (decide (x3 ≠ 0)))], []⟩) (le_q rfl rfl) ?_
 clear hK K
 refine AW.cond rfl (fun hc => ?_) (fun hc => ?_)
 ·have hc := of_decide_eq_true hc
  have h := ifT hc h
  refine AW.rgs rfl fun K hK => ?_
  refine mv rfl rfl ?_
  refine mv rfl rfl ?_
  refine mv rfl rfl ?_
  refine b_fin hK (s' := ⟨[(6, HV.v (.slice none 0 0)), (7, HV.int .i64 x3)], []⟩) (le_q rfl rfl) ?_
  clear hK K
  refine AW.to (to_weak ⟨[(6, slE eInt ([] : List Int)), (7, HV.int .i64 x3)], []⟩ ⟨⟨_, rfl, .nil _⟩, ⟨_, rfl, .refl _⟩, trivial⟩ trivial ?_)
  refine AW.ret ?_
  have h := Option.some.inj h
  subst h
  exact ret_pure (hs := [slE eInt ([] : List Int), HV.int .i64 x3]) (q := HV.tup [slE eInt ([] : List Int), HV.int .i64 x3]) (.inr rfl) (resT rfl (resT rfl rfl)) rfl ⟨(clean_slE fun _ _ => ⟨trivial, trivial⟩), trivial, trivial⟩
 have hc := of_decide_eq_false hc
 have h := ifF hc h
 refine AW.skip ?_
 refine AW.seq ?_
 refine AW.seqJ h (S := Bool) (V := Unit) (fun a v => ⟨[(1, slE eInt p1), (3, HV.fptr [HV.int .i64 p0.1, HV.int .i64 p0.2.1, slE eFromLabelTo p0.2.2] 0), (5, HV.fptr [HV.int .i64 p2] 0), (30, HV.bool a)], []⟩) (fun a5 w6 h => ?_) (fun k7 h => ?_)
 ·refine AW.cond rfl (fun hc => ?_) (fun hc => ?_)
  ·have h := ifT hc h
   refine AW.rgs rfl fun K hK => ?_
   refine mv rfl rfl ?_
   refine mv rfl rfl ?_
   refine b_fin hK (s' := ⟨[(6, HV.v (.slice none 0 0)), (7, HV.int .i64 2)], []⟩) (le_q rfl rfl) ?_
   clear hK K
   refine AW.to (to_weak ⟨[(6, slE eInt ([] : List Int)), (7, HV.int .i64 2)], []⟩ ⟨⟨_, rfl, .nil _⟩, ⟨_, rfl, .refl _⟩, trivial⟩ trivial ?_)
   refine AW.ret ?_
   have h := Option.some.inj h
   subst h
   exact ret_pure (hs := [slE eInt ([] : List Int), HV.int .i64 2]) (q := HV.tup [slE eInt ([] : List Int), HV.int .i64 2]) (.inr rfl) (resT rfl (resT rfl rfl)) rfl ⟨(clean_slE fun _ _ => ⟨trivial, trivial⟩), trivial, trivial⟩
  have h := ifF (bF' hc) h
  refine AW.skip ?_
  refine AW.rgs rfl fun K hK => ?_
  refine b_op rfl (o_alloc (fid := 79) (zs := [HV.v (.slice none 0 0)]) 79009 rfl rfl ty55 rfl (fun v8 => ?_))
  refine b_fin hK (s' := ⟨[(1, slE eInt p1), (3, HV.fptr [HV.int .i64 p0.1, HV.int .i64 p0.2.1, slE eFromLabelTo p0.2.2] 0), (5, HV.fptr [HV.int .i64 p2] 0), (9, HV.ptr 79009 v8 0)], [(79009, v8, .arr 1 55 [HV.v (.slice none 0 0)])]⟩) (le_q rfl rfl) ?_
  clear hK K
  refine AW.seq ?_
  refine AW.rgs rfl fun K hK => ?_
  refine mv rfl rfl ?_
  refine bv rfl (v_lenF rfl rfl ty55 rfl) ?_
  refine mv rfl rfl ?_
  refine b_fin hK (s' := ⟨[(3, HV.fptr [HV.int .i64 p0.1, HV.int .i64 p0.2.1, slE eFromLabelTo p0.2.2] 0), (5, HV.fptr [HV.int .i64 p2] 0), (9, HV.ptr 79009 v8 0), (31, slE eInt p1), (32, HV.int .i64 ((p1).length : Int)), (33, HV.int .i64 0)], [(79009, v8, .arr 1 55 [HV.v (.slice none 0 0)])]⟩) (le_q rfl rfl) ?_
  clear hK K
  refine AW.lpX h (by first | exact up_then | exact up_to) (S := Int × (List Int)) (V := Nat) (fun a v => ⟨[(3, HV.fptr [HV.int .i64 p0.1, HV.int .i64 p0.2.1, slE eFromLabelTo p0.2.2] 0), (5, HV.fptr [HV.int .i64 p2] 0), (9, HV.ptr 79009 v8 0), (31, slE eInt p1), (32, HV.int .i64 ((p1).length : Int)), (33, HV.int .i64 a.1)], [(79009, v8, .arr 1 55 [HV.ar 79050 v eInt.k 0 ((a.2).length)]), (79050, v, .arr eInt.k 3 (eInt.E a.2))]⟩) ?_ (X := (List Int)) (W := Nat) (fun a v => ⟨[(9, HV.ptr 79009 v8 0)], [(79009, v8, .arr 1 55 [HV.ar 79050 v eInt.k 0 ((a).length)]), (79050, v, .arr eInt.k 3 (eInt.E a))]⟩) (fun a31 w32 h => ?_) (fun a9 w10 st11 h => ?_)
  ·refine to_bind (to_ownC 79050 79009 v8 1 0 eInt.k 3 55 rfl rfl (by decide) fun v30 => ?_)
   exact to_le (s' := ⟨[(3, HV.fptr [HV.int .i64 p0.1, HV.int .i64 p0.2.1, slE eFromLabelTo p0.2.2] 0), (5, HV.fptr [HV.int .i64 p2] 0), (9, HV.ptr 79009 v8 0), (31, slE eInt p1), (32, HV.int .i64 ((p1).length : Int)), (33, HV.int .i64 0)], [(79009, v8, .arr 1 55 [HV.ar 79050 v30 eInt.k 0 ((([] : List Int)).length)]), (79050, v30, .arr eInt.k 3 (eInt.E ([] : List Int)))]⟩) (AS.le_of ⟨rfl, rfl, rfl, rfl, rfl, rfl, trivial⟩ ⟨hle rfl (by first | rfl | simp only [List.length_set, sortI_len, sortS_len]), rfl, trivial⟩) ⟨v30, rfl⟩
  ·refine AW.rgs rfl fun K hK => ?_
   refine bv rfl (v_loadP ty55 rfl rfl (l_lit rfl rfl)) ?_
   obtain ⟨h33, h⟩ := ifN h
   refine b_op rfl (o_sortI c_sortI (l := a31) rfl rfl rfl rfl h33 ?_)
   refine b_fin hK (s' := ⟨[(9, HV.ptr 79009 v8 0)], [(79009, v8, .arr 1 55 [HV.ar 79050 w32 eInt.k 0 ((sortI a31).length)]), (79050, w32, .arr eInt.k 3 (eInt.E (sortI a31)))]⟩) (AS.le_of ⟨rfl, trivial⟩ ⟨hle rfl (by first | rfl | simp only [List.length_set, sortI_len, sortS_len]), rfl, trivial⟩) ?_
   clear hK K
   refine AW.rgs rfl fun K hK => ?_
   refine bv rfl (v_loadP ty55 rfl rfl (l_lit rfl rfl)) ?_
   refine b_op rfl (o_callK (q := slE eInt (compact_ (sortI a31))) [(79009, v8, .arr 1 55 [HV.ar 79050 w32 eInt.k 0 ((sortI a31).length)])] rfl rfl rfl rfl (fun K hK => c_compactI (H' := [(79009, v8, .arr 1 55 [HV.ar 79050 w32 eInt.k 0 ((sortI a31).length)])]) (l := sortI a31) rfl rfl (leH_get ⟨rfl, trivial⟩) rfl hK) ?_)
   refine mv rfl rfl ?_
   refine mv rfl rfl ?_
   refine b_fin hK (s' := ⟨[(6, slE eInt (compact_ (sortI a31))), (7, HV.int .i64 0)], []⟩) (le_q rfl rfl) ?_
   clear hK K
   refine AW.ret ?_
   have h := Option.some.inj h
   subst h
   exact ret_pure (hs := [slE eInt (compact_ (sortI a31)), HV.int .i64 0]) (q := HV.tup [slE eInt (compact_ (sortI a31)), HV.int .i64 0]) (.inr rfl) (resT rfl (resT rfl rfl)) rfl ⟨(clean_slE fun _ _ => ⟨trivial, trivial⟩), trivial, trivial⟩
  refine AW.rgs rfl fun K hK => ?_
  refine bv rfl (v_bin rfl rfl b_lss) ?_
  refine b_fin hK (s' := ⟨[(3, HV.fptr [HV.int .i64 p0.1, HV.int .i64 p0.2.1, slE eFromLabelTo p0.2.2] 0), (5, HV.fptr [HV.int .i64 p2] 0), (9, HV.ptr 79009 v8 0), (31, slE eInt p1), (32, HV.int .i64 ((p1).length : Int)), (33, HV.int .i64 a9.1), (34, HV.bool (decide (a9.1 < ((p1).length : Int))))], [(79009, v8, .arr 1 55 [HV.ar 79050 w10 eInt.k 0 ((a9.2).length)]), (79050, w10, .arr eInt.k 3 (eInt.E a9.2))]⟩) (le_q rfl rfl) ?_
  clear hK K
  refine AW.cseq rfl (fun hc => ?_) (fun hc => ?_)
  ·have hc := of_decide_eq_true hc
   have h := ifT hc h
   refine AW.skip ?_
   refine AW.seq (AW.block ?_)
   refine AW.rgs rfl fun K hK => ?_
   obtain ⟨x13, h14, h⟩ := bS h
   refine bv rfl (v_idxF ty55 es55 rfl rfl (idx_lt h14)) ?_
   refine bv rfl (v_loadF ty3 rfl (l_cell eInt h14 (o := 0) rfl rfl)) ?_
   refine mv rfl rfl ?_
   refine b_fin hK (s' := ⟨[(3, HV.fptr [HV.int .i64 p0.1, HV.int .i64 p0.2.1, slE eFromLabelTo p0.2.2] 0), (5, HV.fptr [HV.int .i64 p2] 0), (9, HV.ptr 79009 v8 0), (11, HV.int .i64 x13), (31, slE eInt p1), (32, HV.int .i64 ((p1).length : Int)), (33, HV.int .i64 a9.1)], [(79009, v8, .arr 1 55 [HV.ar 79050 w10 eInt.k 0 ((a9.2).length)]), (79050, w10, .arr eInt.k 3 (eInt.E a9.2))]⟩) (le_q rfl rfl) ?_
   clear hK K
   refine AW.rgs rfl fun K hK => ?_
   refine bv rfl (v_loadF ty24 rfl (l_litA rfl (Nat.le_of_ble_eq_true rfl) rfl)) ?_
   refine mv rfl rfl ?_
   refine b_op rfl (o_call rfl rfl rfl rfl (ACallD.pure0 (w_graph_leaving p0 x13)) ?_)
   refine b_fin hK (s' := ⟨[(3, HV.fptr [HV.int .i64 p0.1, HV.int .i64 p0.2.1, slE eFromLabelTo p0.2.2] 0), (5, HV.fptr [HV.int .i64 p2] 0), (9, HV.ptr 79009 v8 0), (31, slE eInt p1), (32, HV.int .i64 ((p1).length : Int)), (33, HV.int .i64 a9.1), (39, HV.fn (.func 124) [] [HV.fptr [HV.int .i64 p0.1, HV.int .i64 p0.2.1, slE eFromLabelTo p0.2.2] 0, HV.fptr [HV.int .i64 x13] 0])], [(79009, v8, .arr 1 55 [HV.ar 79050 w10 eInt.k 0 ((a9.2).length)]), (79050, w10, .arr eInt.k 3 (eInt.E a9.2))]⟩) (le_q rfl rfl) ?_
   clear hK K
   refine AW.block ?_
   refine AW.to (to_le (s' := ⟨[(3, HV.fptr [HV.int .i64 p0.1, HV.int .i64 p0.2.1, slE eFromLabelTo p0.2.2] 0), (5, HV.fptr [HV.int .i64 p2] 0), (9, HV.ptr 79009 v8 0), (31, slE eInt p1), (32, HV.int .i64 ((p1).length : Int)), (33, HV.int .i64 a9.1), (39, HV.fn (.func 124) [] [HV.fptr [HV.int .i64 p0.1, HV.int .i64 p0.2.1, slE eFromLabelTo p0.2.2] 0, HV.fptr [HV.int .i64 x13] 0])], [(79009, v8, .arr 1 55 [HV.ar 79050 w10 eInt.k 0 ((a9.2).length)]), (79050, w10, .arr eInt.k 3 (eInt.E a9.2))]⟩) (le_q rfl rfl) ?_)
   obtain ⟨L15, h16, h⟩ := bS h
   refine AW.rangeY (c := .ret) 79900 (fun x => [HV.int .i64 x.1, HV.agg [HV.int .i64 x.2.1, HV.int .i64 x.2.2.1, HV.int .i64 x.2.2.2]]) h (by first | exact up_then | exact up_to) rfl (iy_graph_leaving h16) (S := (List Int)) (V := Nat) (fun a v => [(79009, v8, .arr 1 55 [HV.ar 79050 v eInt.k 0 ((a).length)]), (79050, v, .arr eInt.k 3 (eInt.E a))]) w10 (X := Unit) (W := Unit) (fun _ _ => []) (fun _ _ => rfl) (fun _ _ => rfl) rfl (fun _ => rfl) (fun a26 w27 h => ?_) (fun a28 w29 h => ?_) (fun Lo l22 v20 a17 x19 w18 st21 h => ?_)
   ·refine AW.rg rfl fun K hK => ?_
    refine bv rfl (v_bin rfl rfl b_add) ?_
    refine mv rfl rfl ?_
    refine b_nil (hK _ ?_)
    clear hK K
    exact to_le (s' := ⟨[(3, HV.fptr [HV.int .i64 p0.1, HV.int .i64 p0.2.1, slE eFromLabelTo p0.2.2] 0), (5, HV.fptr [HV.int .i64 p2] 0), (9, HV.ptr 79009 v8 0), (31, slE eInt p1), (32, HV.int .i64 ((p1).length : Int)), (33, HV.int .i64 (IntKind.wrap .i64 (a9.1 + 1)))], [(79009, v8, .arr 1 55 [HV.ar 79050 w27 eInt.k 0 ((a26).length)]), (79050, w27, .arr eInt.k 3 (eInt.E a26))]⟩) (AS.le_of ⟨rfl, rfl, rfl, rfl, rfl, rfl, trivial⟩ ⟨rfl, rfl, trivial⟩) ⟨(IntKind.wrap .i64 (a9.1 + 1), a26), w27, h, rfl⟩
   ·cases h
   refine AW.rg rfl fun K hK => ?_
   refine b_op rfl (o_alloc (fid := 79) (zs := [HV.int .i64 0, HV.int .i64 0, HV.int .i64 0]) 79013 rfl rfl ty44 rfl (fun v23 => ?_))
   refine b_op rfl (o_store (cs := [HV.int .i64 x19.2.1, HV.int .i64 x19.2.2.1, HV.int .i64 x19.2.2.2]) (zs := [HV.int .i64 x19.2.1, HV.int .i64 x19.2.2.1, HV.int .i64 x19.2.2.2]) rfl rfl rfl ty44 rfl rfl rfl rfl rfl ?_)
   refine b_nil (hK _ ?_)
   clear hK K
   refine ⟨rfl, rfl, ?_⟩
   refine AW.block ?_
   refine AW.rgs rfl fun K hK => ?_
   refine bv rfl (v_fieldAddrP fo44_1 rfl rfl) ?_
   refine bv rfl (v_loadP ty3 rfl rfl (l_lit rfl rfl)) ?_
   refine bv rfl (v_loadF ty3 rfl (l_lit rfl rfl)) ?_
   refine bv rfl (v_bin rfl rfl b_eql) ?_
   refine b_fin hK (s' := ⟨[(3, HV.fptr [HV.int .i64 p0.1, HV.int .i64 p0.2.1, slE eFromLabelTo p0.2.2] 0), (5, HV.fptr [HV.int .i64 p2] 0), (9, HV.ptr 79009 v8 0), (13, HV.ptr 79013 v23 0), (31, slE eInt p1), (32, HV.int .i64 ((p1).length : Int)), (33, HV.int .i64 a9.1), (41, HV.agg [HV.int .i64 x19.2.1, HV.int .i64 x19.2.2.1, HV.int .i64 x19.2.2.2]), (45, HV.bool (decide (x19.2.2.1 = p2)))], [(79900, v20, Lo .busy none), (79009, v8, .arr 1 55 [HV.ar 79050 w18 eInt.k 0 ((a17).length)]), (79050, w18, .arr eInt.k 3 (eInt.E a17)), (79013, v23, .arr 3 44 [HV.int .i64 x19.2.1, HV.int .i64 x19.2.2.1, HV.int .i64 x19.2.2.2])]⟩) (le_q rfl rfl) ?_
   clear hK K
   refine AW.cond rfl (fun hc => ?_) (fun hc => ?_)
   ·have hc := of_decide_eq_true hc
    have h := ifT hc h
    refine AW.rg rfl fun K hK => ?_
    refine bv rfl (v_loadP ty55 rfl rfl (l_lit rfl rfl)) ?_
    refine bv rfl (v_fieldAddrP fo44_2 rfl rfl) ?_
    refine bv rfl (v_loadP ty3 rfl rfl (l_lit rfl rfl)) ?_
    refine b_op rfl (o_bsl rfl rfl (as_of (cs := [HV.int .i64 x19.2.2.2]) ty55 ty3 rfl rfl rfl rfl rfl) ?_)
    obtain ⟨h25, h⟩ := ifN h
    refine b_op rfl (o_appE eInt (l := a17) (m := [x19.2.2.2]) rfl rfl ty55 ty55 ty3 rfl rfl rfl rfl rfl h25 (fun v24 => ?_))
    refine b_op rfl (o_store (cs := [HV.ar 79050 v24 eInt.k 0 ((a17 ++ [x19.2.2.2]).length)]) (zs := [HV.ar 79050 v24 eInt.k 0 ((a17 ++ [x19.2.2.2]).length)]) rfl rfl rfl ty55 rfl rfl rfl rfl rfl ?_)
    refine b_nil (hK _ ?_)
    clear hK K
    exact ⟨a17 ++ [x19.2.2.2], v24, h, (AS.le_of trivial ⟨rfl, rfl, rfl, trivial⟩)⟩
   have hc := of_decide_eq_false hc
   have h := ifF hc h
   refine AW.skip ?_
   exact ⟨a17, w18, h, (AS.le_of trivial ⟨rfl, rfl, rfl, trivial⟩)⟩
  have hc := of_decide_eq_false hc
  have h := ifF hc h
  refine AW.exit ?_
  exact to_le (s' := ⟨[(9, HV.ptr 79009 v8 0)], [(79009, v8, .arr 1 55 [HV.ar 79050 w10 eInt.k 0 ((a9.2).length)]), (79050, w10, .arr eInt.k 3 (eInt.E a9.2))]⟩) (AS.le_of ⟨rfl, trivial⟩ ⟨rfl, rfl, trivial⟩) ⟨a9.2, w10, h, rfl⟩
 refine AW.rg rfl fun K hK => ?_
 refine bv rfl (v_loadF ty3 rfl (l_lit rfl rfl)) ?_
 refine bv rfl (v_bin rfl rfl b_lss) ?_
 refine mv rfl rfl ?_
 by_cases hg34 : p2 < 0
 ·have h := ifT hg34 h
  refine b_F rfl rfl rfl rfl rfl (decide_eq_true hg34) ?_
  refine b_F rfl rfl rfl rfl rfl rfl ?_
  refine b_F rfl rfl rfl rfl rfl rfl ?_
  refine b_F rfl rfl rfl rfl rfl rfl ?_
  refine bv rfl (v_pickT rfl rfl rfl) ?_
  refine b_nil (hK _ ?_)
  clear hK K
  exact to_le (s' := ⟨[(1, slE eInt p1), (3, HV.fptr [HV.int .i64 p0.1, HV.int .i64 p0.2.1, slE eFromLabelTo p0.2.2] 0), (5, HV.fptr [HV.int .i64 p2] 0), (30, HV.bool true)], []⟩) (AS.le_of ⟨rfl, rfl, rfl, rfl, trivial⟩ trivial) ⟨true, (), h, rfl⟩
 have h := ifF hg34 h
 refine b_T rfl rfl rfl rfl (decide_eq_false hg34) (o_val rfl (v_loadF ty3 rfl (l_lit rfl rfl)) ?_)
 refine b_T rfl rfl rfl rfl rfl (o_val rfl (v_fieldAddrF fo24_0 rfl) ?_)
 refine b_T rfl rfl rfl rfl rfl (o_val rfl (v_loadF ty3 rfl (l_lit rfl rfl)) ?_)
 refine b_T rfl rfl rfl rfl rfl (o_val rfl (v_bin rfl rfl b_geq) ?_)
 refine bv rfl (v_pickF rfl rfl rfl) ?_
 refine b_nil (hK _ ?_)
 clear hK K
 exact to_le (s' := ⟨[(1, slE eInt p1), (3, HV.fptr [HV.int .i64 p0.1, HV.int .i64 p0.2.1, slE eFromLabelTo p0.2.2] 0), (5, HV.fptr [HV.int .i64 p2] 0), (30, HV.bool (decide (p0.1 ≤ p2)))], []⟩) (AS.le_of ⟨rfl, rfl, rfl, rfl, trivial⟩ trivial) ⟨decide (p0.1 ≤ p2), (), h, rfl⟩

set_option maxHeartbeats 1600000 in
set_option maxRecDepth 100000 in
theorem w_language_step {p0 : TLabelsStatesEdges} {p1 : List (Int)} {p2 : Int} {r : (List (Int))} (h : m_language_step p0 p1 p2 = some r) : Pure Tryz.prog 53 [HV.agg [HV.int .i64 p0.1, HV.int .i64 p0.2.1, slE eFromLabelTo p0.2.2], slE eInt p1, HV.int .u8 p2] (· = slE eInt r) := by
 unfold m_language_step at h
 refine Pure.of_body Tryz.func53 rfl rfl (Nat.le_of_ble_eq_true rfl) fun hf => ?_
 unfold Tryz.f53
 dsimp only [enumS, Nat.reduceAdd]
 refine AW.rgs rfl fun K hK => ?_
 refine b_op rfl (o_box rfl rfl rfl ?_)
 refine mv rfl rfl ?_
 refine b_fin hK (s' := ⟨[(1, slE eInt p1), (2, HV.int .u8 p2), (3, HV.fptr [HV.int .i64 p0.1, HV.int .i64 p0.2.1, slE eFromLabelTo p0.2.2] 0)], []⟩) (le_q rfl rfl) ?_
 clear hK K
 refine AW.dgs 10 follows rfl rfl fun K hK => ?_
 refine sv rfl (v_loadF ty24 rfl (l_litA rfl (Nat.le_of_ble_eq_true rfl) rfl)) ?_
 refine sm rfl rfl ?_
 refine sm rfl rfl ?_
 obtain ⟨x1, h2, h⟩ := bS h
 refine s_op rfl rfl (ops_call rfl rfl rfl rfl (ACallD.pure0 (w_strings_IndexByte h2)) ?_)
 obtain ⟨x3, h4, h⟩ := bS h
 refine s_op rfl rfl (ops_call rfl rfl rfl rfl (ACallD.pure0 (w_graph_Step h4)) ?_)
 refine sm rfl rfl ?_
 refine sv rfl (v_extract rfl rfl) ?_
 refine sv rfl (v_extract rfl rfl) ?_
 refine sm rfl rfl ?_
 refine sm rfl rfl ?_
 refine s_nil ?_
 refine b_fin hK (s' := ⟨[(7, slE eInt x3.1)], []⟩) (le_q rfl rfl) ?_
 clear hK K
 refine AW.rgs rfl fun K hK => ?_
 refine mv rfl rfl ?_
 refine mv rfl rfl ?_
 refine b_fin hK (s' := ⟨[(6, slE eInt x3.1)], []⟩) (le_q rfl rfl) ?_
 clear hK K
 refine AW.ret ?_
 have h := Option.some.inj h
 subst h
 exact ret_pure (hs := [slE eInt x3.1]) (q := slE eInt x3.1) (.inr rfl) (resT rfl rfl) rfl (clean_slE fun _ _ => ⟨trivial, trivial⟩)

set_option maxHeartbeats 1600000 in
set_option maxRecDepth 100000 in
theorem w_language_states {p0 : TLabelsStatesEdges} {r : (List (Int))} (h : m_language_states p0 = some r) : Pure Tryz.prog 34 [HV.agg [HV.int .i64 p0.1, HV.int .i64 p0.2.1, slE eFromLabelTo p0.2.2]] (· = slE eInt r) := by
 unfold m_language_states at h
 refine Pure.of_body Tryz.func34 rfl rfl (Nat.le_of_ble_eq_true rfl) fun hf => ?_
 unfold Tryz.f34
 dsimp only [enumS, Nat.reduceAdd]
 refine AW.rgs rfl fun K hK => ?_
 refine b_op rfl (o_box rfl rfl rfl ?_)
 refine mv rfl rfl ?_
 refine b_fin hK (s' := ⟨[(1, HV.fptr [HV.int .i64 p0.1, HV.int .i64 p0.2.1, slE eFromLabelTo p0.2.2] 0)], []⟩) (le_q rfl rfl) ?_
 clear hK K
 refine AW.rgs rfl fun K hK => ?_
 refine bv rfl (v_fieldAddrF fo24_1 rfl) ?_
 refine bv rfl (v_loadF ty3 rfl (l_lit rfl rfl)) ?_
 obtain ⟨h2, h⟩ := ifN h
 refine b_op rfl (o_makeE (fid := 34) eInt (0 : Int) 34007 rfl rfl ty55 rfl rfl ty3 rfl rfl h2 (fun v1 => ?_))
 refine mv rfl rfl ?_
 refine b_fin hK (s' := ⟨[(3, HV.ar 34007 v1 eInt.k 0 ((List.replicate (p0.2.1).toNat (0 : Int)).length))], [(34007, v1, .arr eInt.k 3 (eInt.E (List.replicate (p0.2.1).toNat (0 : Int))))]⟩) (le_q rfl rfl) ?_
 clear hK K
 refine AW.seq ?_
 refine AW.rgs rfl fun K hK => ?_
 refine mv rfl rfl ?_
 refine bv rfl (v_lenA rfl rfl ty55 rfl rfl) ?_
 refine mv rfl rfl ?_
 refine b_fin hK (s' := ⟨[(3, HV.ar 34007 v1 eInt.k 0 ((List.replicate (p0.2.1).toNat (0 : Int)).length)), (9, HV.int .i64 (((List.replicate (p0.2.1).toNat (0 : Int)).length : Nat) : Int)), (10, HV.int .i64 0)], [(34007, v1, .arr eInt.k 3 (eInt.E (List.replicate (p0.2.1).toNat (0 : Int))))]⟩) (le_q rfl rfl) ?_
 clear hK K
 refine AW.lpX h (by first | exact up_then | exact up_to) (S := Int × (List Int)) (V := Unit) (fun a v => ⟨[(3, HV.ar 34007 v1 eInt.k 0 ((a.2).length)), (9, HV.int .i64 (((List.replicate (p0.2.1).toNat (0 : Int)).length : Nat) : Int)), (10, HV.int .i64 a.1)], [(34007, v1, .arr eInt.k 3 (eInt.E a.2))]⟩) ?_ (X := (List Int)) (W := Unit) (fun a v => ⟨[(3, HV.ar 34007 v1 eInt.k 0 ((a).length))], [(34007, v1, .arr eInt.k 3 (eInt.E a))]⟩) (fun a9 w10 h => ?_) (fun a3 w4 st5 h => ?_)
 ·exact to_le (s' := ⟨[(3, HV.ar 34007 v1 eInt.k 0 ((List.replicate (p0.2.1).toNat (0 : Int)).length)), (9, HV.int .i64 (((List.replicate (p0.2.1).toNat (0 : Int)).length : Nat) : Int)), (10, HV.int .i64 0)], [(34007, v1, .arr eInt.k 3 (eInt.E (List.replicate (p0.2.1).toNat (0 : Int))))]⟩) (AS.le_of ⟨rfl, rfl, rfl, trivial⟩ ⟨rfl, trivial⟩) ⟨(), rfl⟩
 ·refine AW.rgs rfl fun K hK => ?_
  refine mv rfl rfl ?_
  refine mv rfl rfl ?_
  refine b_fin hK (s' := ⟨[(2, HV.ar 34007 v1 eInt.k 0 ((a9).length))], [(34007, v1, .arr eInt.k 3 (eInt.E a9))]⟩) (le_q rfl rfl) ?_
  clear hK K
  refine AW.to (to_frz 2 [(34007, v1, .arr eInt.k 3 (eInt.E a9))] ⟨[(2, slE eInt a9)], []⟩ ⟨⟨_, rfl, frz_slE eInt (l := a9) rfl fun _ _ => rfl⟩, trivial⟩ trivial ⟨rfl, trivial⟩ ⟨rfl, trivial⟩ ?_)
  refine AW.ret ?_
  have h := Option.some.inj h
  subst h
  exact ret_pure (hs := [slE eInt a9]) (q := slE eInt a9) (.inr rfl) (resT rfl rfl) rfl (clean_slE fun _ _ => ⟨trivial, trivial⟩)
 refine AW.rgs rfl fun K hK => ?_
 refine bv rfl (v_bin rfl rfl b_lss) ?_
 refine b_fin hK (s' := ⟨[(3, HV.ar 34007 v1 eInt.k 0 ((a3.2).length)), (9, HV.int .i64 (((List.replicate (p0.2.1).toNat (0 : Int)).length : Nat) : Int)), (10, HV.int .i64 a3.1), (11, HV.bool (decide (a3.1 < (((List.replicate (p0.2.1).toNat (0 : Int)).length : Nat) : Int))))], [(34007, v1, .arr eInt.k 3 (eInt.E a3.2))]⟩) (le_q rfl rfl) ?_
 clear hK K
 refine AW.cseq rfl (fun hc => ?_) (fun hc => ?_)
 ·have hc := of_decide_eq_true hc
  have h := ifT hc h
  refine AW.skip ?_
  refine AW.seq (AW.block ?_)
  refine AW.rgs rfl fun K hK => ?_
  refine mv rfl rfl ?_
  refine mv rfl rfl ?_
  refine b_fin hK (s' := ⟨[(3, HV.ar 34007 v1 eInt.k 0 ((a3.2).length)), (4, HV.int .i64 a3.1), (9, HV.int .i64 (((List.replicate (p0.2.1).toNat (0 : Int)).length : Nat) : Int)), (10, HV.int .i64 a3.1)], [(34007, v1, .arr eInt.k 3 (eInt.E a3.2))]⟩) (le_q rfl rfl) ?_
  clear hK K
  refine AW.rg rfl fun K hK => ?_
  refine mv rfl rfl ?_
  refine mv rfl rfl ?_
  refine mv rfl rfl ?_
  obtain ⟨x7, h8, h⟩ := bS h
  refine bv rfl (v_idxA ty55 es55 rfl rfl (idx_lt h8) rfl) ?_
  refine b_op rfl (o_storeE eInt (l := a3.2) (j := a3.1) (v := a3.1) rfl rfl rfl ty3 rfl rfl rfl (idx_lt h8) ?_)
  refine b_fin hK (s' := ⟨[(3, HV.ar 34007 v1 eInt.k 0 (((a3.2).set (a3.1).toNat a3.1).length)), (9, HV.int .i64 (((List.replicate (p0.2.1).toNat (0 : Int)).length : Nat) : Int)), (10, HV.int .i64 a3.1)], [(34007, v1, .arr eInt.k 3 (eInt.E ((a3.2).set (a3.1).toNat a3.1)))]⟩) (AS.le_of ⟨arl (by first | rfl | simp only [List.length_set, sortI_len, sortS_len]), rfl, rfl, trivial⟩ ⟨rfl, trivial⟩) ?_
  clear hK K
  refine AW.rg rfl fun K hK => ?_
  refine bv rfl (v_bin rfl rfl b_add) ?_
  refine mv rfl rfl ?_
  refine b_nil (hK _ ?_)
  clear hK K
  exact to_le (s' := ⟨[(3, HV.ar 34007 v1 eInt.k 0 (((a3.2).set (a3.1).toNat a3.1).length)), (9, HV.int .i64 (((List.replicate (p0.2.1).toNat (0 : Int)).length : Nat) : Int)), (10, HV.int .i64 (IntKind.wrap .i64 (a3.1 + 1)))], [(34007, v1, .arr eInt.k 3 (eInt.E ((a3.2).set (a3.1).toNat a3.1)))]⟩) (AS.le_of ⟨rfl, rfl, rfl, trivial⟩ ⟨rfl, trivial⟩) ⟨(IntKind.wrap .i64 (a3.1 + 1), (a3.2).set (a3.1).toNat a3.1), (), h, rfl⟩
 have hc := of_decide_eq_false hc
 have h := ifF hc h
 refine AW.exit ?_
 exact to_le (s' := ⟨[(3, HV.ar 34007 v1 eInt.k 0 ((a3.2).length))], [(34007, v1, .arr eInt.k 3 (eInt.E a3.2))]⟩) (AS.le_of ⟨rfl, trivial⟩ ⟨rfl, trivial⟩) ⟨a3.2, (), h, rfl⟩

set_option maxHeartbeats 1600000 in
set_option maxRecDepth 100000 in
theorem w_language_check {p0 : TLabelsStatesEdges} {r : Int} (h : m_language_check p0 = some r) : Pure Tryz.prog 52 [HV.agg [HV.int .i64 p0.1, HV.int .i64 p0.2.1, slE eFromLabelTo p0.2.2]] (· = HV.int .i64 r) := by
 unfold m_language_check at h
 refine Pure.of_body Tryz.func52 rfl rfl (Nat.le_of_ble_eq_true rfl) fun hf => ?_
 unfold Tryz.f52
 dsimp only [enumS, Nat.reduceAdd]
 refine AW.rgs rfl fun K hK => ?_
 refine b_op rfl (o_box rfl rfl rfl ?_)
 refine mv rfl rfl ?_
 refine b_fin hK (s' := ⟨[(1, HV.fptr [HV.int .i64 p0.1, HV.int .i64 p0.2.1, slE eFromLabelTo p0.2.2] 0)], []⟩) (le_q rfl rfl) ?_
 clear hK K
 refine AW.seq (AW.block ?_)
 refine AW.rgs rfl fun K hK => ?_
 refine bv rfl (v_loadF ty24 rfl (l_litA rfl (Nat.le_of_ble_eq_true rfl) rfl)) ?_
 obtain ⟨x1, h2, h⟩ := bS h
 refine b_op rfl (o_call rfl rfl rfl rfl (ACallD.pure0 (w_graph_Check h2)) ?_)
 refine bv rfl (v_bin rfl rfl b_neq) ?_
 refine mv rfl rfl ?_
 refine b_fin hK (s' := ⟨[(1, HV.fptr [HV.int .i64 p0.1, HV.int .i64 p0.2.1, slE eFromLabelTo p0.2.2] 0), (3, HV.bool (decide (x1 ≠ 0)))], []⟩) (le_q rfl rfl) ?_
 clear hK K
 refine AW.cond rfl (fun hc => ?_) (fun hc => ?_)
 ·have hc := of_decide_eq_true hc
  have h := ifT hc h
  refine AW.rgs rfl fun K hK => ?_
  refine mv rfl rfl ?_
  refine b_fin hK (s' := ⟨[(2, HV.int .i64 1)], []⟩) (le_q rfl rfl) ?_
  clear hK K
  refine AW.ret ?_
  have h := Option.some.inj h
  subst h
  exact ret_pure (hs := [HV.int .i64 1]) (q := HV.int .i64 1) (.inr rfl) (resT rfl rfl) rfl trivial
 have hc := of_decide_eq_false hc
 have h := ifF hc h
 refine AW.rgs rfl fun K hK => ?_
 refine bv rfl (v_fieldAddrF fo24_0 rfl) ?_
 refine bv rfl (v_loadF ty3 rfl (l_lit rfl rfl)) ?_
 refine bv rfl (v_bin rfl rfl b_gtr) ?_
 refine mv rfl rfl ?_
 refine b_fin hK (s' := ⟨[(7, HV.bool (decide (16 < p0.1)))], []⟩) (le_q rfl rfl) ?_
 clear hK K
 refine AW.cond rfl (fun hc => ?_) (fun hc => ?_)
 ·have hc := of_decide_eq_true hc
  have h := ifT hc h
  refine AW.rgs rfl fun K hK => ?_
  refine mv rfl rfl ?_
  refine b_fin hK (s' := ⟨[(2, HV.int .i64 12)], []⟩) (le_q rfl rfl) ?_
  clear hK K
  refine AW.ret ?_
  have h := Option.some.inj h
  subst h
  exact ret_pure (hs := [HV.int .i64 12]) (q := HV.int .i64 12) (.inr rfl) (resT rfl rfl) rfl trivial
 have hc := of_decide_eq_false hc
 have h := ifF hc h
 refine AW.skip ?_
 refine AW.rgs rfl fun K hK => ?_
 refine mv rfl rfl ?_
 refine b_fin hK (s' := ⟨[(2, HV.int .i64 0)], []⟩) (le_q rfl rfl) ?_
 clear hK K
 refine AW.ret ?_
 have h := Option.some.inj h
 subst h
 exact ret_pure (hs := [HV.int .i64 0]) (q := HV.int .i64 0) (.inr rfl) (resT rfl rfl) rfl trivial

set_option maxHeartbeats 1600000 in
set_option maxRecDepth 100000 in
theorem w_language_lengths {p0 : TLabelsStatesEdges} {p1 : Int} {r : Int} (h : m_language_lengths p0 p1 = some r) : Pure Tryz.prog 32 [HV.agg [HV.int .i64 p0.1, HV.int .i64 p0.2.1, slE eFromLabelTo p0.2.2], HV.int .i64 p1] (· = HV.int .i64 r) := by
 unfold m_language_lengths at h
 refine Pure.of_body Tryz.func32 rfl rfl (Nat.le_of_ble_eq_true rfl) fun hf => ?_
 unfold Tryz.f32
 dsimp only [enumS, Nat.reduceAdd]
 refine AW.rgs rfl fun K hK => ?_
 refine b_op rfl (o_box rfl rfl rfl ?_)
 refine mv rfl rfl ?_
 refine b_fin hK (s' := ⟨[(1, HV.int .i64 p1), (2, HV.fptr [HV.int .i64 p0.1, HV.int .i64 p0.2.1, slE eFromLabelTo p0.2.2] 0)], []⟩) (le_q rfl rfl) ?_
 clear hK K
 refine AW.seq ?_
 refine AW.rgs rfl fun K hK => ?_
 refine bv rfl (v_loadF ty24 rfl (l_litA rfl (Nat.le_of_ble_eq_true rfl) rfl)) ?_
 obtain ⟨x1, h2, h⟩ := bS h
 refine b_op rfl (o_call rfl rfl rfl rfl (ACallD.pure0 (w_language_check h2)) ?_)
 refine mv rfl rfl ?_
 refine b_fin hK (s' := ⟨[(1, HV.int .i64 p1), (5, HV.int .i64 x1)], []⟩) (le_q rfl rfl) ?_
 clear hK K
 refine AW.rgs rfl fun K hK => ?_
 refine mv rfl rfl ?_
 refine bv rfl (v_bin rfl rfl b_neq) ?_
 refine b_fin hK (s' := ⟨[(1, HV.int .i64 p1), (5, HV.int .i64 x1), (9, HV.bool (decide (x1 ≠ 0)))], []⟩) (le_q rfl rfl) ?_
 clear hK K
 refine AW.cond rfl (fun hc => ?_) (fun hc => ?_)
 ·have hc := of_decide_eq_true hc
  have h := ifT hc h
  refine AW.rgs rfl fun K hK => ?_
  refine mv rfl rfl ?_
  refine mv rfl rfl ?_
  refine b_fin hK (s' := ⟨[(4, HV.int .i64 x1)], []⟩) (le_q rfl rfl) ?_
  clear hK K
  refine AW.ret ?_
  have h := Option.some.inj h
  subst h
  exact ret_pure (hs := [HV.int .i64 x1]) (q := HV.int .i64 x1) (.inr rfl) (resT rfl rfl) rfl trivial
 have hc := of_decide_eq_false hc
 have h := ifF hc h
 refine AW.skip ?_
 refine AW.seq ?_
 refine AW.seqJ h (S := Bool) (V := Unit) (fun a v => ⟨[(16, HV.bool a)], []⟩) (fun a3 w4 h => ?_) (fun k5 h => ?_)
 ·refine AW.cond rfl (fun hc => ?_) (fun hc => ?_)
  ·have h := ifT hc h
   refine AW.rgs rfl fun K hK => ?_
   refine mv rfl rfl ?_
   refine b_fin hK (s' := ⟨[(4, HV.int .i64 2)], []⟩) (le_q rfl rfl) ?_
   clear hK K
   refine AW.ret ?_
   have h := Option.some.inj h
   subst h
   exact ret_pure (hs := [HV.int .i64 2]) (q := HV.int .i64 2) (.inr rfl) (resT rfl rfl) rfl trivial
  have h := ifF (bF' hc) h
  refine AW.skip ?_
  refine AW.rgs rfl fun K hK => ?_
  refine mv rfl rfl ?_
  refine b_fin hK (s' := ⟨[(4, HV.int .i64 0)], []⟩) (le_q rfl rfl) ?_
  clear hK K
  refine AW.ret ?_
  have h := Option.some.inj h
  subst h
  exact ret_pure (hs := [HV.int .i64 0]) (q := HV.int .i64 0) (.inr rfl) (resT rfl rfl) rfl trivial
 refine AW.rg rfl fun K hK => ?_
 refine mv rfl rfl ?_
 refine bv rfl (v_bin rfl rfl b_lss) ?_
 refine mv rfl rfl ?_
 by_cases hg6 : p1 < 0
 ·have h := ifT hg6 h
  refine b_F rfl rfl rfl rfl rfl (decide_eq_true hg6) ?_
  refine b_F rfl rfl rfl rfl rfl rfl ?_
  refine bv rfl (v_pickT rfl rfl rfl) ?_
  refine b_nil (hK _ ?_)
  clear hK K
  exact to_le (s' := ⟨[(16, HV.bool true)], []⟩) (AS.le_of ⟨rfl, trivial⟩ trivial) ⟨true, (), h, rfl⟩
 have h := ifF hg6 h
 refine b_T rfl rfl rfl rfl (decide_eq_false hg6) (o_val rfl (mv_val rfl rfl).2 ?_)
 refine b_T rfl rfl rfl rfl rfl (o_val rfl (v_bin rfl rfl b_gtr) ?_)
 refine bv rfl (v_pickF rfl rfl rfl) ?_
 refine b_nil (hK _ ?_)
 clear hK K
 exact to_le (s' := ⟨[(16, HV.bool (decide (4096 < p1)))], []⟩) (AS.le_of ⟨rfl, trivial⟩ trivial) ⟨decide (4096 < p1), (), h, rfl⟩

end Go.AW



/- language.list and what is made of its maps, as contracts. -/
namespace Go.AW
open Go Go.Proofs
set_option linter.unusedVariables false

theorem list_steps {g : TLabelsStatesEdges} {set : List Int} (h : StepsOk g set) : ∃ A : List Int → Prop, A set ∧ (∀ a c, A a → c ∈ letters.take g.1.toNat → A (stpM g a c)) ∧
    ∀ a c, A a → c ∈ letters.take g.1.toNat → Pure Tryz.prog 53 [HV.agg [HV.int .i64 g.1, HV.int .i64 g.2.1, slE eFromLabelTo g.2.2], ints a, .int .u8 c.toNat] (· = ints (stpM g a c)) := by
  obtain ⟨A, h0, hs⟩ := h
  refine ⟨A, h0, fun a c ha hc => ?_, fun a c ha hc => ?_⟩
  · obtain ⟨b, hb, hA⟩ := hs a c ha hc
    simp only [stpM, hb, Option.getD_some]
    exact hA
  · obtain ⟨b, hb, hA⟩ := hs a c ha hc
    simp only [stpM, hb, Option.getD_some]
    exact w_language_step hb

theorem c_listT {g : TLabelsStatesEdges} {set : List Int} {n : Int} {x : List WS × Bool} (h : m_language_list g set n = some x) (hx : x.2 = true) {K : HV → Heap → Prop}
    (hK : ∀ id ver es, es.Perm (x.1.map ent) ∧ (x.1.map (·.1)).Nodup ∧ x.1.length ≤ 1099511627776 → K (.tup [.mp id ver, .bool true]) [(id, ver, .map es)]) : ACall Tryz.prog 33 [HV.agg [HV.int .i64 g.1, HV.int .i64 g.2.1, slE eFromLabelTo g.2.2], slE eInt set, .int .i64 n] [] K := by
  unfold m_language_list at h
  split at h
  · rename_i hc
    obtain ⟨h1, h2, h3, h4⟩ := hc
    cases h
    split at hx
    · rename_i hok
      rw [if_pos hok] at hK
      obtain ⟨A, hA0, hA, hstep⟩ := list_steps h4
      obtain ⟨gl, gs, ge⟩ := g
      try dsimp only at h1
      try dsimp only at h2
      try dsimp only at hA
      try dsimp only at hstep
      try dsimp only at hok
      try dsimp only
      try dsimp only at hK
      obtain ⟨L, rfl⟩ := Int.eq_ofNat_of_zero_le h1
      obtain ⟨m, rfl⟩ := Int.eq_ofNat_of_zero_le h3
      simp only [Int.toNat_natCast] at hok hK hA hstep
      refine (w79 (L := L) (n := m) (gS := HV.int .i64 gs) (gE := slE eFromLabelTo ge) (by omega) rfl rfl hA0 hA hstep).mono ?_
      rintro r H' (⟨hok', id, ver, es, rfl, rfl, hes⟩ | ⟨j, j1, j2, j3, rfl, rfl⟩)
      · refine hK id ver es ⟨hes, lvl_keys (letters_nodup.sublist (List.take_sublist _ _)) m, ?_⟩
        cases m with
        | zero => simp only [lvl]; split <;> simp
        | succ m => have := hok' (m + 1) (by omega) (Nat.le_refl _); omega
      · have := okLvl_iff.1 hok j j1 j2
        omega
    · cases hx
  · cases h

theorem c_listF {g : TLabelsStatesEdges} {set : List Int} {n : Int} {x : List WS × Bool} (h : m_language_list g set n = some x) (hx : ¬ x.2 = true) {K : HV → Heap → Prop}
    (hK : K (.tup [.v (.map none), .bool false]) []) : ACall Tryz.prog 33 [HV.agg [HV.int .i64 g.1, HV.int .i64 g.2.1, slE eFromLabelTo g.2.2], slE eInt set, .int .i64 n] [] K := by
  unfold m_language_list at h
  split at h
  · rename_i hc
    obtain ⟨h1, h2, h3, h4⟩ := hc
    cases h
    split at hx
    · exact absurd rfl hx
    · rename_i hok
      obtain ⟨A, hA0, hA, hstep⟩ := list_steps h4
      obtain ⟨gl, gs, ge⟩ := g
      try dsimp only at h1
      try dsimp only at h2
      try dsimp only at hA
      try dsimp only at hstep
      try dsimp only at hok
      try dsimp only
      obtain ⟨L, rfl⟩ := Int.eq_ofNat_of_zero_le h1
      obtain ⟨m, rfl⟩ := Int.eq_ofNat_of_zero_le h3
      simp only [Int.toNat_natCast] at hok hA hstep
      refine (w79 (L := L) (n := m) (gS := HV.int .i64 gs) (gE := slE eFromLabelTo ge) (by omega) rfl rfl hA0 hA hstep).mono ?_
      rintro r H' (⟨hok', id, ver, es, rfl, rfl, hes⟩ | ⟨j, j1, j2, j3, rfl, rfl⟩)
      · exact absurd (okLvl_iff.2 hok') hok
      · exact hK
  · cases h

theorem c_sortedKeys {id ver : Nat} {es : List (List UInt8 × HV)} {l : List WS} (hes : es.Perm (l.map ent) ∧ (l.map (·.1)).Nodup ∧ l.length ≤ 1099511627776) {K : HV → Heap → Prop} (hK : K (slE eStr (sortS (l.map (·.1)))) []) :
    ACall Tryz.prog 35 [.fn (.func 56) [] [.fptr [.mp id ver] 0]] [(id, ver, .map es)] K := by
  obtain ⟨hp, hn, hb⟩ := hes
  have hlen : es.length = l.length := by rw [hp.length_eq, List.length_map]
  have hsk : sortS (es.map (·.1)) = sortS (l.map (·.1)) := by
    refine sortS_perm ?_
    have := hp.map (·.1)
    rw [List.map_map] at this
    exact this
  refine (w81 (f := id + 1) (perm_keys hp hn) (by omega) (by omega) (by omega) (by omega) (by omega)).conv' ?_
  rintro r H' (⟨he, rfl, rfl⟩ | ⟨id', av, hen, rfl, rfl⟩)
  · have hl : l = [] := List.eq_nil_of_length_eq_zero (by rw [← hlen, he]; rfl)
    subst hl
    have e0 : sortS (([] : List WS).map (·.1)) = [] := List.eq_nil_of_length_eq_zero (by rw [sortS_len]; rfl)
    rw [e0] at hK
    exact ⟨slE eStr [], [], Conv.le (.nil 1), hK⟩
  · refine ⟨_, [], Conv.all 2, ?_⟩
    have e : es.length = (sortS (es.map (·.1))).length := by rw [sortS_len, List.length_map]
    rw [e]
    have hf := frz_slE eStr (D := [(id', av, .arr 1 9 ((sortS (es.map (·.1))).map .str))]) (l := sortS (es.map (·.1))) hget_0 (fun _ _ => rfl)
    have hk2 := hK
    rw [← hsk, ← hf] at hk2
    exact hk2
end Go.AW

namespace Go.Proofs
open Go
def Tryz.index_ren : Go.Shelf.Ren := ⟨fun | 143 => 99 | 219 => 123 | 217 => 74 | 225 => 135 | 224 => 136 | 267 => 137 | 266 => 97 | 314 => 148 | n => n, fun | 9 => 9 | 3 => 3 | 4 => 4 | 5 => 5 | 46 => 117 | 146 => 159 | 51 => 153 | n => n, fun | 1 => 0 | n => n⟩
theorem Tryz.index : Go.Proofs.LaysM.n143 Tryz.prog Tryz.index_ren where
  mixed := by kernel_rfl
  f143 := Tryz.func99.trans (congrArg some (by kernel_rfl))
  f217 := Tryz.func74.trans (congrArg some (by kernel_rfl))
  f219 := Tryz.func123.trans (congrArg some (by kernel_rfl))
  f224 := Tryz.func136.trans (congrArg some (by kernel_rfl))
  f225 := Tryz.func135.trans (congrArg some (by kernel_rfl))
  f266 := Tryz.func97.trans (congrArg some (by kernel_rfl))
  f267 := Tryz.func137.trans (congrArg some (by kernel_rfl))
  f314 := Tryz.func148.trans (congrArg some (by kernel_rfl))
  t3 := Tryz.underlying3
  a3 := Tryz.isAgg3
  z3 := Tryz.sizeOf3
  v3 := Tryz.zeroValue3
  t4 := Tryz.underlying4
  a4 := Tryz.isAgg4
  z4 := Tryz.sizeOf4
  v4 := Tryz.zeroValue4
  t5 := Tryz.underlying5
  a5 := Tryz.isAgg5
  z5 := Tryz.sizeOf5
  v5 := Tryz.zeroValue5
  t9 := Tryz.underlying9
  a9 := Tryz.isAgg9
  z9 := Tryz.sizeOf9
  v9 := Tryz.zeroValue9
  t46 := Tryz.underlying117
  a46 := Tryz.isAgg117
  z46 := Tryz.sizeOf117
  v46 := Tryz.zeroValue117
  t51 := Tryz.underlying153
  a51 := Tryz.isAgg153
  z51 := Tryz.sizeOf153
  v51 := Tryz.zeroValue153
  t146 := Tryz.underlying159
  a146 := Tryz.isAgg159
  z146 := Tryz.sizeOf159
  v146 := Tryz.zeroValue159
  g1 := by kernel_rfl
  i3 := by kernel_rfl
  i4 := by kernel_rfl
  i5 := by kernel_rfl
  i9 := by kernel_rfl
  i46 := by kernel_rfl
  i51 := by kernel_rfl
  i146 := by kernel_rfl
  m1 := by kernel_rfl
  s1_3 := fun w h => Go.Proofs.cell_of_shapedOpen_int (zero := #[.int .i64 0]) (t := 3) h (of_decide_eq_true (by kernel_rfl)) (by kernel_rfl) rfl (by kernel_rfl) (by kernel_rfl) Tryz.underlying3
end Go.Proofs

/- strings.Index -/
namespace Go.AW
open Go
noncomputable def m_strings_Index (a b : List UInt8) : Option Int := if a.length < 4294967281 then some (Lib.index a b) else none
theorem index_wf (a b : List UInt8) (h : a.length < 4294967281) : (Lit.int .i64 (Lib.index a b)).wf = true := by
  have h1 := Lib.index_le a b
  have h2 := Lib.index_ge a b
  simp only [Lit.wf, IntKind.min, IntKind.max, IntKind.signed, IntKind.bits, Bool.and_eq_true, decide_eq_true_eq]
  simp
  omega
def occB (w u : List UInt8) (n : Nat) : List Int := ((List.range n).filter fun i => u.isPrefixOf (w.drop i)).map Int.ofNat
def occL (w u : List UInt8) : List Int := occB w u (w.length + 1)
def y_word_occurrences (u w : List UInt8) : Option (List Int) := if w.length < 4294967281 ∧ u.length ≤ 9223372036854775807 - 4294967281 then some (occL w u) else none
theorem occB_split (w u : List UInt8) {a b : Nat} (h : a ≤ b) : occB w u b = occB w u a ++ ((List.range' a (b - a)).filter fun i => u.isPrefixOf (w.drop i)).map Int.ofNat := by
  unfold occB
  rw [← List.map_append, ← List.filter_append]
  congr 2
  rw [List.range_eq_range', List.range_eq_range']
  have := List.range'_append_1 (s := 0) (m := a) (n := b - a)
  rw [Nat.zero_add] at this
  rw [this, show a + (b - a) = b by omega]
theorem prefix_len {u v : List UInt8} (h : u.isPrefixOf v = true) : u.length ≤ v.length := (List.isPrefixOf_iff_prefix.1 h).length_le
theorem occ_none {w u : List UInt8} {a b : Nat} (h : a ≤ b) (hn : ∀ i, a ≤ i → i < b → u.isPrefixOf (w.drop i) = false) : occB w u b = occB w u a := by
  rw [occB_split w u h]
  have : (List.range' a (b - a)).filter (fun i => u.isPrefixOf (w.drop i)) = [] := by
    rw [List.filter_eq_nil_iff]
    intro i hi
    have := List.mem_range'_1.1 hi
    rw [hn i this.1 (by omega)]
    decide
  rw [this]
  simp
theorem occ_one {w u : List UInt8} {a i : Nat} (h : a ≤ i) (hn : ∀ j, a ≤ j → j < i → u.isPrefixOf (w.drop j) = false) (hi : u.isPrefixOf (w.drop i) = true) : occB w u (i + 1) = occB w u a ++ [(i : Int)] := by
  rw [← occ_none h hn]
  unfold occB
  rw [List.range_succ, List.filter_append, List.map_append]
  congr 1
  rw [List.filter_cons, if_pos hi]
  rfl
theorem index_tells (w u : List UInt8) {a : Nat} (ha : a ≤ w.length) : (Lib.index (w.drop a) u < 0 ∧ ∀ i, a ≤ i → i < w.length + 1 → u.isPrefixOf (w.drop i) = false) ∨
    ∃ k : Nat, Lib.index (w.drop a) u = (k : Int) ∧ a + k ≤ w.length ∧ (∀ j, a ≤ j → j < a + k → u.isPrefixOf (w.drop j) = false) ∧ u.isPrefixOf (w.drop (a + k)) = true := by
  by_cases hex : ∃ k, k ≤ w.length - a ∧ u.isPrefixOf (w.drop (a + k)) = true
  · right
    have hleast : ∃ k, (k ≤ w.length - a ∧ u.isPrefixOf (w.drop (a + k)) = true) ∧ ∀ m, (m ≤ w.length - a ∧ u.isPrefixOf (w.drop (a + m)) = true) → k ≤ m := least _ hex
    obtain ⟨k, ⟨h1, h2⟩, h3⟩ := hleast
    refine ⟨k, ?_, by omega, fun j hj1 hj2 => ?_, h2⟩
    · refine Lib.index_first (by rw [List.length_drop]; exact h1) ?_ fun j hj => ?_
      · unfold Lib.occAt
        rw [List.drop_drop]
        exact h2
      · unfold Lib.occAt
        rw [List.drop_drop]
        cases hc : u.isPrefixOf (w.drop (a + j)) with
        | false => rfl
        | true => have := h3 j ⟨by omega, hc⟩; omega
    · cases hc : u.isPrefixOf (w.drop j) with
      | false => rfl
      | true =>
        have := h3 (j - a) ⟨by omega, by rw [show a + (j - a) = j by omega]; exact hc⟩
        omega
  · left
    have hno : ∀ i, a ≤ i → i < w.length + 1 → u.isPrefixOf (w.drop i) = false := fun i h1 h2 => by
      cases hc : u.isPrefixOf (w.drop i) with
      | false => rfl
      | true => exact absurd ⟨i - a, by omega, by rw [show a + (i - a) = i by omega]; exact hc⟩ hex
    refine ⟨?_, hno⟩
    rw [Lib.index_none]
    · decide
    · intro j hj
      unfold Lib.occAt
      rw [List.drop_drop]
      rw [List.length_drop] at hj
      exact hno (a + j) (by omega) (by omega)
end Go.AW

/- strings.Index, by the kit's contract (the variable that it reads holds some number). -/
namespace Go.AW
open Go Go.Proofs
theorem w_strings_Index {a0 a1 : List UInt8} {r : Int} (h : m_strings_Index a0 a1 = some r) : Pure Tryz.prog 99 [HV.str a0, HV.str a1] (· = HV.int .i64 r) := by
  unfold m_strings_Index at h
  split at h
  · rename_i hl
    cases h
    refine ⟨enters' Tryz.func99 rfl rfl, fun μ w vs hs hr hgl => ?_⟩
    obtain ⟨x, xs, rfl, ⟨rfl, _⟩, y, ys, rfl, ⟨rfl, _⟩, hn⟩ := hr
    cases hn
    obtain ⟨⟨m, hm⟩, _⟩ := hgl (Tryz.index_ren.g 1) (by decide)
    refine (Any.strings_Index { Tryz.index with } ⟨a0.toArray⟩ ⟨a1.toArray⟩ m w (by show a0.toArray.size < _; simpa using hl) hm).mono ?_
    rintro e w' ⟨rfl, rfl⟩
    exact ⟨_, _, [], μ, rfl, ⟨rfl, trivial, rfl⟩, hs, ⟨by simp, index_wf a0 a1 hl⟩, Evo.refl _ _⟩
  · cases h
end Go.AW

/- Marks: what follows a number of letters that have been read; places; bad words. -/
namespace Go.AW
open Go
def fgo (mark w : List UInt8) : Nat → Nat
  | 0 => 0
  | n + 1 => if (mark.take (n + 1)).isSuffixOf w then n + 1 else fgo mark w n
def foll (mark : List UInt8) (k : Nat) (c : UInt8) : Nat := fgo mark (mark.take k ++ [c]) (min (mark.take k ++ [c]).length mark.length)
abbrev TStateReadBadLeft := Int × Int × Bool × Int
abbrev cStateReadBadLeft (x : TStateReadBadLeft) : List HV := [HV.int .i64 x.1, HV.int .i64 x.2.1, HV.bool x.2.2.1, HV.int .i64 x.2.2.2]
abbrev eStateReadBadLeft : EncL TStateReadBadLeft := encF 4 cStateReadBadLeft (fun _ => rfl)
abbrev TGMarkTableNextMemo := TLabelsStatesEdges × (List UInt8) × (List Int) × (List (List TFromLabelTo)) × (Nat × Nat)
abbrev cGMarkTableNextMemo (x : TGMarkTableNextMemo) : List HV := [HV.int .i64 x.1.1, HV.int .i64 x.1.2.1, slE eFromLabelTo x.1.2.2, HV.str x.2.1, HV.sl 16 ((x.2.2.1).length / 16) (eInt.E x.2.2.1), slE (eSl eFromLabelTo) x.2.2.2.1, HV.mp x.2.2.2.2.1 x.2.2.2.2.2]
def letB (a : Int) : UInt8 := letters.getD a.toNat 0
def stepF (mark : List UInt8) (p : TStateReadBadLeft) (x : TFromLabelTo) : TStateReadBadLeft :=
  (x.2.2, (foll mark p.2.1.toNat (letB x.2.1) : Int), p.2.2.1 || decide (foll mark p.2.1.toNat (letB x.2.1) = mark.length), p.2.2.2 - 1)
def endsG (mark : List UInt8) : List UInt8 → Nat → Bool
  | [], _ => false
  | c :: cs, n => if foll mark n c = mark.length ∧ cs ≠ [] then true else endsG mark cs (foll mark n c)
def endsF (mark : List UInt8) (p : TStateReadBadLeft) : Bool := endsG mark mark p.2.1.toNat || p.2.2.1
def leav (E : List TFromLabelTo) (s : Int) : List TFromLabelTo := E.filter fun x => decide (x.1 = s)
def canF (E : List TFromLabelTo) (mark : List UInt8) : Nat → TStateReadBadLeft → Bool
  | 0, p => endsF mark p
  | n + 1, p => (leav E p.1).any fun x => canF E mark n (stepF mark p x)
def canP (E : List TFromLabelTo) (mark : List UInt8) (p : TStateReadBadLeft) : Bool := canF E mark p.2.2.2.toNat p
section
variable (f : TStateReadBadLeft → Bool) (stp : TStateReadBadLeft → TFromLabelTo → TStateReadBadLeft) (nx : Int → List TFromLabelTo)
def aft1 (a : Int) (p : TStateReadBadLeft) (acc : List TStateReadBadLeft) (x : TFromLabelTo) : List TStateReadBadLeft :=
  if x.2.1 = a then if stp p x ∈ acc then acc else if f (stp p x) = true then acc ++ [stp p x] else acc else acc
def aftP (a : Int) (acc : List TStateReadBadLeft) (p : TStateReadBadLeft) : List TStateReadBadLeft := (nx p.1).foldl (aft1 f stp a p) acc
def aft (now : List TStateReadBadLeft) (a : Int) : List TStateReadBadLeft := now.foldl (aftP f stp nx a) []
def firstA (now : List TStateReadBadLeft) : List Int → Option (Int × List TStateReadBadLeft)
  | [] => none
  | a :: q => if aft f stp nx now a ≠ [] then some (a, aft f stp nx now a) else firstA now q
def growF (L : Int) : Nat → List TStateReadBadLeft → List UInt8
  | 0, _ => []
  | n + 1, now => match firstA f stp nx now ((List.range L.toNat).map Int.ofNat) with
    | none => []
    | some (a, l) => letB a :: growF L n l
end
def startF (g : TLabelsStatesEdges) (mark : List UInt8) (n : Int) : List TStateReadBadLeft :=
  ((List.range g.2.1.toNat).map fun (t : Nat) => (((t : Int), (mark.length : Int), false, n) : TStateReadBadLeft)).filter fun p => canP g.2.2 mark p
def badF (g : TLabelsStatesEdges) (mark : List UInt8) (n : Int) : List UInt8 × Bool :=
  if startF g mark n = [] then ([], false) else (growF (canP g.2.2 mark) (stepF mark) (leav g.2.2) g.1 n.toNat (startF g mark n), true)
def badOk (g : TLabelsStatesEdges) (mark : List UInt8) (n : Int) : Prop :=
  (0 ≤ g.1 ∧ g.1 ≤ 16) ∧ (0 ≤ g.2.1 ∧ g.2.1 ≤ 64) ∧ g.2.2.length ≤ 1024 ∧ (∀ x ∈ g.2.2, (0 ≤ x.1 ∧ x.1 < g.2.1) ∧ (0 ≤ x.2.1 ∧ x.2.1 < g.1) ∧ 0 ≤ x.2.2 ∧ x.2.2 < g.2.1) ∧
  mark ≠ [] ∧ mark.length ≤ 1000 ∧ (∀ c ∈ mark, c ∈ letters) ∧ 0 ≤ n ∧ n ≤ 1000000
instance (g : TLabelsStatesEdges) (mark : List UInt8) (n : Int) : Decidable (badOk g mark n) := by unfold badOk; infer_instance
def m_syncmark_bad (g : TLabelsStatesEdges) (mark : List UInt8) (n : Int) : Option (List UInt8 × Bool) :=
  if badOk g mark n then some (badF g mark n) else none
def m_law54_awake : Option Bool := some true
end Go.AW

/- Models, printed by lk.py. -/
namespace Go.AW
open Go
set_option linter.unusedVariables false
noncomputable def m_syncmark_search_step (p0 : TGMarkTableNextMemo) (p1 : TStateReadBadLeft) (p2 : TFromLabelTo) : Option (TStateReadBadLeft) :=
 if 0 ≤ (p1.2.1 : Int) ∧ (p1.2.1 : Int) < (((p0.2.2.1).length / 16 : Nat) : Int) then
  if 0 ≤ (p2.2.1 : Int) ∧ (p2.2.1 : Int) < 16 then
   ((p0.2.2.1)[(p1.2.1).toNat * 16 + (p2.2.1).toNat * 1]?).bind fun x4 =>
   jp (fun (a6 : Bool) =>
     some (p2.2.2, x4, a6, IntKind.wrap .i64 (p1.2.2.2 - 1)))
     fun k8 =>
    if p1.2.2.1 = true then
     k8 true
    else
     k8 (decide (x4 = ((p0.2.1).length : Int)))
  else none
 else none

noncomputable def m_syncmark_search_ends (p0 : TGMarkTableNextMemo) (p1 : TStateReadBadLeft) : Option (Bool) :=
 lpO (loopW (S := Int × Int) (X := Ou (Unit) (Bool)) (fun a1 =>
     if a1.2 < ((p0.2.1).length : Int) then
      (idx p0.2.1 a1.2).bind fun x5 =>
      (m_strings_IndexByte [48, 49, 50, 51, 52, 53, 54, 55, 56, 57, 97, 98, 99, 100, 101, 102] (x5.toNat : Int)).bind fun x7 =>
      if 0 ≤ (a1.1 : Int) ∧ (a1.1 : Int) < (((p0.2.2.1).length / 16 : Nat) : Int) then
       if 0 ≤ (x7 : Int) ∧ (x7 : Int) < 16 then
        ((p0.2.2.1)[(a1.1).toNat * 16 + (x7).toNat * 1]?).bind fun x11 =>
        jp (fun (a13 : Bool) =>
          if a13 = true then
           some (Stp.exit (Ou.ret true))
          else
           some (Stp.next (x11, IntKind.wrap .i64 (a1.2 + 1))))
          fun k15 =>
         if x11 = ((p0.2.1).length : Int) then
          k15 (decide (a1.2 < (IntKind.wrap .i64 (((p0.2.1).length : Int) - 1))))
         else
          k15 false
       else none
      else none
     else
      some (Stp.exit (Ou.go ()))) (p1.2.1, 0)) (fun a17 =>
     some p1.2.2.1) some

noncomputable def m_internal_stringslite_HasSuffix (p0 : List UInt8) (p1 : List UInt8) : Option (Bool) :=
 jp (fun (a1 : Bool) =>
   some a1)
   fun k3 =>
  if ((p1).length : Int) ≤ ((p0).length : Int) then
   if 0 ≤ (IntKind.wrap .i64 (((p0).length : Int) - ((p1).length : Int)) : Int) ∧ (IntKind.wrap .i64 (((p0).length : Int) - ((p1).length : Int)) : Int) ≤ ((p0).length : Int) ∧ ((p0).length : Int) ≤ (p0.length : Int) then
    k3 (decide (((p0.take (((p0).length : Int)).toNat).drop (IntKind.wrap .i64 (((p0).length : Int) - ((p1).length : Int))).toNat) = p1))
   else none
  else
   k3 false

noncomputable def m_strings_HasSuffix (p0 : List UInt8) (p1 : List UInt8) : Option (Bool) :=
 (m_internal_stringslite_HasSuffix p0 p1).bind fun x1 =>
 some x1

end Go.AW

/- Tables whose elements are arrays of numbers, by their numbers in a row. -/
namespace Go.AW
open Go
section
variable {P : Program} {s : AS}
theorem v_arrF {t e : TypeId} {len a b : Nat} {z : Value} {x i : Operand} {k off : Nat} {cs : List HV} {k' : IntKind} {j : Int} (hT : ty P t = some ⟨.array len e, a, b, z⟩) (hE : elemSize P t = some k) (hx : s.ev x = some (.fptr cs off)) (hi : s.ev i = some (.int k' j)) (hj : 0 ≤ j ∧ j < len) :
    aval P (.indexAddr t x i) s (· = .fptr cs (off + j.toNat * k)) := by
  simp only [aval, hT, hE, hx, hi]
  exact ⟨hj.1, hj.2, trivial⟩
theorem v_arrP {t e : TypeId} {len a b : Nat} {z : Value} {x i : Operand} {k id ver off : Nat} {o : AObj} {k' : IntKind} {j : Int} (hT : ty P t = some ⟨.array len e, a, b, z⟩) (hE : elemSize P t = some k) (hx : s.ev x = some (.ptr id ver off)) (hi : s.ev i = some (.int k' j)) (hj : 0 ≤ j ∧ j < len) (hg : hget s.heap id = some (ver, o)) :
    aval P (.indexAddr t x i) s (· = .ptr id ver (off + j.toNat * k)) := by
  simp only [aval, hT, hE, hx, hi]
  exact ⟨hj.1, hj.2, by simp only [alive, hg], trivial⟩
end
theorem l_flat {T : TyI} {l : List Int} {off : Nat} {y : Int} (h : l[off]? = some y) (ha : aggD T.desc = false) : loadK T (eInt.E l) off (· = .int .i64 y) :=
  l_lit ha (by show (l.map _)[off]? = _; rw [List.getElem?_map, h]; rfl)
theorem frz_flat {id v k n : Nat} {e : TypeId} {l : List Int} (h : (eInt.E l).length = n * k) : frz 2 [(id, v, .arr k e (eInt.E l))] (.ar id v k 0 n) = .sl k n (eInt.E l) := by
  have hm : (eInt.E l).map (frz 1 [(id, v, .arr k e (eInt.E l))]) = eInt.E l := by
    show (l.map _).map _ = l.map _
    rw [List.map_map]
    rfl
  simp only [frz, hget, if_true]
  rw [if_pos ⟨trivial, by omega⟩, List.drop_zero, ← h, List.take_length]
  exact congrArg _ hm
end Go.AW

/- Bytes in owned arrays: append of a text. -/
namespace Go.AW
open Go
abbrev eByte : EncL UInt8 := encM fun b => HV.int .u8 (b.toNat : Int)
section
variable {P : Program} {ro : Option Nat} {N : Nat} {s : AS} {o : Oper} {sl : List (Nat × HV)} {H : Heap} {all : Array Oper} {rest : List Oper} {K : AS → Prop}
end
end Go.AW

namespace Go.AW
open Go Go.Proofs
set_option linter.unusedVariables false
set_option maxHeartbeats 1600000 in
set_option maxRecDepth 100000 in
theorem w_syncmark_search_step {p0 : TGMarkTableNextMemo} {p1 : TStateReadBadLeft} {p2 : TFromLabelTo} {r : TStateReadBadLeft} (h : m_syncmark_search_step p0 p1 p2 = some r) : Pure Tryz.prog 60 [HV.fptr [HV.int .i64 p0.1.1, HV.int .i64 p0.1.2.1, slE eFromLabelTo p0.1.2.2, HV.str p0.2.1, HV.sl 16 ((p0.2.2.1).length / 16) (eInt.E p0.2.2.1), slE (eSl eFromLabelTo) p0.2.2.2.1, HV.mp p0.2.2.2.2.1 p0.2.2.2.2.2] 0, HV.agg [HV.int .i64 p1.1, HV.int .i64 p1.2.1, HV.bool p1.2.2.1, HV.int .i64 p1.2.2.2], HV.agg [HV.int .i64 p2.1, HV.int .i64 p2.2.1, HV.int .i64 p2.2.2]] (· = HV.agg [HV.int .i64 r.1, HV.int .i64 r.2.1, HV.bool r.2.2.1, HV.int .i64 r.2.2.2]) := by
 unfold m_syncmark_search_step at h
 refine Pure.of_body Tryz.func60 rfl rfl (Nat.le_of_ble_eq_true rfl) fun hf => ?_
 unfold Tryz.f60
 dsimp only [enumS, Nat.reduceAdd]
 refine AW.rgs rfl fun K hK => ?_
 refine b_op rfl (o_box rfl rfl rfl ?_)
 refine b_op rfl (o_box rfl rfl rfl ?_)
 refine b_op rfl (o_alloc (fid := 60) (zs := [HV.int .i64 0, HV.int .i64 0, HV.bool false, HV.int .i64 0]) 60006 rfl rfl ty81 rfl (fun v1 => ?_))
 refine b_fin hK (s' := ⟨[(0, HV.fptr [HV.int .i64 p0.1.1, HV.int .i64 p0.1.2.1, slE eFromLabelTo p0.1.2.2, HV.str p0.2.1, HV.sl 16 ((p0.2.2.1).length / 16) (eInt.E p0.2.2.1), slE (eSl eFromLabelTo) p0.2.2.2.1, HV.mp p0.2.2.2.2.1 p0.2.2.2.2.2] 0), (4, HV.fptr [HV.int .i64 p1.1, HV.int .i64 p1.2.1, HV.bool p1.2.2.1, HV.int .i64 p1.2.2.2] 0), (5, HV.fptr [HV.int .i64 p2.1, HV.int .i64 p2.2.1, HV.int .i64 p2.2.2] 0), (6, HV.ptr 60006 v1 0)], [(60006, v1, .arr 4 81 [HV.int .i64 0, HV.int .i64 0, HV.bool false, HV.int .i64 0])]⟩) (le_q rfl rfl) ?_
 clear hK K
 refine AW.dgs 12 follows rfl rfl fun K hK => ?_
 refine sm rfl rfl ?_
 refine sv rfl (v_nilF rfl) ?_
 refine sv rfl (v_fieldAddrF fo91_2 rfl) ?_
 refine sv rfl (v_loadF ty88 rfl (l_lit rfl rfl)) ?_
 refine sv rfl (v_fieldAddrF fo81_1 rfl) ?_
 refine sv rfl (v_loadF ty3 rfl (l_lit rfl rfl)) ?_
 refine sv rfl (v_fieldAddrF fo44_1 rfl) ?_
 refine sv rfl (v_loadF ty3 rfl (l_lit rfl rfl)) ?_
 obtain ⟨h2, h⟩ := ifN h
 refine sv rfl (v_idxF ty88 es88 rfl rfl h2) ?_
 obtain ⟨h3, h⟩ := ifN h
 refine sv rfl (v_arrF ty121 es121 rfl rfl h3) ?_
 obtain ⟨x4, h5, h⟩ := bS h
 refine sv rfl (v_loadF ty3 rfl (l_flat h5 rfl)) ?_
 refine sm rfl rfl ?_
 refine s_nil ?_
 refine b_fin hK (s' := ⟨[(0, HV.fptr [HV.int .i64 p0.1.1, HV.int .i64 p0.1.2.1, slE eFromLabelTo p0.1.2.2, HV.str p0.2.1, HV.sl 16 ((p0.2.2.1).length / 16) (eInt.E p0.2.2.1), slE (eSl eFromLabelTo) p0.2.2.2.1, HV.mp p0.2.2.2.2.1 p0.2.2.2.2.2] 0), (4, HV.fptr [HV.int .i64 p1.1, HV.int .i64 p1.2.1, HV.bool p1.2.2.1, HV.int .i64 p1.2.2.2] 0), (5, HV.fptr [HV.int .i64 p2.1, HV.int .i64 p2.2.1, HV.int .i64 p2.2.2] 0), (6, HV.ptr 60006 v1 0), (7, HV.int .i64 x4)], [(60006, v1, .arr 4 81 [HV.int .i64 0, HV.int .i64 0, HV.bool false, HV.int .i64 0])]⟩) (le_q rfl rfl) ?_
 clear hK K
 refine AW.seqJ h (S := Bool) (V := Unit) (fun a v => ⟨[(6, HV.ptr 60006 v1 0)], [(60006, v1, .arr 4 81 [HV.int .i64 p2.2.2, HV.int .i64 x4, HV.bool a, HV.int .i64 (IntKind.wrap .i64 (p1.2.2.2 - 1))])]⟩) (fun a6 w7 h => ?_) (fun k8 h => ?_)
 ·refine AW.ret ?_
  have h := Option.some.inj h
  subst h
  exact ret_pure (hs := [HV.agg [HV.int .i64 p2.2.2, HV.int .i64 x4, HV.bool a6, HV.int .i64 (IntKind.wrap .i64 (p1.2.2.2 - 1))]]) (q := HV.agg [HV.int .i64 p2.2.2, HV.int .i64 x4, HV.bool a6, HV.int .i64 (IntKind.wrap .i64 (p1.2.2.2 - 1))]) (.inr rfl) (resP ty81 rfl rfl (l_litA rfl (Nat.le_of_ble_eq_true rfl) rfl) rfl) rfl ⟨trivial, trivial, trivial, trivial, trivial⟩
 refine AW.dg 18 follows rfl rfl fun K hK => ?_
 refine sv rfl (v_fieldAddrF fo44_2 rfl) ?_
 refine sv rfl (v_loadF ty3 rfl (l_lit rfl rfl)) ?_
 refine sm rfl rfl ?_
 refine sv rfl (v_fieldAddrF fo81_2 rfl) ?_
 refine sv rfl (v_loadF ty4 rfl (l_lit rfl rfl)) ?_
 refine sm rfl rfl ?_
 by_cases hg9 : p1.2.2.1 = true
 ·have h := ifT hg9 h
  refine s_F rfl rfl rfl rfl rfl hg9 ?_
  refine s_F rfl rfl rfl rfl rfl rfl ?_
  refine s_F rfl rfl rfl rfl rfl rfl ?_
  refine s_F rfl rfl rfl rfl rfl rfl ?_
  refine s_F rfl rfl rfl rfl rfl rfl ?_
  refine s_F rfl rfl rfl rfl rfl rfl ?_
  refine s_F rfl rfl rfl rfl rfl rfl ?_
  refine sv rfl (v_pickT rfl rfl rfl) ?_
  refine sv rfl (v_fieldAddrF fo81_3 rfl) ?_
  refine sv rfl (v_loadF ty3 rfl (l_lit rfl rfl)) ?_
  refine sv rfl (v_bin rfl rfl b_sub) ?_
  refine s_op rfl rfl (ops_build (cs := [HV.int .i64 p2.2.2, HV.int .i64 x4, HV.bool true, HV.int .i64 (IntKind.wrap .i64 (p1.2.2.2 - 1))]) rfl (bl_of ty81 rfl rfl rfl rfl) ?_)
  refine s_nil ?_
  refine b_op rfl (o_store (cs := [HV.int .i64 p2.2.2, HV.int .i64 x4, HV.bool true, HV.int .i64 (IntKind.wrap .i64 (p1.2.2.2 - 1))]) (zs := [HV.int .i64 p2.2.2, HV.int .i64 x4, HV.bool true, HV.int .i64 (IntKind.wrap .i64 (p1.2.2.2 - 1))]) rfl rfl rfl ty81 rfl rfl rfl rfl rfl ?_)
  refine b_nil (hK _ ?_)
  clear hK K
  exact to_le (s' := ⟨[(6, HV.ptr 60006 v1 0)], [(60006, v1, .arr 4 81 [HV.int .i64 p2.2.2, HV.int .i64 x4, HV.bool true, HV.int .i64 (IntKind.wrap .i64 (p1.2.2.2 - 1))])]⟩) (AS.le_of ⟨rfl, trivial⟩ ⟨rfl, trivial⟩) ⟨true, (), h, rfl⟩
 have h := ifF hg9 h
 refine s_T rfl rfl rfl rfl rfl (bF hg9) (ops_val rfl (mv_val rfl rfl).2 ?_)
 refine s_T rfl rfl rfl rfl rfl rfl (ops_val rfl (mv_val rfl rfl).2 ?_)
 refine s_T rfl rfl rfl rfl rfl rfl (ops_val rfl (v_nilF rfl) ?_)
 refine s_T rfl rfl rfl rfl rfl rfl (ops_val rfl (v_fieldAddrF fo91_1 rfl) ?_)
 refine s_T rfl rfl rfl rfl rfl rfl (ops_val rfl (v_loadF ty9 rfl (l_lit rfl rfl)) ?_)
 refine s_T rfl rfl rfl rfl rfl rfl (ops_val rfl (v_lenS rfl rfl ty9 rfl) ?_)
 refine s_T rfl rfl rfl rfl rfl rfl (ops_val rfl (v_bin rfl rfl b_eql) ?_)
 refine sv rfl (v_pickF rfl rfl rfl) ?_
 refine sv rfl (v_fieldAddrF fo81_3 rfl) ?_
 refine sv rfl (v_loadF ty3 rfl (l_lit rfl rfl)) ?_
 refine sv rfl (v_bin rfl rfl b_sub) ?_
 refine s_op rfl rfl (ops_build (cs := [HV.int .i64 p2.2.2, HV.int .i64 x4, HV.bool (decide (x4 = ((p0.2.1).length : Int))), HV.int .i64 (IntKind.wrap .i64 (p1.2.2.2 - 1))]) rfl (bl_of ty81 rfl rfl rfl rfl) ?_)
 refine s_nil ?_
 refine b_op rfl (o_store (cs := [HV.int .i64 p2.2.2, HV.int .i64 x4, HV.bool (decide (x4 = ((p0.2.1).length : Int))), HV.int .i64 (IntKind.wrap .i64 (p1.2.2.2 - 1))]) (zs := [HV.int .i64 p2.2.2, HV.int .i64 x4, HV.bool (decide (x4 = ((p0.2.1).length : Int))), HV.int .i64 (IntKind.wrap .i64 (p1.2.2.2 - 1))]) rfl rfl rfl ty81 rfl rfl rfl rfl rfl ?_)
 refine b_nil (hK _ ?_)
 clear hK K
 exact to_le (s' := ⟨[(6, HV.ptr 60006 v1 0)], [(60006, v1, .arr 4 81 [HV.int .i64 p2.2.2, HV.int .i64 x4, HV.bool (decide (x4 = ((p0.2.1).length : Int))), HV.int .i64 (IntKind.wrap .i64 (p1.2.2.2 - 1))])]⟩) (AS.le_of ⟨rfl, trivial⟩ ⟨rfl, trivial⟩) ⟨decide (x4 = ((p0.2.1).length : Int)), (), h, rfl⟩

set_option maxHeartbeats 1600000 in
set_option maxRecDepth 100000 in
theorem w_syncmark_search_ends {p0 : TGMarkTableNextMemo} {p1 : TStateReadBadLeft} {r : Bool} (h : m_syncmark_search_ends p0 p1 = some r) : Pure Tryz.prog 84 [HV.fptr [HV.int .i64 p0.1.1, HV.int .i64 p0.1.2.1, slE eFromLabelTo p0.1.2.2, HV.str p0.2.1, HV.sl 16 ((p0.2.2.1).length / 16) (eInt.E p0.2.2.1), slE (eSl eFromLabelTo) p0.2.2.2.1, HV.mp p0.2.2.2.2.1 p0.2.2.2.2.2] 0, HV.agg [HV.int .i64 p1.1, HV.int .i64 p1.2.1, HV.bool p1.2.2.1, HV.int .i64 p1.2.2.2]] (· = HV.bool r) := by
 unfold m_syncmark_search_ends at h
 refine Pure.of_body Tryz.func84 rfl rfl (Nat.le_of_ble_eq_true rfl) fun hf => ?_
 unfold Tryz.f84
 dsimp only [enumS, Nat.reduceAdd]
 refine AW.rgs rfl fun K hK => ?_
 refine b_op rfl (o_box rfl rfl rfl ?_)
 refine mv rfl rfl ?_
 refine b_fin hK (s' := ⟨[(0, HV.fptr [HV.int .i64 p0.1.1, HV.int .i64 p0.1.2.1, slE eFromLabelTo p0.1.2.2, HV.str p0.2.1, HV.sl 16 ((p0.2.2.1).length / 16) (eInt.E p0.2.2.1), slE (eSl eFromLabelTo) p0.2.2.2.1, HV.mp p0.2.2.2.2.1 p0.2.2.2.2.2] 0), (3, HV.fptr [HV.int .i64 p1.1, HV.int .i64 p1.2.1, HV.bool p1.2.2.1, HV.int .i64 p1.2.2.2] 0)], []⟩) (le_q rfl rfl) ?_
 clear hK K
 refine AW.rgs rfl fun K hK => ?_
 refine bv rfl (v_fieldAddrF fo81_1 rfl) ?_
 refine bv rfl (v_loadF ty3 rfl (l_lit rfl rfl)) ?_
 refine mv rfl rfl ?_
 refine b_fin hK (s' := ⟨[(0, HV.fptr [HV.int .i64 p0.1.1, HV.int .i64 p0.1.2.1, slE eFromLabelTo p0.1.2.2, HV.str p0.2.1, HV.sl 16 ((p0.2.2.1).length / 16) (eInt.E p0.2.2.1), slE (eSl eFromLabelTo) p0.2.2.2.1, HV.mp p0.2.2.2.2.1 p0.2.2.2.2.2] 0), (3, HV.fptr [HV.int .i64 p1.1, HV.int .i64 p1.2.1, HV.bool p1.2.2.1, HV.int .i64 p1.2.2.2] 0), (5, HV.int .i64 p1.2.1)], []⟩) (le_q rfl rfl) ?_
 clear hK K
 refine AW.seq ?_
 refine AW.rgs rfl fun K hK => ?_
 refine mv rfl rfl ?_
 refine bv rfl (v_nilF rfl) ?_
 refine bv rfl (v_fieldAddrF fo91_1 rfl) ?_
 refine bv rfl (v_loadF ty9 rfl (l_lit rfl rfl)) ?_
 refine bv rfl (v_lenS rfl rfl ty9 rfl) ?_
 refine mv rfl rfl ?_
 refine b_fin hK (s' := ⟨[(0, HV.fptr [HV.int .i64 p0.1.1, HV.int .i64 p0.1.2.1, slE eFromLabelTo p0.1.2.2, HV.str p0.2.1, HV.sl 16 ((p0.2.2.1).length / 16) (eInt.E p0.2.2.1), slE (eSl eFromLabelTo) p0.2.2.2.1, HV.mp p0.2.2.2.2.1 p0.2.2.2.2.2] 0), (3, HV.fptr [HV.int .i64 p1.1, HV.int .i64 p1.2.1, HV.bool p1.2.2.1, HV.int .i64 p1.2.2.2] 0), (5, HV.int .i64 p1.2.1), (13, HV.int .i64 ((p0.2.1).length : Int)), (14, HV.int .i64 0)], []⟩) (le_q rfl rfl) ?_
 clear hK K
 refine AW.lpR h (by first | exact up_then | exact up_to) (S := Int × Int) (V := Unit) (fun a v => ⟨[(0, HV.fptr [HV.int .i64 p0.1.1, HV.int .i64 p0.1.2.1, slE eFromLabelTo p0.1.2.2, HV.str p0.2.1, HV.sl 16 ((p0.2.2.1).length / 16) (eInt.E p0.2.2.1), slE (eSl eFromLabelTo) p0.2.2.2.1, HV.mp p0.2.2.2.2.1 p0.2.2.2.2.2] 0), (3, HV.fptr [HV.int .i64 p1.1, HV.int .i64 p1.2.1, HV.bool p1.2.2.1, HV.int .i64 p1.2.2.2] 0), (5, HV.int .i64 a.1), (13, HV.int .i64 ((p0.2.1).length : Int)), (14, HV.int .i64 a.2)], []⟩) ?_ (X := Unit) (W := Unit) (fun a v => ⟨[(3, HV.fptr [HV.int .i64 p1.1, HV.int .i64 p1.2.1, HV.bool p1.2.2.1, HV.int .i64 p1.2.2.2] 0)], []⟩) (fun a17 w18 h => ?_) (fun a1 w2 st3 h hr4=> ?_)
 ·exact to_le (s' := ⟨[(0, HV.fptr [HV.int .i64 p0.1.1, HV.int .i64 p0.1.2.1, slE eFromLabelTo p0.1.2.2, HV.str p0.2.1, HV.sl 16 ((p0.2.2.1).length / 16) (eInt.E p0.2.2.1), slE (eSl eFromLabelTo) p0.2.2.2.1, HV.mp p0.2.2.2.2.1 p0.2.2.2.2.2] 0), (3, HV.fptr [HV.int .i64 p1.1, HV.int .i64 p1.2.1, HV.bool p1.2.2.1, HV.int .i64 p1.2.2.2] 0), (5, HV.int .i64 p1.2.1), (13, HV.int .i64 ((p0.2.1).length : Int)), (14, HV.int .i64 0)], []⟩) (AS.le_of ⟨rfl, rfl, rfl, rfl, rfl, trivial⟩ trivial) ⟨(), rfl⟩
 ·refine AW.rgs rfl fun K hK => ?_
  refine bv rfl (v_fieldAddrF fo81_2 rfl) ?_
  refine bv rfl (v_loadF ty4 rfl (l_lit rfl rfl)) ?_
  refine mv rfl rfl ?_
  refine b_fin hK (s' := ⟨[(4, HV.bool p1.2.2.1)], []⟩) (le_q rfl rfl) ?_
  clear hK K
  refine AW.ret ?_
  have h := Option.some.inj h
  subst h
  exact ret_pure (hs := [HV.bool p1.2.2.1]) (q := HV.bool p1.2.2.1) (.inr rfl) (resT rfl rfl) rfl trivial
 refine AW.rgs rfl fun K hK => ?_
 refine bv rfl (v_bin rfl rfl b_lss) ?_
 refine b_fin hK (s' := ⟨[(0, HV.fptr [HV.int .i64 p0.1.1, HV.int .i64 p0.1.2.1, slE eFromLabelTo p0.1.2.2, HV.str p0.2.1, HV.sl 16 ((p0.2.2.1).length / 16) (eInt.E p0.2.2.1), slE (eSl eFromLabelTo) p0.2.2.2.1, HV.mp p0.2.2.2.2.1 p0.2.2.2.2.2] 0), (3, HV.fptr [HV.int .i64 p1.1, HV.int .i64 p1.2.1, HV.bool p1.2.2.1, HV.int .i64 p1.2.2.2] 0), (5, HV.int .i64 a1.1), (13, HV.int .i64 ((p0.2.1).length : Int)), (14, HV.int .i64 a1.2), (15, HV.bool (decide (a1.2 < ((p0.2.1).length : Int))))], []⟩) (le_q rfl rfl) ?_
 clear hK K
 refine AW.cseq rfl (fun hc => ?_) (fun hc => ?_)
 ·have hc := of_decide_eq_true hc
  have h := ifT hc h
  refine AW.skip ?_
  refine AW.seq (AW.block ?_)
  refine AW.rgs rfl fun K hK => ?_
  refine mv rfl rfl ?_
  refine mv rfl rfl ?_
  refine b_fin hK (s' := ⟨[(0, HV.fptr [HV.int .i64 p0.1.1, HV.int .i64 p0.1.2.1, slE eFromLabelTo p0.1.2.2, HV.str p0.2.1, HV.sl 16 ((p0.2.2.1).length / 16) (eInt.E p0.2.2.1), slE (eSl eFromLabelTo) p0.2.2.2.1, HV.mp p0.2.2.2.2.1 p0.2.2.2.2.2] 0), (3, HV.fptr [HV.int .i64 p1.1, HV.int .i64 p1.2.1, HV.bool p1.2.2.1, HV.int .i64 p1.2.2.2] 0), (5, HV.int .i64 a1.1), (6, HV.int .i64 a1.2), (13, HV.int .i64 ((p0.2.1).length : Int)), (14, HV.int .i64 a1.2)], []⟩) (le_q rfl rfl) ?_
  clear hK K
  refine AW.dgs 16 follows rfl rfl fun K hK => ?_
  refine sm rfl rfl ?_
  refine sv rfl (v_nilF rfl) ?_
  refine sv rfl (v_fieldAddrF fo91_2 rfl) ?_
  refine sv rfl (v_loadF ty88 rfl (l_lit rfl rfl)) ?_
  refine sm rfl rfl ?_
  refine sm rfl rfl ?_
  refine sv rfl (v_nilF rfl) ?_
  refine sv rfl (v_fieldAddrF fo91_1 rfl) ?_
  refine sv rfl (v_loadF ty9 rfl (l_lit rfl rfl)) ?_
  refine sm rfl rfl ?_
  obtain ⟨x5, h6, h⟩ := bS h
  refine sv rfl (v_idxS ty9 rfl rfl h6) ?_
  obtain ⟨x7, h8, h⟩ := bS h
  refine s_op rfl rfl (ops_call rfl rfl rfl rfl (ACallD.pure0 (w_strings_IndexByte h8)) ?_)
  obtain ⟨h9, h⟩ := ifN h
  refine sv rfl (v_idxF ty88 es88 rfl rfl h9) ?_
  obtain ⟨h10, h⟩ := ifN h
  refine sv rfl (v_arrF ty121 es121 rfl rfl h10) ?_
  obtain ⟨x11, h12, h⟩ := bS h
  refine sv rfl (v_loadF ty3 rfl (l_flat h12 rfl)) ?_
  refine sm rfl rfl ?_
  refine s_nil ?_
  refine b_fin hK (s' := ⟨[(0, HV.fptr [HV.int .i64 p0.1.1, HV.int .i64 p0.1.2.1, slE eFromLabelTo p0.1.2.2, HV.str p0.2.1, HV.sl 16 ((p0.2.2.1).length / 16) (eInt.E p0.2.2.1), slE (eSl eFromLabelTo) p0.2.2.2.1, HV.mp p0.2.2.2.2.1 p0.2.2.2.2.2] 0), (3, HV.fptr [HV.int .i64 p1.1, HV.int .i64 p1.2.1, HV.bool p1.2.2.1, HV.int .i64 p1.2.2.2] 0), (5, HV.int .i64 x11), (6, HV.int .i64 a1.2), (13, HV.int .i64 ((p0.2.1).length : Int)), (14, HV.int .i64 a1.2)], []⟩) (le_q rfl rfl) ?_
  clear hK K
  refine AW.seqJ h (S := Bool) (V := Unit) (fun a v => ⟨[(0, HV.fptr [HV.int .i64 p0.1.1, HV.int .i64 p0.1.2.1, slE eFromLabelTo p0.1.2.2, HV.str p0.2.1, HV.sl 16 ((p0.2.2.1).length / 16) (eInt.E p0.2.2.1), slE (eSl eFromLabelTo) p0.2.2.2.1, HV.mp p0.2.2.2.2.1 p0.2.2.2.2.2] 0), (3, HV.fptr [HV.int .i64 p1.1, HV.int .i64 p1.2.1, HV.bool p1.2.2.1, HV.int .i64 p1.2.2.2] 0), (5, HV.int .i64 x11), (13, HV.int .i64 ((p0.2.1).length : Int)), (14, HV.int .i64 a1.2), (48, HV.bool a)], []⟩) (fun a13 w14 h => ?_) (fun k15 h => ?_)
  ·refine AW.cond rfl (fun hc => ?_) (fun hc => ?_)
   ·have h := ifT hc h
    refine AW.rgs rfl fun K hK => ?_
    refine mv rfl rfl ?_
    refine b_fin hK (s' := ⟨[(4, HV.bool true)], []⟩) (le_q rfl rfl) ?_
    clear hK K
    have h := hr4 _ h
    refine AW.ret ?_
    have h := Option.some.inj h
    subst h
    exact ret_pure (hs := [HV.bool true]) (q := HV.bool true) (.inr rfl) (resT rfl rfl) rfl trivial
   have h := ifF (bF' hc) h
   refine AW.skip ?_
   refine AW.rg rfl fun K hK => ?_
   refine bv rfl (v_bin rfl rfl b_add) ?_
   refine mv rfl rfl ?_
   refine b_nil (hK _ ?_)
   clear hK K
   exact to_le (s' := ⟨[(0, HV.fptr [HV.int .i64 p0.1.1, HV.int .i64 p0.1.2.1, slE eFromLabelTo p0.1.2.2, HV.str p0.2.1, HV.sl 16 ((p0.2.2.1).length / 16) (eInt.E p0.2.2.1), slE (eSl eFromLabelTo) p0.2.2.2.1, HV.mp p0.2.2.2.2.1 p0.2.2.2.2.2] 0), (3, HV.fptr [HV.int .i64 p1.1, HV.int .i64 p1.2.1, HV.bool p1.2.2.1, HV.int .i64 p1.2.2.2] 0), (5, HV.int .i64 x11), (13, HV.int .i64 ((p0.2.1).length : Int)), (14, HV.int .i64 (IntKind.wrap .i64 (a1.2 + 1)))], []⟩) (AS.le_of ⟨rfl, rfl, rfl, rfl, rfl, trivial⟩ trivial) ⟨(x11, IntKind.wrap .i64 (a1.2 + 1)), (), h, rfl⟩
  refine AW.rg rfl fun K hK => ?_
  refine mv rfl rfl ?_
  refine mv rfl rfl ?_
  refine bv rfl (v_nilF rfl) ?_
  refine bv rfl (v_fieldAddrF fo91_1 rfl) ?_
  refine bv rfl (v_loadF ty9 rfl (l_lit rfl rfl)) ?_
  refine bv rfl (v_lenS rfl rfl ty9 rfl) ?_
  refine bv rfl (v_bin rfl rfl b_eql) ?_
  refine mv rfl rfl ?_
  by_cases hg16 : x11 = ((p0.2.1).length : Int)
  ·have h := ifT hg16 h
   refine b_T rfl rfl rfl rfl (decide_eq_true hg16) (o_val rfl (mv_val rfl rfl).2 ?_)
   refine b_T rfl rfl rfl rfl rfl (o_val rfl (mv_val rfl rfl).2 ?_)
   refine b_T rfl rfl rfl rfl rfl (o_val rfl (v_nilF rfl) ?_)
   refine b_T rfl rfl rfl rfl rfl (o_val rfl (v_fieldAddrF fo91_1 rfl) ?_)
   refine b_T rfl rfl rfl rfl rfl (o_val rfl (v_loadF ty9 rfl (l_lit rfl rfl)) ?_)
   refine b_T rfl rfl rfl rfl rfl (o_val rfl (v_lenS rfl rfl ty9 rfl) ?_)
   refine b_T rfl rfl rfl rfl rfl (o_val rfl (v_bin rfl rfl b_sub) ?_)
   refine b_T rfl rfl rfl rfl rfl (o_val rfl (v_bin rfl rfl b_lss) ?_)
   refine bv rfl (v_pickT rfl rfl rfl) ?_
   refine b_nil (hK _ ?_)
   clear hK K
   exact to_le (s' := ⟨[(0, HV.fptr [HV.int .i64 p0.1.1, HV.int .i64 p0.1.2.1, slE eFromLabelTo p0.1.2.2, HV.str p0.2.1, HV.sl 16 ((p0.2.2.1).length / 16) (eInt.E p0.2.2.1), slE (eSl eFromLabelTo) p0.2.2.2.1, HV.mp p0.2.2.2.2.1 p0.2.2.2.2.2] 0), (3, HV.fptr [HV.int .i64 p1.1, HV.int .i64 p1.2.1, HV.bool p1.2.2.1, HV.int .i64 p1.2.2.2] 0), (5, HV.int .i64 x11), (13, HV.int .i64 ((p0.2.1).length : Int)), (14, HV.int .i64 a1.2), (48, HV.bool (decide (a1.2 < (IntKind.wrap .i64 (((p0.2.1).length : Int) - 1)))))], []⟩) (AS.le_of ⟨rfl, rfl, rfl, rfl, rfl, rfl, trivial⟩ trivial) ⟨decide (a1.2 < (IntKind.wrap .i64 (((p0.2.1).length : Int) - 1))), (), h, rfl⟩
  have h := ifF hg16 h
  refine b_F rfl rfl rfl rfl rfl (decide_eq_false hg16) ?_
  refine b_F rfl rfl rfl rfl rfl rfl ?_
  refine b_F rfl rfl rfl rfl rfl rfl ?_
  refine b_F rfl rfl rfl rfl rfl rfl ?_
  refine b_F rfl rfl rfl rfl rfl rfl ?_
  refine b_F rfl rfl rfl rfl rfl rfl ?_
  refine b_F rfl rfl rfl rfl rfl rfl ?_
  refine b_F rfl rfl rfl rfl rfl rfl ?_
  refine bv rfl (v_pickF rfl rfl rfl) ?_
  refine b_nil (hK _ ?_)
  clear hK K
  exact to_le (s' := ⟨[(0, HV.fptr [HV.int .i64 p0.1.1, HV.int .i64 p0.1.2.1, slE eFromLabelTo p0.1.2.2, HV.str p0.2.1, HV.sl 16 ((p0.2.2.1).length / 16) (eInt.E p0.2.2.1), slE (eSl eFromLabelTo) p0.2.2.2.1, HV.mp p0.2.2.2.2.1 p0.2.2.2.2.2] 0), (3, HV.fptr [HV.int .i64 p1.1, HV.int .i64 p1.2.1, HV.bool p1.2.2.1, HV.int .i64 p1.2.2.2] 0), (5, HV.int .i64 x11), (13, HV.int .i64 ((p0.2.1).length : Int)), (14, HV.int .i64 a1.2), (48, HV.bool false)], []⟩) (AS.le_of ⟨rfl, rfl, rfl, rfl, rfl, rfl, trivial⟩ trivial) ⟨false, (), h, rfl⟩
 have hc := of_decide_eq_false hc
 have h := ifF hc h
 refine AW.exit ?_
 exact to_le (s' := ⟨[(3, HV.fptr [HV.int .i64 p1.1, HV.int .i64 p1.2.1, HV.bool p1.2.2.1, HV.int .i64 p1.2.2.2] 0)], []⟩) (AS.le_of ⟨rfl, trivial⟩ trivial) ⟨(), (), h, rfl⟩

set_option maxHeartbeats 1600000 in
set_option maxRecDepth 100000 in
theorem w_internal_stringslite_HasSuffix {p0 : List UInt8} {p1 : List UInt8} {r : Bool} (h : m_internal_stringslite_HasSuffix p0 p1 = some r) : Pure Tryz.prog 77 [HV.str p0, HV.str p1] (· = HV.bool r) := by
 unfold m_internal_stringslite_HasSuffix at h
 refine Pure.of_body Tryz.func77 rfl rfl (Nat.le_of_ble_eq_true rfl) fun hf => ?_
 unfold Tryz.f77
 dsimp only [enumS, Nat.reduceAdd]
 refine AW.rgs rfl fun K hK => ?_
 refine mv rfl rfl ?_
 refine b_fin hK (s' := ⟨[(0, HV.str p0), (1, HV.str p1)], []⟩) (le_q rfl rfl) ?_
 clear hK K
 refine AW.seqJ h (S := Bool) (V := Unit) (fun a v => ⟨[(4, HV.bool a)], []⟩) (fun a1 w2 h => ?_) (fun k3 h => ?_)
 ·refine AW.ret ?_
  have h := Option.some.inj h
  subst h
  exact ret_pure (hs := [HV.bool a1]) (q := HV.bool a1) (.inr rfl) (resT rfl rfl) rfl trivial
 refine AW.rg rfl fun K hK => ?_
 refine mv rfl rfl ?_
 refine bv rfl (v_lenS rfl rfl ty9 rfl) ?_
 refine mv rfl rfl ?_
 refine bv rfl (v_lenS rfl rfl ty9 rfl) ?_
 refine bv rfl (v_bin rfl rfl b_geq) ?_
 refine mv rfl rfl ?_
 by_cases hg5 : ((p1).length : Int) ≤ ((p0).length : Int)
 ·have h := ifT hg5 h
  refine b_T rfl rfl rfl rfl (decide_eq_true hg5) (o_val rfl (mv_val rfl rfl).2 ?_)
  refine b_T rfl rfl rfl rfl rfl (o_val rfl (mv_val rfl rfl).2 ?_)
  refine b_T rfl rfl rfl rfl rfl (o_val rfl (v_lenS rfl rfl ty9 rfl) ?_)
  refine b_T rfl rfl rfl rfl rfl (o_val rfl (mv_val rfl rfl).2 ?_)
  refine b_T rfl rfl rfl rfl rfl (o_val rfl (v_lenS rfl rfl ty9 rfl) ?_)
  refine b_T rfl rfl rfl rfl rfl (o_val rfl (v_bin rfl rfl b_sub) ?_)
  obtain ⟨h4, h⟩ := ifN h
  refine b_T rfl rfl rfl rfl rfl (o_val rfl (v_sliceS ty9 rfl rfl rfl h4) ?_)
  refine b_T rfl rfl rfl rfl rfl (o_val rfl (mv_val rfl rfl).2 ?_)
  refine b_T rfl rfl rfl rfl rfl (o_val rfl (v_bin rfl rfl b_seql) ?_)
  refine bv rfl (v_pickT rfl rfl rfl) ?_
  refine mv rfl rfl ?_
  refine b_nil (hK _ ?_)
  clear hK K
  exact to_le (s' := ⟨[(4, HV.bool (decide (((p0.take (((p0).length : Int)).toNat).drop (IntKind.wrap .i64 (((p0).length : Int) - ((p1).length : Int))).toNat) = p1)))], []⟩) (AS.le_of ⟨rfl, trivial⟩ trivial) ⟨decide (((p0.take (((p0).length : Int)).toNat).drop (IntKind.wrap .i64 (((p0).length : Int) - ((p1).length : Int))).toNat) = p1), (), h, rfl⟩
 have h := ifF hg5 h
 refine b_F rfl rfl rfl rfl rfl (decide_eq_false hg5) ?_
 refine b_F rfl rfl rfl rfl rfl rfl ?_
 refine b_F rfl rfl rfl rfl rfl rfl ?_
 refine b_F rfl rfl rfl rfl rfl rfl ?_
 refine b_F rfl rfl rfl rfl rfl rfl ?_
 refine b_F rfl rfl rfl rfl rfl rfl ?_
 refine b_F rfl rfl rfl rfl rfl rfl ?_
 refine b_F rfl rfl rfl rfl rfl rfl ?_
 refine b_F rfl rfl rfl rfl rfl rfl ?_
 refine bv rfl (v_pickF rfl rfl rfl) ?_
 refine mv rfl rfl ?_
 refine b_nil (hK _ ?_)
 clear hK K
 exact to_le (s' := ⟨[(4, HV.bool false)], []⟩) (AS.le_of ⟨rfl, trivial⟩ trivial) ⟨false, (), h, rfl⟩

set_option maxHeartbeats 1600000 in
set_option maxRecDepth 100000 in
theorem w_strings_HasSuffix {p0 : List UInt8} {p1 : List UInt8} {r : Bool} (h : m_strings_HasSuffix p0 p1 = some r) : Pure Tryz.prog 50 [HV.str p0, HV.str p1] (· = HV.bool r) := by
 unfold m_strings_HasSuffix at h
 refine Pure.of_body Tryz.func50 rfl rfl (Nat.le_of_ble_eq_true rfl) fun hf => ?_
 unfold Tryz.f50
 dsimp only [enumS, Nat.reduceAdd]
 refine AW.rgs rfl fun K hK => ?_
 refine mv rfl rfl ?_
 refine b_fin hK (s' := ⟨[(0, HV.str p0), (1, HV.str p1)], []⟩) (le_q rfl rfl) ?_
 clear hK K
 refine AW.rgs rfl fun K hK => ?_
 refine mv rfl rfl ?_
 refine mv rfl rfl ?_
 obtain ⟨x1, h2, h⟩ := bS h
 refine b_op rfl (o_call rfl rfl rfl rfl (ACallD.pure0 (w_internal_stringslite_HasSuffix h2)) ?_)
 refine mv rfl rfl ?_
 refine b_fin hK (s' := ⟨[(4, HV.bool x1)], []⟩) (le_q rfl rfl) ?_
 clear hK K
 refine AW.ret ?_
 have h := Option.some.inj h
 subst h
 exact ret_pure (hs := [HV.bool x1]) (q := HV.bool x1) (.inr rfl) (resT rfl rfl) rfl trivial

end Go.AW



/- What the functions of graphs compute: checks, steps, sets of states. -/
namespace Go.AW
open Go
set_option linter.unusedSimpArgs false
set_option linter.unusedVariables false

theorem loopW_eq {S X : Type} (body : S → Option (Stp S X)) (s : S) : loopW body s = match body s with
    | none => none
    | some (.exit x) => some x
    | some (.next s') => loopW body s' := by
  cases h : body s with
  | none => exact loopW_stuck h
  | some r => cases r with
    | exit x => exact loopW_exit h
    | next s' => exact loopW_next h

abbrev Gr := TLabelsStatesEdges
abbrev Ed := TFromLabelTo

def cmp3 (x y : Ed) : Int := if x.1 < y.1 then -1 else if y.1 < x.1 then 1 else if x.2.1 < y.2.1 then -1 else if y.2.1 < x.2.1 then 1 else if x.2.2 < y.2.2 then -1 else if y.2.2 < x.2.2 then 1 else 0

theorem cmpC (a b : Int) : m_cmp_Compare_int a b = some (if a < b then -1 else if b < a then 1 else 0) := by
  unfold m_cmp_Compare_int m_cmp_isNaN_int
  simp only [ne_eq, not_true_eq_false, decide_false, Option.bind_some, Bool.false_eq_true, if_false]
  split <;> (try rfl)
  split <;> rfl

theorem wr0 : IntKind.wrap .i64 (0 + 1) = 1 := by decide
theorem wr1 : IntKind.wrap .i64 (1 + 1) = 2 := by decide
theorem wr2 : IntKind.wrap .i64 (2 + 1) = 3 := by decide

theorem ix3_0 (a b c : Int) : idx [a, b, c] 0 = some a := rfl
theorem ix3_1 (a b c : Int) : idx [a, b, c] 1 = some b := rfl
theorem ix3_2 (a b c : Int) : idx [a, b, c] 2 = some c := rfl
theorem len3 (a b c : Int) : (([a, b, c] : List Int).length : Int) = 3 := rfl

theorem by1_eq (x y : Ed) : m_graph_by_api_Edge_1 x y = some (cmp3 x y) := by
  unfold m_graph_by_api_Edge_1 m_graph_list m_slices_Compare_Lint_int cmp3
  simp only [Option.bind_some, len3]
  rw [loopW_eq]
  simp only [ix3_0, cmpC, Option.bind_some, wr0]
  by_cases a1 : x.1 < y.1
  · simp [a1, lpO]
  by_cases a2 : y.1 < x.1
  · simp [a1, a2, lpO]
  simp only [a1, a2, if_false, ne_eq, not_true_eq_false, if_true, Int.reduceLT, Int.reduceLE]
  rw [loopW_eq]
  simp only [ix3_1, cmpC, Option.bind_some, wr1]
  by_cases b1 : x.2.1 < y.2.1
  · simp [b1, lpO]
  by_cases b2 : y.2.1 < x.2.1
  · simp [b1, b2, lpO]
  simp only [b1, b2, if_false, ne_eq, not_true_eq_false, if_true, Int.reduceLT, Int.reduceLE]
  rw [loopW_eq]
  simp only [ix3_2, cmpC, Option.bind_some, wr2]
  by_cases c1 : x.2.2 < y.2.2
  · simp [c1, lpO]
  by_cases c2 : y.2.2 < x.2.2
  · simp [c1, c2, lpO]
  simp only [c1, c2, if_false, ne_eq, not_true_eq_false, if_true, Int.reduceLT, Int.reduceLE]
  rw [loopW_eq]
  simp [lpO]

theorem cmp_eq (x y : Ed) : m_ref09_Compare x y = some (cmp3 x y) := by
  unfold m_ref09_Compare cmp3
  rw [loopW_eq]
  simp only [ix3_0, Option.bind_some, wr0]
  by_cases a1 : x.1 < y.1
  · simp [a1, lpO]
  by_cases a2 : y.1 < x.1
  · simp [a1, a2, lpO]
  simp only [a1, a2, if_false, if_true, Int.reduceLT]
  rw [loopW_eq]
  simp only [ix3_1, Option.bind_some, wr1]
  by_cases b1 : x.2.1 < y.2.1
  · simp [b1, lpO]
  by_cases b2 : y.2.1 < x.2.1
  · simp [b1, b2, lpO]
  simp only [b1, b2, if_false, if_true, Int.reduceLT]
  rw [loopW_eq]
  simp only [ix3_2, Option.bind_some, wr2]
  by_cases c1 : x.2.2 < y.2.2
  · simp [c1, lpO]
  by_cases c2 : y.2.2 < x.2.2
  · simp [c1, c2, lpO]
  simp only [c1, c2, if_false, if_true, Int.reduceLT]
  rw [loopW_eq]
  simp [lpO]

theorem Check_ref (g : Gr) : m_graph_Check g = m_ref09_Check g := by
  unfold m_graph_Check m_ref09_Check
  have key : ∀ (x : Ed) (k : Bool → Option (Stp Int (Ou Unit Int))), (if (min (min x.1 x.2.1) x.2.2) < 0 then k true else if g.2.1 ≤ (max x.1 x.2.2) then k true else k (decide (g.1 ≤ x.2.1))) =
      (if x.1 < 0 then k true else if g.2.1 ≤ x.1 then k true else if x.2.2 < 0 then k true else if g.2.1 ≤ x.2.2 then k true else if x.2.1 < 0 then k true else k (decide (g.1 ≤ x.2.1))) := by
    intro x k
    by_cases h1 : x.1 < 0
    · rw [if_pos (by omega), if_pos h1]
    by_cases h2 : g.2.1 ≤ x.1
    · rw [if_neg h1, if_pos h2]
      split
      · rfl
      · rw [if_pos (by omega)]
    by_cases h3 : x.2.2 < 0
    · rw [if_neg h1, if_neg h2, if_pos h3, if_pos (by omega)]
    by_cases h4 : g.2.1 ≤ x.2.2
    · rw [if_neg h1, if_neg h2, if_neg h3, if_pos h4]
      split
      · rfl
      · rw [if_pos (by omega)]
    by_cases h5 : x.2.1 < 0
    · rw [if_neg h1, if_neg h2, if_neg h3, if_neg h4, if_pos h5, if_pos (by omega)]
    · rw [if_neg h1, if_neg h2, if_neg h3, if_neg h4, if_neg h5, if_neg (by omega), if_neg (by omega)]
  simp only [by1_eq, cmp_eq, key]

structure VG (g : Gr) : Prop where
  l1 : 1 ≤ g.1
  l2 : g.1 ≤ 256
  s0 : 0 ≤ g.2.1
  s1 : g.2.1 ≤ 64
  el : g.2.2.length ≤ 1024
  ed : ∀ x ∈ g.2.2, 0 ≤ x.1 ∧ x.1 < g.2.1 ∧ 0 ≤ x.2.2 ∧ x.2.2 < g.2.1 ∧ 0 ≤ x.2.1 ∧ x.2.1 < g.1
  ord : ∀ (i : Nat) (h : i + 1 < g.2.2.length), cmp3 (g.2.2[i]'(by omega)) g.2.2[i + 1] < 0

theorem ix_pred {α : Type} {l : List α} {i : Nat} (h : i < l.length) (hm : l.length ≤ 9223372036854775807) (h0 : 0 < i) : idx l (IntKind.wrap .i64 ((i : Int) - 1)) = some (l[i - 1]'(by omega)) := by
  rw [w64 (by omega) (by omega), show ((i : Int) - 1) = ((i - 1 : Nat) : Int) by omega]
  exact ix (by omega)

theorem lpO_ex {V R Y : Type} {o : Option (Ou V R)} {M : V → Option Y} {Rt : R → Option Y} {C : Y → Prop} (Q : Ou V R → Prop) (h : ∃ x, o = some x ∧ Q x) (k : ∀ x, Q x → ∃ e, lpO (some x) M Rt = some e ∧ C e) : ∃ e, lpO o M Rt = some e ∧ C e := by
  obtain ⟨x, rfl, hq⟩ := h
  exact k x hq

theorem Check_tot (g : Gr) : ∃ e, m_ref09_Check g = some e ∧ (e = 0 ↔ VG g) := by
  unfold m_ref09_Check
  simp only [jp]
  by_cases h1 : g.1 < 1
  · exact ⟨12, by simp [h1], by simp; intro v; have := v.l1; omega⟩
  by_cases h2 : 256 < g.1
  · exact ⟨12, by simp [h1, h2], by simp; intro v; have := v.l2; omega⟩
  by_cases h3 : g.2.1 < 0
  · exact ⟨2, by simp [h1, h2, h3], by simp; intro v; have := v.s0; omega⟩
  by_cases h4 : 64 < g.2.1
  · exact ⟨4, by simp [h1, h2, h3, h4], by simp; intro v; have := v.s1; omega⟩
  by_cases h5 : 1024 < (g.2.2.length : Int)
  · exact ⟨4, by simp [h1, h2, h3, h4, h5], by simp; intro v; have := v.el; omega⟩
  simp only [h1, h2, h3, h4, h5, if_false, decide_false, Bool.false_eq_true, cmp_eq, Option.bind_some, if_true]
  refine lpO_ex (fun x => (x = .ret 2 ∧ ¬ VG g) ∨ (x = .ret 10 ∧ ¬ VG g) ∨ (x = .go () ∧ VG g)) ?_ ?_
  · refine loopN g.2.2.length (fun i s => s = (i : Int) ∧ (∀ (j : Nat) (h : j < i) (hj : j < g.2.2.length), 0 ≤ g.2.2[j].1 ∧ g.2.2[j].1 < g.2.1 ∧ 0 ≤ g.2.2[j].2.2 ∧ g.2.2[j].2.2 < g.2.1 ∧ 0 ≤ g.2.2[j].2.1 ∧ g.2.2[j].2.1 < g.1) ∧
        ∀ (j : Nat) (h : j + 1 < i) (hj : j + 1 < g.2.2.length), cmp3 (g.2.2[j]'(by omega)) g.2.2[j + 1] < 0) ?_ ?_ 0 _ (Nat.zero_le _) ⟨rfl, fun _ h => by omega, fun _ h => by omega⟩
    · rintro i s hi ⟨rfl, he, ho⟩
      rw [if_pos (lt_int hi), ix hi]
      simp only [Option.bind_some]
      by_cases hg : 0 ≤ g.2.2[i].1 ∧ g.2.2[i].1 < g.2.1 ∧ 0 ≤ g.2.2[i].2.2 ∧ g.2.2[i].2.2 < g.2.1 ∧ 0 ≤ g.2.2[i].2.1 ∧ g.2.2[i].2.1 < g.1
      · obtain ⟨e1, e2, e3, e4, e5, e6⟩ := hg
        rw [if_neg (by omega), if_neg (by omega), if_neg (by omega), if_neg (by omega), if_neg (by omega)]
        have hd : decide (g.1 ≤ g.2.2[i].2.1) = false := decide_eq_false (by omega)
        rw [hd]
        simp only [Bool.false_eq_true, if_false]
        have he' : ∀ (j : Nat) (h : j < i + 1) (hj : j < g.2.2.length), 0 ≤ g.2.2[j].1 ∧ g.2.2[j].1 < g.2.1 ∧ 0 ≤ g.2.2[j].2.2 ∧ g.2.2[j].2.2 < g.2.1 ∧ 0 ≤ g.2.2[j].2.1 ∧ g.2.2[j].2.1 < g.1 := by
          intro j hj hjl
          by_cases hji : j = i
          · subst hji; exact ⟨e1, e2, e3, e4, e5, e6⟩
          · exact he j (by omega) hjl
        by_cases h0 : 0 < i
        · rw [if_pos (by omega), ix_pred hi (by omega) h0]
          simp only [Option.bind_some]
          by_cases hc : 0 ≤ cmp3 (g.2.2[i - 1]'(by omega)) g.2.2[i]
          · refine .inr ⟨.ret 10, by rw [if_pos (decide_eq_true hc)], .inr (.inl ⟨rfl, fun v => ?_⟩)⟩
            have := v.ord (i - 1) (by omega)
            simp only [show i - 1 + 1 = i by omega] at this
            omega
          · refine .inl ⟨_, by rw [if_neg (by simpa using hc)], by rw [nx (by omega : g.2.2.length ≤ _) hi], he', fun j hj hjl => ?_⟩
            by_cases hji : j + 1 = i
            · have hj' : j = i - 1 := by omega
              subst hj'
              simp only [show i - 1 + 1 = i by omega]
              omega
            · exact ho j (by omega) hjl
        · refine .inl ⟨_, by rw [if_neg (by omega)], by rw [nx (by omega : g.2.2.length ≤ _) hi], he', fun j hj hjl => by omega⟩
      · have hv : ¬ VG g := fun v => hg (v.ed _ (List.getElem_mem hi))
        refine .inr ⟨.ret 2, ?_, .inl ⟨rfl, hv⟩⟩
        by_cases e1 : g.2.2[i].1 < 0
        · rw [if_pos e1]
        rw [if_neg e1]
        by_cases e2 : g.2.1 ≤ g.2.2[i].1
        · rw [if_pos e2]
        rw [if_neg e2]
        by_cases e3 : g.2.2[i].2.2 < 0
        · rw [if_pos e3]
        rw [if_neg e3]
        by_cases e4 : g.2.1 ≤ g.2.2[i].2.2
        · rw [if_pos e4]
        rw [if_neg e4]
        by_cases e5 : g.2.2[i].2.1 < 0
        · rw [if_pos e5]
        rw [if_neg e5, if_pos (decide_eq_true (by omega))]
    · rintro s ⟨rfl, he, ho⟩
      rw [if_neg (not_lt_int _)]
      refine ⟨_, rfl, .inr (.inr ⟨rfl, ⟨by omega, by omega, by omega, by omega, by omega, fun x hx => ?_, fun i h => ho i h h⟩⟩)⟩
      obtain ⟨j, hj, rfl⟩ := List.getElem_of_mem hx
      exact he j hj hj
  · rintro x (⟨rfl, hv⟩ | ⟨rfl, hv⟩ | ⟨rfl, hv⟩)
    · exact ⟨2, rfl, by simp [hv]⟩
    · exact ⟨10, rfl, by simp [hv]⟩
    · exact ⟨0, rfl, by simp [hv]⟩
end Go.AW

/- Tables of what follows: their numbers in a row, and how they are filled. -/
namespace Go.AW
open Go
theorem HasSuffix_eq {a b : List UInt8} (ha : a.length ≤ 4611686018427387904) : m_strings_HasSuffix a b = some (b.isSuffixOf a) := by
  unfold m_strings_HasSuffix m_internal_stringslite_HasSuffix jp
  dsimp only
  by_cases h : (b.length : Int) ≤ (a.length : Int)
  · have hw : IntKind.wrap .i64 ((a.length : Int) - (b.length : Int)) = ((a.length - b.length : Nat) : Int) := by rw [w64 (by omega) (by omega)]; omega
    rw [if_pos h, hw, if_pos ⟨by omega, by omega, Int.le_refl _⟩]
    simp only [Option.bind_some, Int.toNat_natCast, List.take_length, Option.some.injEq]
    rw [Bool.eq_iff_iff, decide_eq_true_eq, List.isSuffixOf_iff_suffix, List.suffix_iff_eq_drop]
    exact ⟨fun h => h.symm, fun h => h.symm⟩
  · rw [if_neg h]
    simp only [Option.bind_some, Option.some.injEq]
    rw [eq_comm, Bool.eq_false_iff]
    intro hs
    have := (List.isSuffixOf_iff_suffix.1 hs).length_le
    omega
def ftabE (mark : List UInt8) (q : Nat) : Int := (foll mark (q / 16) (letters.getD (q % 16) 0) : Int)
def ftabL (mark : List UInt8) : List Int := (List.range ((mark.length + 1) * 16)).map (ftabE mark)
def pcell (mark : List UInt8) (m : Nat) : List Int := (List.range ((mark.length + 1) * 16)).map fun q => if q < m then ftabE mark q else 0
theorem ftabL_len (mark : List UInt8) : (ftabL mark).length = (mark.length + 1) * 16 := by simp [ftabL]
theorem ftabL_div (mark : List UInt8) : (ftabL mark).length / 16 = mark.length + 1 := by rw [ftabL_len]; omega
theorem pcell_len (mark : List UInt8) (m : Nat) : (pcell mark m).length = (mark.length + 1) * 16 := by simp [pcell]
theorem pcell_zero (mark : List UInt8) : pcell mark 0 = List.replicate ((mark.length + 1) * 16) 0 := by
  refine List.ext_getElem (by simp [pcell]) fun i h1 h2 => ?_
  simp [pcell]
theorem pcell_set (mark : List UInt8) {m : Nat} : (pcell mark m).set m (ftabE mark m) = pcell mark (m + 1) := by
  refine List.ext_getElem (by simp [pcell]) fun i h1 h2 => ?_
  rw [List.getElem_set]
  simp only [pcell, List.getElem_map, List.getElem_range]
  by_cases e : m = i
  · subst e
    rw [if_pos rfl, if_pos (by omega)]
  · rw [if_neg e]
    by_cases h : i < m
    · rw [if_pos h, if_pos (by omega)]
    · rw [if_neg h, if_neg (by omega)]
theorem pcell_full (mark : List UInt8) {m : Nat} (h : (mark.length + 1) * 16 ≤ m) : pcell mark m = ftabL mark := by
  refine List.ext_getElem (by simp [pcell, ftabL]) fun i h1 h2 => ?_
  simp only [pcell_len] at h1
  simp only [pcell, ftabL, List.getElem_map, List.getElem_range]
  rw [if_pos (by omega)]
theorem fgo_le (mark w : List UInt8) : ∀ n, fgo mark w n ≤ n
  | 0 => Nat.le_refl _
  | n + 1 => by
    unfold fgo
    split
    · exact Nat.le_refl _
    · exact Nat.le_succ_of_le (fgo_le mark w n)
theorem fgo_hit {mark w : List UInt8} {n : Nat} (h : (mark.take n).isSuffixOf w = true) : fgo mark w n = n := by
  cases n with
  | zero => rfl
  | succ n => unfold fgo; rw [if_pos h]
theorem fgo_miss {mark w : List UInt8} {n : Nat} (h : (mark.take n).isSuffixOf w = false) : 0 < n ∧ fgo mark w n = fgo mark w (n - 1) := by
  cases n with
  | zero => rw [List.take_zero] at h; simp [List.isSuffixOf] at h
  | succ n => 
    refine ⟨Nat.succ_pos _, ?_⟩
    rw [show n + 1 - 1 = n by omega]
    conv => lhs; unfold fgo
    rw [if_neg (by rw [h]; decide)]
theorem foll_le (mark : List UInt8) (k : Nat) (c : UInt8) : foll mark k c ≤ mark.length := Nat.le_trans (fgo_le _ _ _) (Nat.min_le_right _ _)
abbrev eA16 : EncL (List Int) := encF 16 (fun x => (List.range 16).map fun i => HV.int .i64 (x.getD i 0)) (fun _ => by simp)
theorem eA16_zero : ∀ n : Nat, eA16.E (List.replicate n []) = eInt.E (List.replicate (n * 16) 0)
  | 0 => rfl
  | n + 1 => by
    have h1 : eA16.E (List.replicate (n + 1) ([] : List Int)) = eA16.C [] ++ eA16.E (List.replicate n []) := by
      rw [eA16.hE, eA16.hE, List.replicate_succ, List.flatMap_cons]
    rw [h1, eA16_zero n, Nat.add_mul, Nat.one_mul, Nat.add_comm, ← List.replicate_append_replicate]
    show _ = List.map _ (_ ++ _)
    rw [List.map_append]
    rfl
end Go.AW

/- Regions that draw their order: more operations that may be taken first, for no world turns their value. -/
namespace Go.AW
open Go
section
variable {P : Program} {N B : Nat} {s : AS} {ops : Array Oper} {o : Oper} {K : AS → Prop} {F : List Nat → AS → Prop} {L : List Nat}
def lit : HV → Bool
  | .int _ _ | .bool _ | .str _ => true
  | _ => false
def Free (P : Program) (o : Oper) (s : AS) (v : HV) : Prop := aval P o.op s (· = v) ∧ (∀ c, o.op ≠ .call c) ∧
  ∀ (B N : Nat) (μ : Mu) (a : Act) (w : World), SRel none N B μ s a w → ∃ u, ∀ w', (execOp a.eval o).run P w' = .ok (.value u) w'
end
end Go.AW

/- Regions that draw their order, by what holds when a set of their operations is done. -/
namespace Go.AW
open Go
section
variable {P : Program} {ro : Option Nat} {N : Nat} {s : AS} {ops : Array Oper} {K : AS → Prop} {F : List Nat → AS → Prop} {L : List Nat}
theorem AOpI.mono {i : Nat} {G G' : AS → Prop} (h : AOpI P ro N ops i G s) (hg : ∀ s', G s' → G' s') : AOpI P ro N ops i G' s := fun w0 μ0 μ a w next Q hs hE hK =>
  h w0 μ0 μ a w next Q hs hE fun μ2 s2 a2 w2 hk hs2 hE2 => hK μ2 s2 a2 w2 (hg s2 hk) hs2 hE2
theorem l_inv (hF : F = AnyL P ro N ops K) (hda : daOk ops = true) (p : Nat) (hp : p ≤ ops.size) (hw : ((List.range ops.size).all fun i => decide (i < p) || (List.range p).all fun k => (da ops i).contains k) = true)
    (Inv : List Nat → AS → Prop) (hstep : ∀ L s i, Inv L s → i < p → i ∉ L → (∀ k ∈ da ops i, k ∈ L) → AOpI P ro N ops i (Inv (i :: L)) s)
    (hend : ∀ L s, Inv L s → (∀ k, k < p ↔ k ∈ L) → F L s) : ∀ (d : Nat) (L : List Nat) (s : AS), Inv L s → (∀ k ∈ L, k < p) → L.Nodup → L.length + d = p → F L s
  | 0, L, s, hI, hL, hn, hd => by
    refine hend L s hI fun k => ⟨fun hk => Classical.byContradiction fun hkn => ?_, hL k⟩
    have hsub : (k :: L) ⊆ List.range p := fun x hx => by
      rcases List.mem_cons.1 hx with rfl | hx
      · exact List.mem_range.2 hk
      · exact List.mem_range.2 (hL x hx)
    have := (List.nodup_cons.2 ⟨hkn, hn⟩).length_le_of_subset hsub
    simp only [List.length_cons, List.length_range] at this
    omega
  | d + 1, L, s, hI, hL, hn, hd => by
    have hex : ∃ k, k < p ∧ k ∉ L := Classical.byContradiction fun hno => by
      have hsub : List.range p ⊆ L := fun x hx => Classical.byContradiction fun hx' => hno ⟨x, List.mem_range.1 hx, hx'⟩
      have := (List.nodup_range (n := p)).length_le_of_subset hsub
      simp only [List.length_range] at this
      omega
    obtain ⟨k0, hk0, hkL⟩ := hex
    have hlt : ∀ i, i ∈ readyL ops L → i < p ∧ i ∉ L ∧ ∀ k ∈ da ops i, k ∈ L := fun i hi => by
      simp only [readyL, List.mem_filter, List.mem_range, Bool.and_eq_true, Bool.not_eq_true', List.all_eq_true] at hi
      obtain ⟨h1, h2, h3⟩ := hi
      have h2' : i ∉ L := fun h => by rw [List.contains_iff_mem.2 h] at h2; cases h2
      refine ⟨Classical.byContradiction fun hip => ?_, h2', fun k hk => List.contains_iff_mem.1 (h3 k hk)⟩
      have := List.all_eq_true.1 hw i (List.mem_range.2 h1)
      rw [Bool.or_eq_true, decide_eq_true_eq] at this
      rcases this with h | h
      · exact hip h
      · have := List.all_eq_true.1 h k0 (List.mem_range.2 hk0)
        exact hkL (List.contains_iff_mem.1 (h3 k0 (List.contains_iff_mem.1 this)))
    -- some operation is ready
    have hready : (readyL ops L).isEmpty = false := by
      have hdak := daOk_spec hda
      -- the least that is not done
      have hmin : ∃ m, m < p ∧ m ∉ L ∧ ∀ k, k < m → k ∈ L := by
        have : ∀ n, (∃ m, m < n ∧ m < p ∧ m ∉ L) → ∃ m, m < p ∧ m ∉ L ∧ ∀ k, k < m → k ∈ L := by
          intro n
          induction n with
          | zero => rintro ⟨m, h, _⟩; omega
          | succ n ih =>
            rintro ⟨m, h1, h2, h3⟩
            by_cases hc : ∃ m, m < n ∧ m < p ∧ m ∉ L
            · exact ih hc
            · refine ⟨m, h2, h3, fun k hk => Classical.byContradiction fun hkn => hc ⟨k, by omega, by omega, hkn⟩⟩
        exact this p ⟨k0, hk0, hk0, hkL⟩
      obtain ⟨m, hm, hmL, hmin⟩ := hmin
      have : m ∈ readyL ops L := by
        simp only [readyL, List.mem_filter, List.mem_range, Bool.and_eq_true, Bool.not_eq_true', List.all_eq_true]
        refine ⟨by omega, ?_, fun k hk => List.contains_iff_mem.2 (hmin k (hdak m (by omega) k hk))⟩
        cases h : L.contains m with
        | false => rfl
        | true => exact absurd (List.contains_iff_mem.1 h) hmL
      cases hl : readyL ops L with
      | nil => rw [hl] at this; cases this
      | cons a l => rfl
    refine l_step hF hda (readyL ops L) rfl hready ?_
    have hall : ∀ l : List Nat, (∀ i ∈ l, i ∈ readyL ops L) → allR l fun i => AOpI P ro N ops i (F (i :: L)) s := by
      intro l
      induction l with
      | nil => intro _; exact trivial
      | cons i l ih =>
        intro hl
        obtain ⟨h1, h2, h3⟩ := hlt i (hl i (List.mem_cons_self ..))
        refine ⟨(hstep L s i hI h1 h2 h3).mono fun s' h' => ?_, ih fun j hj => hl j (List.mem_cons_of_mem _ hj)⟩
        refine l_inv hF hda p hp hw Inv hstep hend d (i :: L) s' h' (fun k hk => ?_) (List.nodup_cons.2 ⟨h2, hn⟩) (by simp only [List.length_cons]; omega)
        rcases List.mem_cons.1 hk with rfl | hk
        · exact h1
        · exact hL k hk
    exact hall _ fun i hi => hi
end
end Go.AW

/- Lists of rows that are owned: an array of slices, each of an array of its own. -/
namespace Go.AW
open Go
def rid (i : Nat) : Nat := (1000000 + i) * 1000 + 30
theorem rid_inj {i j : Nat} (h : rid i = rid j) : i = j := by unfold rid at h; omega
theorem hget_hd {id v : Nat} {o : AObj} {H : Heap} : hget ((id, v, o) :: H) id = some (v, o) := by simp [hget]
theorem hget_tl {id j v : Nat} {o : AObj} {H : Heap} (h : id ≠ j) : hget ((j, v, o) :: H) id = hget H id := by simp [hget, h]
theorem le_shadow {id v v' : Nat} {o o' : AObj} {H : Heap} : ∀ j x, hget ((id, v, o) :: H) j = some x → hget ((id, v, o) :: (id, v', o') :: H) j = some x := fun j x h => by
  by_cases e : j = id
  · subst e; rw [hget_hd] at h ⊢; exact h
  · rw [hget_tl e] at h ⊢; rw [hget_tl e]; exact h
abbrev Rws := List (Nat × List Int)
def hdr : Nat → Rws → List HV
  | _, [] => []
  | k, (v, l) :: t => .ar (rid k) v 1 0 l.length :: hdr (k + 1) t
abbrev eHd : EncL HV := ⟨1, fun h => [h], fun l => l, fun l => by induction l with
  | nil => rfl
  | cons a l ih => exact congrArg (a :: ·) ih, fun _ => rfl⟩
end Go.AW

/- syncmark.table: what follows each number of letters and each letter. -/
namespace Go.AW
open Go Go.Proofs
set_option linter.unusedVariables false
set_option maxHeartbeats 4000000 in
set_option maxRecDepth 100000 in
theorem w_syncmark_table {mark : List UInt8} (hmk : mark.length ≤ 1000000) : Pure Tryz.prog 83 [HV.str mark] (· = HV.sl 16 ((ftabL mark).length / 16) (eInt.E (ftabL mark))) := by
  refine Pure.of_body Tryz.func83 rfl rfl (Nat.le_of_ble_eq_true rfl) fun hf => ?_
  clear hf
  unfold Tryz.f83
  dsimp only [enumS, Nat.reduceAdd]
  refine AW.rgs rfl fun K hK => ?_
  refine mv rfl rfl ?_
  refine b_nil (hK _ (AW.to (to_le (s' := ⟨[(0, HV.str mark)], []⟩) ⟨leS_get ⟨rfl, trivial⟩, fun _ _ h => h⟩ ?_)))
  clear hK K
  have hwl : IntKind.wrap .i64 ((mark.length : Int) + 1) = ((mark.length + 1 : Nat) : Int) := by rw [w64 (by omega) (by omega)]; omega
  refine AW.rgs rfl fun K hK => ?_
  refine mv rfl rfl ?_
  refine bv rfl (v_lenS rfl rfl ty9 rfl) ?_
  refine bv rfl (v_bin rfl rfl b_add) ?_
  rw [hwl]
  refine b_op rfl (o_makeE (fid := 83) eA16 [] 83011 rfl rfl ty88 rfl rfl ty121 rfl rfl (show 0 ≤ ((mark.length + 1 : Nat) : Int) ∧ ((mark.length + 1 : Nat) : Int) ≤ ((mark.length + 1 : Nat) : Int) ∧ ((mark.length + 1 : Nat) : Int) * ((128 : Nat) : Int) ≤ 281474976710656 by omega) (fun v => ?_))
  refine mv rfl rfl ?_
  rw [Int.toNat_natCast, eA16_zero, ← pcell_zero, List.length_replicate]
  refine b_nil (hK _ (AW.to (to_le (s' := ⟨[(0, HV.str mark), (3, HV.ar 83011 v 16 0 (mark.length + 1))], [(83011, v, .arr 16 121 (eInt.E (pcell mark 0)))]⟩) ⟨leS_get ⟨rfl, rfl, trivial⟩, fun _ _ h => h⟩ ?_)))
  clear hK K
  refine AW.seq ?_
  refine AW.rgs rfl fun K hK => ?_
  refine mv rfl rfl ?_
  refine bv rfl (v_lenA rfl rfl ty88 rfl rfl) ?_
  refine mv rfl rfl ?_
  refine b_nil (hK _ (AW.to (to_le (s' := ⟨[(0, HV.str mark), (3, HV.ar 83011 v 16 0 (mark.length + 1)), (13, HV.int .i64 ((mark.length + 1 : Nat) : Int)), (14, HV.int .i64 0)], [(83011, v, .arr 16 121 (eInt.E (pcell mark 0)))]⟩) ⟨leS_get ⟨rfl, rfl, rfl, rfl, trivial⟩, fun _ _ h => h⟩ ?_)))
  clear hK K
  refine AW.block ?_
  refine AW.loopS (fun k : Nat => ⟨[(0, HV.str mark), (3, HV.ar 83011 v 16 0 (mark.length + 1)), (13, HV.int .i64 ((mark.length + 1 : Nat) : Int)), (14, HV.int .i64 (k : Int))], [(83011, v, .arr 16 121 (eInt.E (pcell mark (k * 16))))]⟩) (fun k => k ≤ mark.length + 1) (fun k => mark.length + 1 - k) 0 ⟨fun _ _ h => h, fun _ _ h => by rw [Nat.zero_mul] at h; exact h⟩ (Nat.zero_le _) ?_
  intro k hk
  refine AW.rgs rfl fun K hK => ?_
  refine bv rfl (v_bin rfl rfl b_lss) ?_
  refine b_nil (hK _ (AW.to (to_le (s' := ⟨[(0, HV.str mark), (3, HV.ar 83011 v 16 0 (mark.length + 1)), (13, HV.int .i64 ((mark.length + 1 : Nat) : Int)), (14, HV.int .i64 (k : Int)), (15, HV.bool (decide ((k : Int) < ((mark.length + 1 : Nat) : Int))))], [(83011, v, .arr 16 121 (eInt.E (pcell mark (k * 16))))]⟩) ⟨leS_get ⟨rfl, rfl, rfl, rfl, rfl, trivial⟩, fun _ _ h => h⟩ ?_)))
  clear hK K
  refine AW.cseq rfl (fun hc => ?_) (fun hc => ?_)
  · have hc := of_decide_eq_true hc
    have hkl : k < mark.length + 1 := by omega
    refine AW.skip ?_
    refine AW.seq (AW.block ?_)
    refine AW.rgs rfl fun K hK => ?_
    refine mv rfl rfl ?_
    refine mv rfl rfl ?_
    refine b_nil (hK _ (AW.to (to_le (s' := ⟨[(0, HV.str mark), (3, HV.ar 83011 v 16 0 (mark.length + 1)), (4, HV.int .i64 (k : Int)), (13, HV.int .i64 ((mark.length + 1 : Nat) : Int)), (14, HV.int .i64 (k : Int))], [(83011, v, .arr 16 121 (eInt.E (pcell mark (k * 16))))]⟩) ⟨leS_get ⟨rfl, rfl, rfl, rfl, rfl, trivial⟩, fun _ _ h => h⟩ ?_)))
    clear hK K
    refine AW.rgs rfl fun K hK => ?_
    refine mv rfl rfl ?_
    refine b_nil (hK _ (AW.to (to_le (s' := ⟨[(0, HV.str mark), (3, HV.ar 83011 v 16 0 (mark.length + 1)), (4, HV.int .i64 (k : Int)), (13, HV.int .i64 ((mark.length + 1 : Nat) : Int)), (14, HV.int .i64 (k : Int)), (17, HV.int .i64 0)], [(83011, v, .arr 16 121 (eInt.E (pcell mark (k * 16))))]⟩) ⟨leS_get ⟨rfl, rfl, rfl, rfl, rfl, rfl, trivial⟩, fun _ _ h => h⟩ ?_)))
    clear hK K
    refine AW.block ?_
    refine AW.loopS (fun a : Nat => ⟨[(0, HV.str mark), (3, HV.ar 83011 v 16 0 (mark.length + 1)), (4, HV.int .i64 (k : Int)), (13, HV.int .i64 ((mark.length + 1 : Nat) : Int)), (14, HV.int .i64 (k : Int)), (17, HV.int .i64 (a : Int))], [(83011, v, .arr 16 121 (eInt.E (pcell mark (k * 16 + a))))]⟩) (fun a => a ≤ 16) (fun a => 16 - a) 0 (AS.le_refl _) (Nat.zero_le _) ?_
    intro a ha
    refine AW.rgs rfl fun K hK => ?_
    refine bv rfl (v_bin rfl rfl b_lss) ?_
    refine b_nil (hK _ (AW.to (to_le (s' := ⟨[(0, HV.str mark), (3, HV.ar 83011 v 16 0 (mark.length + 1)), (4, HV.int .i64 (k : Int)), (13, HV.int .i64 ((mark.length + 1 : Nat) : Int)), (14, HV.int .i64 (k : Int)), (17, HV.int .i64 (a : Int)), (18, HV.bool (decide ((a : Int) < 16)))], [(83011, v, .arr 16 121 (eInt.E (pcell mark (k * 16 + a))))]⟩) ⟨leS_get ⟨rfl, rfl, rfl, rfl, rfl, rfl, rfl, trivial⟩, fun _ _ h => h⟩ ?_)))
    clear hK K
    refine AW.cseq rfl (fun hc => ?_) (fun hc => ?_)
    · have hc := of_decide_eq_true hc
      have hal : a < 16 := by omega
      have hwa : IntKind.wrap .i64 ((a : Int) + 1) = ((a + 1 : Nat) : Int) := by rw [w64 (by omega) (by omega)]; omega
      refine AW.skip ?_
      refine AW.seq (AW.block ?_)
      refine AW.rgs rfl fun K hK => ?_
      refine mv rfl rfl ?_
      refine mv rfl rfl ?_
      refine b_nil (hK _ (AW.to (to_le (s' := ⟨[(0, HV.str mark), (3, HV.ar 83011 v 16 0 (mark.length + 1)), (4, HV.int .i64 (k : Int)), (5, HV.int .i64 (a : Int)), (13, HV.int .i64 ((mark.length + 1 : Nat) : Int)), (14, HV.int .i64 (k : Int)), (17, HV.int .i64 (a : Int))], [(83011, v, .arr 16 121 (eInt.E (pcell mark (k * 16 + a))))]⟩) ⟨leS_get ⟨rfl, rfl, rfl, rfl, rfl, rfl, rfl, trivial⟩, fun _ _ h => h⟩ ?_)))
      clear hK K
      have hlet : (([48, 49, 50, 51, 52, 53, 54, 55, 56, 57, 97, 98, 99, 100, 101, 102] : List UInt8).take ((a + 1 : Nat) : Int).toNat).drop ((a : Nat) : Int).toNat = [letters.getD a 0] := by
        rw [Int.toNat_natCast, Int.toNat_natCast]
        show (letters.take (a + 1)).drop a = _
        have hll : a < letters.length := hal
        rw [← List.take_append_getElem hll, List.drop_left' (by rw [List.length_take]; omega), List.getD_eq_getElem?_getD, List.getElem?_eq_getElem hll]
        rfl
      have htk : ((mark.take ((k : Nat) : Int).toNat).drop (0 : Int).toNat) = mark.take k := by rw [Int.toNat_natCast]; rfl
      refine AW.dgs 9 follows rfl rfl fun K hK => ?_
      refine sm rfl rfl ?_
      refine sm rfl rfl ?_
      refine sv rfl (v_sliceS ty9 rfl rfl rfl (show 0 ≤ (0 : Int) ∧ (0 : Int) ≤ (k : Int) ∧ (k : Int) ≤ (mark.length : Int) by omega)) ?_
      refine sm rfl rfl ?_
      refine sm rfl rfl ?_
      refine sv rfl (v_bin rfl rfl b_add) ?_
      rw [hwa]
      refine sv rfl (v_sliceS ty9 rfl rfl rfl (show 0 ≤ (a : Int) ∧ (a : Int) ≤ ((a + 1 : Nat) : Int) ∧ ((a + 1 : Nat) : Int) ≤ ((([48, 49, 50, 51, 52, 53, 54, 55, 56, 57, 97, 98, 99, 100, 101, 102] : List UInt8).length : Nat) : Int) by simp only [List.length_cons, List.length_nil]; omega)) ?_
      refine sv rfl (v_bin rfl rfl (b_sadd (by rw [hlet, htk, List.length_take]; simp only [maxLen, List.length_singleton]; omega))) ?_
      refine sm rfl rfl ?_
      refine s_nil ?_
      rw [hlet, htk]
      refine b_nil (hK _ (AW.to (to_le (s' := ⟨[(0, HV.str mark), (3, HV.ar 83011 v 16 0 (mark.length + 1)), (4, HV.int .i64 (k : Int)), (5, HV.int .i64 (a : Int)), (6, HV.str (mark.take k ++ [letters.getD a 0])), (13, HV.int .i64 ((mark.length + 1 : Nat) : Int)), (14, HV.int .i64 (k : Int)), (17, HV.int .i64 (a : Int))], [(83011, v, .arr 16 121 (eInt.E (pcell mark (k * 16 + a))))]⟩) ⟨leS_get ⟨rfl, rfl, rfl, rfl, rfl, rfl, rfl, rfl, trivial⟩, fun _ _ h => h⟩ ?_)))
      clear hK K
      have hW : (mark.take k ++ [letters.getD a 0]).length ≤ 2000000 := by rw [List.length_append, List.length_take]; simp only [List.length_singleton]; omega
      generalize hWe : (mark.take k ++ [letters.getD a 0]) = W at hW
      refine AW.rgs rfl fun K hK => ?_
      refine mv rfl rfl ?_
      refine bv rfl (v_lenS rfl rfl ty9 rfl) ?_
      refine mv rfl rfl ?_
      refine bv rfl (v_lenS rfl rfl ty9 rfl) ?_
      refine bv rfl (v_min rfl rfl rfl) ?_
      refine mv rfl rfl ?_
      have hmn : min (W.length : Int) (mark.length : Int) = ((min W.length mark.length : Nat) : Int) := by omega
      rw [hmn]
      refine b_nil (hK _ (AW.to (to_le (s' := ⟨[(0, HV.str mark), (3, HV.ar 83011 v 16 0 (mark.length + 1)), (4, HV.int .i64 (k : Int)), (5, HV.int .i64 (a : Int)), (6, HV.str W), (7, HV.int .i64 ((min W.length mark.length : Nat) : Int)), (13, HV.int .i64 ((mark.length + 1 : Nat) : Int)), (14, HV.int .i64 (k : Int)), (17, HV.int .i64 (a : Int))], [(83011, v, .arr 16 121 (eInt.E (pcell mark (k * 16 + a))))]⟩) ⟨leS_get ⟨rfl, rfl, rfl, rfl, rfl, rfl, rfl, rfl, rfl, trivial⟩, fun _ _ h => h⟩ ?_)))
      clear hK K
      refine AW.seq ?_
      refine AW.conseq (Q' := fun e s1 => e = .normal ∧ s1.le ⟨[(0, HV.str mark), (3, HV.ar 83011 v 16 0 (mark.length + 1)), (4, HV.int .i64 (k : Int)), (5, HV.int .i64 (a : Int)), (6, HV.str W), (7, HV.int .i64 ((fgo mark W (min W.length mark.length) : Nat) : Int)), (13, HV.int .i64 ((mark.length + 1 : Nat) : Int)), (14, HV.int .i64 (k : Int)), (17, HV.int .i64 (a : Int))], [(83011, v, .arr 16 121 (eInt.E (pcell mark (k * 16 + a))))]⟩) ?_ ?_
      · refine AW.block ?_
        refine AW.loopS (fun n : Nat => ⟨[(0, HV.str mark), (3, HV.ar 83011 v 16 0 (mark.length + 1)), (4, HV.int .i64 (k : Int)), (5, HV.int .i64 (a : Int)), (6, HV.str W), (7, HV.int .i64 (n : Int)), (13, HV.int .i64 ((mark.length + 1 : Nat) : Int)), (14, HV.int .i64 (k : Int)), (17, HV.int .i64 (a : Int))], [(83011, v, .arr 16 121 (eInt.E (pcell mark (k * 16 + a))))]⟩) (fun n => n ≤ mark.length ∧ fgo mark W n = fgo mark W (min W.length mark.length)) (fun n => n) (min W.length mark.length) (AS.le_refl _) ⟨Nat.min_le_right _ _, rfl⟩ ?_
        rintro n ⟨hn, hfg⟩
        refine AW.seq ?_
        have htn : ((mark.take ((n : Nat) : Int).toNat).drop (0 : Int).toNat) = mark.take n := by rw [Int.toNat_natCast]; rfl
        refine AW.rgs rfl fun K hK => ?_
        refine mv rfl rfl ?_
        refine mv rfl rfl ?_
        refine mv rfl rfl ?_
        refine bv rfl (v_sliceS ty9 rfl rfl rfl (show 0 ≤ (0 : Int) ∧ (0 : Int) ≤ (n : Int) ∧ (n : Int) ≤ (mark.length : Int) by omega)) ?_
        rw [htn]
        refine b_op rfl (o_call rfl rfl rfl rfl (ACallD.pure0 (w_strings_HasSuffix (HasSuffix_eq (a := W) (b := mark.take n) (by omega)))) ?_)
        refine bv rfl (v_not rfl) ?_
        refine b_nil (hK _ (AW.to (to_le (s' := ⟨[(0, HV.str mark), (3, HV.ar 83011 v 16 0 (mark.length + 1)), (4, HV.int .i64 (k : Int)), (5, HV.int .i64 (a : Int)), (6, HV.str W), (7, HV.int .i64 (n : Int)), (13, HV.int .i64 ((mark.length + 1 : Nat) : Int)), (14, HV.int .i64 (k : Int)), (17, HV.int .i64 (a : Int)), (38, HV.bool (!((mark.take n).isSuffixOf W)))], [(83011, v, .arr 16 121 (eInt.E (pcell mark (k * 16 + a))))]⟩) ⟨leS_get ⟨rfl, rfl, rfl, rfl, rfl, rfl, rfl, rfl, rfl, rfl, trivial⟩, fun _ _ h => h⟩ ?_)))
        clear hK K
        refine AW.cond rfl (fun hc => ?_) (fun hc => ?_)
        · have hs : (mark.take n).isSuffixOf W = false := by simpa using hc
          obtain ⟨hn0, hfm⟩ := fgo_miss hs
          have hwn : IntKind.wrap .i64 ((n : Int) - 1) = ((n - 1 : Nat) : Int) := by rw [w64 (by omega) (by omega)]; omega
          refine AW.skip ?_
          refine AW.block ?_
          refine AW.rg rfl fun K hK => ?_
          refine mv rfl rfl ?_
          refine bv rfl (v_bin rfl rfl b_sub) ?_
          refine mv rfl rfl ?_
          refine b_nil (hK _ ?_)
          clear hK K
          exact ⟨n - 1, ⟨by omega, by rw [← hfm]; exact hfg⟩, by omega, ⟨leS_get ⟨rfl, rfl, rfl, rfl, rfl, by rw [← hwn]; rfl, rfl, rfl, rfl, trivial⟩, fun _ _ h => h⟩⟩
        · have hs : (mark.take n).isSuffixOf W = true := by simpa using hc
          refine AW.exit ?_
          refine ⟨rfl, ?_⟩
          rw [← hfg, fgo_hit hs]
          exact ⟨leS_get ⟨rfl, rfl, rfl, rfl, rfl, rfl, rfl, rfl, rfl, trivial⟩, fun _ _ h => h⟩
      rintro e s1 ⟨rfl, hle⟩
      refine ⟨_, hle, ?_⟩
      have hE : ((fgo mark W (min W.length mark.length) : Nat) : Int) = ftabE mark (k * 16 + a) := by
        subst hWe
        unfold ftabE foll
        rw [show (k * 16 + a) / 16 = k by omega, show (k * 16 + a) % 16 = a by omega]
      have hoff : (0 : Nat) + ((k : Nat) : Int).toNat * 16 + ((a : Nat) : Int).toNat * 1 = k * 16 + a := by rw [Int.toNat_natCast, Int.toNat_natCast]; omega
      refine AW.rg rfl fun K hK => ?_
      refine mv rfl rfl ?_
      refine mv rfl rfl ?_
      refine mv rfl rfl ?_
      refine mv rfl rfl ?_
      refine bv rfl (v_idxA ty88 es88 rfl rfl (show 0 ≤ (k : Int) ∧ (k : Int) < ((mark.length + 1 : Nat) : Int) by omega) rfl) ?_
      refine bv rfl (v_arrP ty121 es121 rfl rfl (show 0 ≤ (a : Int) ∧ (a : Int) < ((16 : Nat) : Int) by omega) rfl) ?_
      refine b_op rfl (o_store (cs := [HV.int .i64 ((fgo mark W (min W.length mark.length) : Nat) : Int)]) (zs := eInt.E (pcell mark (k * 16 + a + 1))) rfl rfl rfl ty3 rfl rfl rfl ?_ ?_ ?_)
      · refine Nat.ble_eq_true_of_le ?_
        show ((k : Nat) : Int).toNat * 16 + ((a : Nat) : Int).toNat * 1 + 1 ≤ (List.map _ (pcell mark (k * 16 + a))).length
        rw [List.length_map, pcell_len, Int.toNat_natCast, Int.toNat_natCast]
        omega
      · show (List.map _ (pcell mark (k * 16 + a))).set (((k : Nat) : Int).toNat * 16 + ((a : Nat) : Int).toNat * 1) _ = List.map _ _
        rw [hE, show ((k : Nat) : Int).toNat * 16 + ((a : Nat) : Int).toNat * 1 = k * 16 + a by rw [Int.toNat_natCast, Int.toNat_natCast]; omega, ← pcell_set, List.map_set]
      refine b_nil (hK _ (AW.to (to_le (s' := ⟨[(0, HV.str mark), (3, HV.ar 83011 v 16 0 (mark.length + 1)), (4, HV.int .i64 (k : Int)), (13, HV.int .i64 ((mark.length + 1 : Nat) : Int)), (14, HV.int .i64 (k : Int)), (17, HV.int .i64 (a : Int))], [(83011, v, .arr 16 121 (eInt.E (pcell mark (k * 16 + a + 1))))]⟩) ⟨leS_get ⟨rfl, rfl, rfl, rfl, rfl, rfl, trivial⟩, le_shadow⟩ ?_)))
      clear hK K
      refine AW.rg rfl fun K hK => ?_
      refine bv rfl (v_bin rfl rfl b_add) ?_
      refine mv rfl rfl ?_
      refine b_nil (hK _ ?_)
      clear hK K
      exact ⟨a + 1, by omega, by omega, ⟨leS_get ⟨rfl, rfl, rfl, rfl, rfl, by rw [← hwa]; rfl, trivial⟩, fun _ _ h => h⟩⟩
    have hc := of_decide_eq_false hc
    have ha6 : a = 16 := by omega
    subst ha6
    have hwk : IntKind.wrap .i64 ((k : Int) + 1) = ((k + 1 : Nat) : Int) := by rw [w64 (by omega) (by omega)]; omega
    refine AW.exit ?_
    refine AW.rg rfl fun K hK => ?_
    refine bv rfl (v_bin rfl rfl b_add) ?_
    refine mv rfl rfl ?_
    refine b_nil (hK _ ?_)
    clear hK K
    exact ⟨k + 1, by omega, by omega, ⟨leS_get ⟨rfl, rfl, rfl, by rw [← hwk]; rfl, trivial⟩, fun _ _ h => by rw [Nat.add_mul, Nat.one_mul] at h; exact h⟩⟩
  have hc := of_decide_eq_false hc
  have hke : k = mark.length + 1 := by omega
  subst hke
  rw [pcell_full mark (Nat.le_refl _)]
  refine AW.exit ?_
  refine AW.rgs rfl fun K hK => ?_
  refine mv rfl rfl ?_
  refine mv rfl rfl ?_
  refine b_nil (hK _ (AW.to (to_frz 2 [(83011, v, .arr 16 121 (eInt.E (ftabL mark)))] ⟨[(2, HV.sl 16 ((ftabL mark).length / 16) (eInt.E (ftabL mark)))], []⟩ ⟨⟨_, rfl, ?_⟩, trivial⟩ trivial ⟨rfl, trivial⟩ ⟨rfl, trivial⟩ ?_)))
  · rw [ftabL_div]
    exact frz_flat (by show (List.map _ (ftabL mark)).length = _; rw [List.length_map, ftabL_len])
  clear hK K
  refine AW.ret ?_
  exact ret_pure (hs := [HV.sl 16 ((ftabL mark).length / 16) (eInt.E (ftabL mark))]) (.inr rfl) (resT rfl rfl) rfl (by show cleanL _; exact cleanL_map fun _ _ => trivial)
end Go.AW

/- Maps whose keys are structs: making, looking up, setting (what they hold is told by membership). -/
namespace Go.AW
open Go Go.MapKept

structure IsKv (P : Program) (kt : TypeId) (h : HV) (v : Value) : Prop where
  rep : ∀ w μ x, Rep w μ h x → x = v
  lit : ∃ l, keyOf P kt v = some l

def noIt (id : Nat) (H : Heap) : Prop := ∀ j v mv seen cur, hget H j ≠ some (v, .iter id mv seen cur)
theorem noIt_nil {id : Nat} : noIt id [] := fun _ _ _ _ _ h => by cases h
theorem noIt_cons {id i v : Nat} {o : AObj} {H : Heap} (ho : ∀ mv seen cur, o ≠ .iter id mv seen cur) (h : noIt id H) : noIt id ((i, v, o) :: H) := fun j u mv seen cur hj => by
  simp only [hget] at hj
  split at hj
  · cases hj; exact ho _ _ _ rfl
  · exact h _ _ _ _ _ hj
theorem noIt_arr {id i v k : Nat} {e : TypeId} {cs : List HV} {H : Heap} (h : noIt id H) : noIt id ((i, v, .arr k e cs) :: H) := noIt_cons (fun _ _ _ e => by cases e) h
theorem noIt_km {id i v : Nat} {es : List (Value × Value)} {H : Heap} (h : noIt id H) : noIt id ((i, v, .kmap es) :: H) := noIt_cons (fun _ _ _ e => by cases e) h

section
variable {P : Program} {ro : Option Nat} {N : Nat} {s : AS} {w w' : World} {μ : Mu} {H : Heap}

theorem find_kv {kt : TypeId} (L : WideMaps.KeyLaw P kt) (w : World) {kv : Value} (hk : ∃ l, keyOf P kt kv = some l) {ents : Array MapEntry} {es : List (Value × Value)} (he : ents.toList.map (fun x => (x.key, x.val)) = es)
    (hes : ∀ e ∈ es, ∃ l, keyOf P kt e.1 = some l) :
    ((Instr.findKey kt kv ents.toList).run P w = .ok none w ∧ ∀ e ∈ es, e.1 ≠ kv) ∨ ∃ j e, (Instr.findKey kt kv ents.toList).run P w = .ok (some (j, e.val)) w ∧ ents.toList[j]? = some e ∧ e.key = kv ∧ (kv, e.val) ∈ es := by
  obtain ⟨l, hl⟩ := hk
  rcases L.find w hl ents.toList (fun e hm => hes (e.key, e.val) (by rw [← he]; exact List.mem_map.2 ⟨e, hm, rfl⟩)) with ⟨h1, h2⟩ | ⟨j, e, h1, h2, h3⟩
  · refine .inl ⟨h1, fun e hm => ?_⟩
    rw [← he] at hm
    obtain ⟨x, hx, rfl⟩ := List.mem_map.1 hm
    exact h2 x hx
  · refine .inr ⟨j, e, h1, h2, h3, ?_⟩
    rw [← he, ← h3]
    exact List.mem_map.2 ⟨e, List.mem_of_getElem? h2, rfl⟩

theorem AOp.lookupK {o : Oper} {K : AS → Prop} {t kt et : TypeId} {m x : Operand} {id ver : Nat} {hk : HV} {kv : Value} {es : List (Value × Value)} {T Te : TyI} {z : HV} (L : WideMaps.KeyLaw P kt) (hop : o.op = .lookup t m x false) (hN : okd N o.dst = true)
    (hT : ty P t = some T) (hTd : T.desc = .map kt et) (hTe : ty P et = some Te) (hz : constHV Te.zero = some z)
    (hm : s.ev m = some (.mp id ver)) (hx : s.ev x = some hk) (hkv : IsKv P kt hk kv) (hg : hget s.heap id = some (ver, .kmap es)) (hes : ∀ e ∈ es, ∃ l, keyOf P kt e.1 = some l)
    (h1 : (∀ e ∈ es, e.1 ≠ kv) → K (s.put o.dst z)) (h2 : ∀ v, (kv, v) ∈ es → ∃ hv, constHV v = some hv ∧ K (s.put o.dst hv)) : AOp P ro N o K s := by
  refine AOp.value (fun c e => by rw [hop] at e; cases e) hN fun B μ a w hs => ?_
  obtain ⟨b, hl, he, ents, clock, hb, hents⟩ := hs.liveMap (hs.ev hm) hg
  have hxe : a.eval x = kv := hkv.rep w μ _ (hs.ev hx)
  have htd : P.underlying t = some (.map kt et) := by rw [← hTd]; exact (ty_spec hT).1
  obtain ⟨l, hl⟩ := hkv.lit
  have hchk := L.check w ents.isEmpty hl
  rcases find_kv L w hkv.lit hents hes with ⟨h3, h4⟩ | ⟨j, e, h3, h4, h5, h6⟩
  · refine ⟨Te.zero, z, μ, w, s.heap, ?_, hs.sr, Evo.refl w μ, constHV_rep hz, h1 h4⟩
    simp [execOp, hop, hxe, he, Instr.lookup, run_underlying htd, MapKept.run_getObj_map hb, hchk, h3, ty_zero hTe, Result.andThen]
  · obtain ⟨hv, hc, hK⟩ := h2 _ h6
    refine ⟨e.val, hv, μ, w, s.heap, ?_, hs.sr, Evo.refl w μ, constHV_rep hc, hK⟩
    simp [execOp, hop, hxe, he, Instr.lookup, run_underlying htd, MapKept.run_getObj_map hb, hchk, h3, Result.andThen]

theorem AOp.lookupOkK {o : Oper} {K : AS → Prop} {t kt et : TypeId} {m x : Operand} {id ver : Nat} {hk : HV} {kv : Value} {es : List (Value × Value)} {T Te : TyI} {z : HV} (L : WideMaps.KeyLaw P kt) (hop : o.op = .lookup t m x true) (hN : okd N o.dst = true)
    (hT : ty P t = some T) (hTd : T.desc = .map kt et) (hTe : ty P et = some Te) (hz : constHV Te.zero = some z)
    (hm : s.ev m = some (.mp id ver)) (hx : s.ev x = some hk) (hkv : IsKv P kt hk kv) (hg : hget s.heap id = some (ver, .kmap es)) (hes : ∀ e ∈ es, ∃ l, keyOf P kt e.1 = some l)
    (h1 : (∀ e ∈ es, e.1 ≠ kv) → K (s.put o.dst (.tup [z, .bool false]))) (h2 : ∀ v, (kv, v) ∈ es → ∃ hv, constHV v = some hv ∧ K (s.put o.dst (.tup [hv, .bool true]))) : AOp P ro N o K s := by
  refine AOp.value (fun c e => by rw [hop] at e; cases e) hN fun B μ a w hs => ?_
  obtain ⟨b, hl, he, ents, clock, hb, hents⟩ := hs.liveMap (hs.ev hm) hg
  have hxe : a.eval x = kv := hkv.rep w μ _ (hs.ev hx)
  have htd : P.underlying t = some (.map kt et) := by rw [← hTd]; exact (ty_spec hT).1
  obtain ⟨l, hl⟩ := hkv.lit
  have hchk := L.check w ents.isEmpty hl
  rcases find_kv L w hkv.lit hents hes with ⟨h3, h4⟩ | ⟨j, e, h3, h4, h5, h6⟩
  · refine ⟨.tuple #[Te.zero, .bool false], .tup [z, .bool false], μ, w, s.heap, ?_, hs.sr, Evo.refl w μ, ⟨[Te.zero, .bool false], rfl, _, _, rfl, constHV_rep hz, _, _, rfl, rfl, rfl⟩, h1 h4⟩
    simp [execOp, hop, hxe, he, Instr.lookup, run_underlying htd, MapKept.run_getObj_map hb, hchk, h3, ty_zero hTe, Result.andThen]
  · obtain ⟨hv, hc, hK⟩ := h2 _ h6
    refine ⟨.tuple #[e.val, .bool true], .tup [hv, .bool true], μ, w, s.heap, ?_, hs.sr, Evo.refl w μ, ⟨[e.val, .bool true], rfl, _, _, rfl, constHV_rep hc, _, _, rfl, rfl, rfl⟩, hK⟩
    simp [execOp, hop, hxe, he, Instr.lookup, run_underlying htd, MapKept.run_getObj_map hb, hchk, h3, Result.andThen]

structure KPut (es es' : List (Value × Value)) (kv v : Value) : Prop where
  old : ∀ e ∈ es', e ∈ es ∨ e = (kv, v)
  new : (kv, v) ∈ es'
  keep : ∀ e ∈ es, e.1 ≠ kv → e ∈ es'

theorem AOp.mapUpdateK {o : Oper} {K : AS → Prop} {t kt et : TypeId} {m x y : Operand} {id ver : Nat} {hk : HV} {kv v : Value} {es : List (Value × Value)} {T : TyI} {hv : HV} (L : WideMaps.KeyLaw P kt) (hop : o.op = .mapUpdate t m x y ∨ o.op = .insert t m x y) (hN : okd N o.dst = true)
    (hT : ty P t = some T) (hTd : T.desc = .map kt et)
    (hm : s.ev m = some (.mp id ver)) (hx : s.ev x = some hk) (hkv : IsKv P kt hk kv) (hy : s.ev y = some hv) (hv' : ∀ w μ x, Rep w μ hv x → x = v) (hg : hget s.heap id = some (ver, .kmap es)) (hes : ∀ e ∈ es, ∃ l, keyOf P kt e.1 = some l) (hni : noIt id s.heap)
    (h : ∀ es', KPut es es' kv v → K (({ s with heap := hset s.heap id ver (.kmap es') } : AS).put o.dst (.v undef))) : AOp P ro N o K s := by
  refine AOp.skip (fun c e => by rcases hop with hop | hop <;> (rw [hop] at e; cases e)) hN fun B μ a w hs => ?_
  obtain ⟨b, hl, he, ents, clock, hb, hents⟩ := hs.liveMap (hs.ev hm) hg
  have hxe : a.eval x = kv := hkv.rep w μ _ (hs.ev hx)
  have hye : a.eval y = v := hv' w μ _ (hs.ev hy)
  have htd : P.underlying t = some (.map kt et) := by rw [← hTd]; exact (ty_spec hT).1
  obtain ⟨l, hkl⟩ := hkv.lit
  have hchk := L.check w false hkl
  have hlb : b < w.heap.size := (Array.getElem?_eq_some_iff.1 hb).1
  have done : ∀ (ents' : Array MapEntry) (clock' : Nat), (Instr.mapUpdate t (.map (some b)) kv v).run P w = .ok () { w with heap := w.heap.set! b (.map ents' clock') } →
      KPut es (ents'.toList.map (fun x => (x.key, x.val))) kv v →
      ∃ μ' w' H', (execOp a.eval o).run P w = .ok .skip w' ∧ SR w' μ' H' ∧ Evo w μ w' μ' ∧ K (({ s with heap := H' } : AS).put o.dst (.v undef)) := by
    intro ents' clock' hrun hput
    obtain ⟨h1, h2⟩ := hs.sr.upd (w' := { w with heap := w.heap.set! b (.map ents' clock') }) (o' := .kmap (ents'.toList.map (fun x => (x.key, x.val)))) hg
      (fun cur e hr => by
        obtain ⟨lo, hi, hc, _⟩ := hr
        rw [hb] at hc
        cases hc) hl ⟨rfl, rfl, rfl⟩ (by simp)
      (fun b' hb' => by simp [Array.getElem?_setIfInBounds_ne (fun e => hb' e.symm)])
      (fun E => ⟨ents', clock', by simp [hlb], rfl⟩)
      (fun _ j v mver seen cur l hj => absurd hj (hni j v mver seen cur))
    refine ⟨μ, _, _, ?_, h1, h2, h _ hput⟩
    rcases hop with hop | hop <;> (simp only [execOp, hop, hxe, hye, he, Sem.run_bind, hrun, Result.andThen_ok]; rfl)
  rcases find_kv L w hkv.lit hents hes with ⟨h3, h4⟩ | ⟨j, e, h3, h4, h5, h6⟩
  · refine done (ents.push { key := kv, val := v, born := clock }) (clock + 1) ?_ ?_
    · simp [Instr.mapUpdate, run_underlying htd, MapKept.run_getObj_map hb, hchk, h3, run_setObj_map _ hb, Result.andThen]
    · subst hents
      refine ⟨fun e he => ?_, ?_, fun e he _ => ?_⟩
      · simpa using he
      · simp
      · simp only [Array.toList_push, List.map_append, List.map_cons, List.map_nil, List.mem_append]
        exact .inl he
  · have hj : ents[j]? = some e := by simpa using h4
    refine done (ents.modify j fun e => { e with key := kv, val := v }) clock ?_ ?_
    · simp [Instr.mapUpdate, run_underlying htd, MapKept.run_getObj_map hb, hchk, h3, hj, h5, L.stays w hkl, run_setObj_map _ hb, Result.andThen]
    · subst hents
      rw [Array.toList_modify, modify_map_set (fun x : MapEntry => (x.key, x.val)) (fun e => { e with key := kv, val := v }) (kv, v) (fun _ => rfl)]
      have hjm : (ents.toList.map (fun x => (x.key, x.val)))[j]? = some (kv, e.val) := by rw [List.getElem?_map, h4, ← h5]; rfl
      have hjl := (List.getElem?_eq_some_iff.1 hjm).1
      refine ⟨fun x hx => ?_, ?_, fun x hx hne => ?_⟩
      · rcases List.mem_or_eq_of_mem_set hx with h | h
        · exact .inl h
        · exact .inr h
      · exact List.mem_iff_getElem?.2 ⟨j, by rw [List.getElem?_set_self hjl]⟩
      · obtain ⟨i, hi⟩ := List.mem_iff_getElem?.1 hx
        refine List.mem_iff_getElem?.2 ⟨i, ?_⟩
        rw [List.getElem?_set_ne, hi]
        rintro rfl
        rw [hjm] at hi
        cases hi
        exact hne rfl

theorem to_kmap {G : AS → Prop} {sl : List (Nat × HV)} {H : Heap} {id ver : Nat} (hg : hget H id = some (ver, .map [])) (h : G ⟨sl, (id, ver, .kmap []) :: H⟩) : (⟨sl, H⟩ : AS).to G := by
  intro ro N B μ a w hs
  refine ⟨μ, _, h, ⟨hs.size, ⟨hs.sr.ok, fun i v o hi => ?_, fun i x hx => ?_, hs.sr.inj, hs.sr.held⟩, hs.slot, hs.marks, hs.ro⟩, Evo.refl w μ⟩
  · simp only [hget] at hi
    split at hi
    · rename_i e
      subst e
      cases hi
      obtain ⟨l, hl, hor⟩ := hs.sr.has i ver _ hg
      refine ⟨l, hl, ?_⟩
      cases l with
      | none => exact hor.elim
      | some b =>
        obtain ⟨ents, clock, h1, h2, _⟩ := hor
        refine ⟨ents, clock, h1, ?_⟩
        have : ents.toList = [] := by simpa using h2
        rw [this]
        rfl
    · exact hs.sr.has i v o hi
  · obtain ⟨y, hy⟩ := hs.sr.only i x hx
    simp only [hget]
    split
    · exact ⟨_, rfl⟩
    · exact ⟨y, hy⟩
end
section
variable {P : Program} {ro : Option Nat} {N : Nat} {o : Oper} {sl : List (Nat × HV)} {H : Heap} {all : Array Oper} {rest : List Oper} {K : AS → Prop}

theorem b_lookK {d : Nat} {t kt et : TypeId} {a b : Nat} {z : Value} {m x : Operand} {id ver : Nat} {hk : HV} {kv : Value} {es : List (Value × Value)} {Te : TyI} {zh : HV} (L : WideMaps.KeyLaw P kt) (h0 : (o.guard, o.dst, o.op) = (none, some d, .lookup t m x false)) (hT : ty P t = some ⟨.map kt et, a, b, z⟩) (hTe : ty P et = some Te) (hz : constHV Te.zero = some zh)
    (hm : (⟨sl, H⟩ : AS).ev m = some (.mp id ver)) (hx : (⟨sl, H⟩ : AS).ev x = some hk) (hkv : IsKv P kt hk kv) (hg : hget H id = some (ver, .kmap es)) (hes : ∀ e ∈ es, ∃ l, keyOf P kt e.1 = some l)
    (h1 : (∀ e ∈ es, e.1 ≠ kv) → bops P ro N all rest K ⟨(d, zh) :: sl, H⟩) (h2 : ∀ v, (kv, v) ∈ es → ∃ hv, constHV v = some hv ∧ bops P ro N all rest K ⟨(d, hv) :: sl, H⟩) : bops P ro N all (o :: rest) K ⟨sl, H⟩ := by
  obtain ⟨e1, e2⟩ := Prod.mk.inj h0
  obtain ⟨e2, e3⟩ := Prod.mk.inj e2
  refine b_opX e1 fun hN => AOp.lookupK L e3 hN hT rfl hTe hz hm hx hkv hg hes (fun hn => ?_) (fun v hv => ?_)
  · rw [e2]; exact bops_le (put_le (s := ⟨sl, H⟩) d _) (h1 hn)
  · obtain ⟨hv', hc, hK⟩ := h2 v hv
    exact ⟨hv', hc, by rw [e2]; exact bops_le (put_le (s := ⟨sl, H⟩) d _) hK⟩
theorem b_setK {t kt et : TypeId} {a b : Nat} {z : Value} {m x y : Operand} {id ver : Nat} {hk : HV} {kv v : Value} {es : List (Value × Value)} {hv : HV} (L : WideMaps.KeyLaw P kt) (h0 : (o.guard, o.dst, o.op) = (none, none, .mapUpdate t m x y) ∨ (o.guard, o.dst, o.op) = (none, none, .insert t m x y)) (hT : ty P t = some ⟨.map kt et, a, b, z⟩)
    (hm : (⟨sl, H⟩ : AS).ev m = some (.mp id ver)) (hx : (⟨sl, H⟩ : AS).ev x = some hk) (hkv : IsKv P kt hk kv) (hy : (⟨sl, H⟩ : AS).ev y = some hv) (hv' : ∀ w μ x, Rep w μ hv x → x = v) (hg : hget H id = some (ver, .kmap es)) (hes : ∀ e ∈ es, ∃ l, keyOf P kt e.1 = some l) (hni : noIt id H)
    (h : ∀ es', KPut es es' kv v → bops P ro N all rest K ⟨sl, (id, ver, .kmap es') :: H⟩) : bops P ro N all (o :: rest) K ⟨sl, H⟩ := by
  have e1 : o.guard = none := by rcases h0 with h0 | h0 <;> exact (Prod.mk.inj h0).1
  have e2 : o.dst = none := by rcases h0 with h0 | h0 <;> exact (Prod.mk.inj (Prod.mk.inj h0).2).1
  have e3 : o.op = .mapUpdate t m x y ∨ o.op = .insert t m x y := by 
    rcases h0 with h0 | h0
    · exact .inl (Prod.mk.inj (Prod.mk.inj h0).2).2
    · exact .inr (Prod.mk.inj (Prod.mk.inj h0).2).2
  refine b_opX e1 fun hN => AOp.mapUpdateK L e3 hN hT rfl hm hx hkv hy hv' hg hes hni fun es' hp => ?_
  rw [e2]
  exact bops_le (putN_le (s := ⟨sl, H⟩) id ver _ _) (h es' hp)
theorem o_lookOkK (hN : okd N o.dst = true) {d : Nat} {t kt et : TypeId} {a b : Nat} {z : Value} {m x : Operand} {id ver : Nat} {hk : HV} {kv : Value} {es : List (Value × Value)} {Te : TyI} {zh : HV} (L : WideMaps.KeyLaw P kt) (h0 : (o.dst, o.op) = (some d, .lookup t m x true)) (hT : ty P t = some ⟨.map kt et, a, b, z⟩) (hTe : ty P et = some Te) (hz : constHV Te.zero = some zh)
    (hm : (⟨sl, H⟩ : AS).ev m = some (.mp id ver)) (hx : (⟨sl, H⟩ : AS).ev x = some hk) (hkv : IsKv P kt hk kv) (hg : hget H id = some (ver, .kmap es)) (hes : ∀ e ∈ es, ∃ l, keyOf P kt e.1 = some l)
    (h1 : (∀ e ∈ es, e.1 ≠ kv) → bops P ro N all rest K ⟨(d, .tup [zh, .bool false]) :: sl, H⟩) (h2 : ∀ v, (kv, v) ∈ es → ∃ hv, constHV v = some hv ∧ bops P ro N all rest K ⟨(d, .tup [hv, .bool true]) :: sl, H⟩) : AOp P ro N o (fun s' => bops P ro N all rest K s') ⟨sl, H⟩ := by
  obtain ⟨e2, e3⟩ := Prod.mk.inj h0
  refine AOp.lookupOkK L e3 hN hT rfl hTe hz hm hx hkv hg hes (fun hn => ?_) (fun v hv => ?_)
  · rw [e2]; exact bops_le (put_le (s := ⟨sl, H⟩) d _) (h1 hn)
  · obtain ⟨hv', hc, hK⟩ := h2 v hv
    exact ⟨hv', hc, by rw [e2]; exact bops_le (put_le (s := ⟨sl, H⟩) d _) hK⟩
theorem ret_A {s : AS} {rvs : List ResultVar} {hs : List HV} {q : HV} {e : Exit} {K : HV → Heap → Prop} (he : e = .normal ∨ e = .ret) (hr : resAll P s rvs fun hs' => hs' = hs) (hj : joinR hs = q) (hk : K q s.heap) : retQ P rvs K e s :=
  ⟨he, resAll_mono hr fun hs' e => by subst e; exact ⟨q, s.heap, by rw [hj]; exact Conv.refl _ _, hk⟩⟩
end
end Go.AW

/- syncmark.search.can: whether a bad word goes on from a place; what is known is kept in a map. -/
namespace Go.AW
open Go Go.Proofs
set_option linter.unusedVariables false
abbrev TPl := TStateReadBadLeft
abbrev plcH (p : TPl) : HV := HV.agg [HV.int .i64 p.1, HV.int .i64 p.2.1, HV.bool p.2.2.1, HV.int .i64 p.2.2.2]
def plcV (p : TPl) : Value := .agg #[.int .i64 p.1, .int .i64 p.2.1, .bool p.2.2.1, .int .i64 p.2.2.2]
theorem plcV_inj {p q : TPl} (h : plcV p = plcV q) : p = q := by
  obtain ⟨a, b, c, d⟩ := p
  obtain ⟨a', b', c', d'⟩ := q
  simp only [plcV, Value.agg.injEq, Array.mk.injEq, List.cons.injEq, Value.int.injEq, Value.bool.injEq, true_and, and_true] at h
  obtain ⟨rfl, rfl, rfl, rfl⟩ := h
  rfl
def plcW (p : TPl) : Prop := (Lit.int .i64 p.1).wf = true ∧ (Lit.int .i64 p.2.1).wf = true ∧ (Lit.int .i64 p.2.2.2).wf = true
theorem plcLaw : WideMaps.KeyLaw Tryz.prog 81 := deep_law (m := 3) (by decide) (by kernel_rfl) (by kernel_rfl) (by kernel_rfl)
theorem plc_hkey (a b d : Int) (c : Bool) : hkey Tryz.prog (Tryz.prog.types.size + 1) 81 [HV.int .i64 a, HV.int .i64 b, HV.bool c, HV.int .i64 d] = some [Lit.int .i64 a, Lit.int .i64 b, Lit.bool c, Lit.int .i64 d] := by kernel_rfl
theorem plc_und : (match Tryz.prog.underlying 81 with | some (.struct _) => true | _ => false) = true := by kernel_rfl
theorem plc_ktf (a b d : Int) (c : Bool) : (Tryz.prog.keyType 81 && (Value.agg #[.int .i64 a, .int .i64 b, .bool c, .int .i64 d]).formed Tryz.prog 81) = true := by kernel_rfl
theorem plc_kv {p : TPl} (h : plcW p) : IsKv Tryz.prog 81 (plcH p) (plcV p) where
  rep := by
    rintro w μ x ⟨_, vs, rfl, x1, _, rfl, ⟨rfl, _⟩, x2, _, rfl, ⟨rfl, _⟩, x3, _, rfl, rfl, x4, _, rfl, ⟨rfl, _⟩, rfl⟩
    rfl
  lit := by
    obtain ⟨h1, h2, h3⟩ := h
    have hr : RepL default (⟨0, fun _ => none, fun _ => False⟩ : Mu) (cStateReadBadLeft p) [.int .i64 p.1, .int .i64 p.2.1, .bool p.2.2.1, .int .i64 p.2.2.2] := ⟨_, _, rfl, ⟨rfl, h1⟩, _, _, rfl, ⟨rfl, h2⟩, _, _, rfl, rfl, _, _, rfl, ⟨rfl, h3⟩, rfl⟩
    have hl := hkey_lits hr (plc_hkey p.1 p.2.1 p.2.2.2 p.2.2.1)
    have hu := plc_und
    unfold keyOf plcV
    split
    · rename_i he; rw [he] at hu; cases hu
    · rw [if_pos (plc_ktf _ _ _ _)]
      show ∃ l, Option.map _ (Tryz.prog.keyLits _ _ [.int .i64 p.1, .int .i64 p.2.1, .bool p.2.2.1, .int .i64 p.2.2.2]) = some l
      rw [hl]
      exact ⟨_, rfl⟩
    · rename_i h1 h2
      split at hu
      · rename_i fs he; exact absurd he (h2 fs)
      · cases hu

structure CanSpec (s : TGMarkTableNextMemo) (f : TPl → Bool) (stp : TPl → TFromLabelTo → TPl) (lv : Int → List TFromLabelTo) (okp : TPl → Prop) : Prop where
  rng : ∀ p, okp p → plcW p ∧ 0 ≤ p.2.2.2
  zero : ∀ p, okp p → p.2.2.2 = 0 → m_syncmark_search_ends s p = some (f p)
  next : ∀ p, okp p → p.2.2.2 ≠ 0 → idx s.2.2.2.1 p.1 = some (lv p.1) ∧ (lv p.1).length ≤ 1000000 ∧ f p = (lv p.1).any (fun x => f (stp p x)) ∧ ∀ x ∈ lv p.1, m_syncmark_search_step s p x = some (stp p x) ∧ okp (stp p x) ∧ (stp p x).2.2.2 = p.2.2.2 - 1
  bnd : ∀ (l : List TPl) (n : Int), l.Nodup → (∀ p ∈ l, okp p ∧ p.2.2.2 = n) → l.length ≤ 1000000
def MOk (f : TPl → Bool) (okp : TPl → Prop) (es : List (Value × Value)) : Prop := ∀ e ∈ es, ∃ p, okp p ∧ e = (plcV p, .bool (f p))
abbrev sr (g : TLabelsStatesEdges) (mk : List UInt8) (tb : List Int) (nx : List (List TFromLabelTo)) (mw : Nat) : TGMarkTableNextMemo := (g, mk, tb, nx, 57015, mw)
abbrev SH (g : TLabelsStatesEdges) (mk : List UInt8) (tb : List Int) (nx : List (List TFromLabelTo)) (mw : Nat) : HV := HV.fptr (cGMarkTableNextMemo (sr g mk tb nx mw)) 0
section
variable {g : TLabelsStatesEdges} {mk : List UInt8} {tb : List Int} {nx : List (List TFromLabelTo)} {mw : Nat} {f : TPl → Bool} {stp : TPl → TFromLabelTo → TPl} {lv : Int → List TFromLabelTo} {okp : TPl → Prop}
theorem MOk.put {es es' : List (Value × Value)} {p : TPl} (h : MOk f okp es) (hp : okp p) (hk : KPut es es' (plcV p) (.bool (f p))) : MOk f okp es' := fun e he => by
  rcases hk.old e he with h1 | h1
  · exact h e h1
  · exact ⟨p, hp, h1⟩
theorem MOk.lits {s : TGMarkTableNextMemo} (C : CanSpec s f stp lv okp) {es : List (Value × Value)} (h : MOk f okp es) : ∀ e ∈ es, ∃ l, keyOf Tryz.prog 81 e.1 = some l := fun e he => by
  obtain ⟨p, hp, rfl⟩ := h e he
  exact (plc_kv (C.rng p hp).1).lit
theorem can_drop {H0 : Heap} {v : Nat} {o o' : AObj} (h9 : hget H0 58009 = none) : ∀ j x, hget ((57015, mw, o) :: H0) j = some x → hget ((58009, v, o') :: (57015, mw, o) :: H0) j = some x := fun j x hx => by
  by_cases e : j = 58009
  · subst e
    rw [hget_tl (by decide), h9] at hx
    cases hx
  · rw [hget_tl e]; exact hx

set_option maxHeartbeats 4000000 in
set_option maxRecDepth 100000 in
theorem can_call (C : CanSpec (sr g mk tb nx mw) f stp lv okp) : ∀ (n : Nat) (p : TPl) (es : List (Value × Value)) (H0 : Heap), okp p → p.2.2.2.toNat = n → MOk f okp es → noIt 57015 H0 → hget H0 58009 = none →
    ACall Tryz.prog 58 [SH g mk tb nx mw, plcH p] ((57015, mw, .kmap es) :: H0) (fun r H' => r = HV.bool (f p) ∧ ∃ es', MOk f okp es' ∧ ∀ j x, hget ((57015, mw, .kmap es') :: H0) j = some x → hget H' j = some x) := by
  intro n
  induction n using Nat.strongRecOn with
  | _ n ih =>
    intro p es H0 hp hn hm hni h9
    obtain ⟨hpw, hp0⟩ := C.rng p hp
    refine ACall.of_body Tryz.func58 rfl rfl (Nat.le_of_ble_eq_true rfl) ?_
    unfold Tryz.f58
    dsimp only [enumS, Nat.reduceAdd]
    refine AW.rgs rfl fun K hK => ?_
    refine b_op rfl (o_box rfl rfl rfl ?_)
    refine mv rfl rfl ?_
    refine b_nil (hK _ (AW.to (to_le (s' := ⟨[(0, SH g mk tb nx mw), (3, HV.fptr (cStateReadBadLeft p) 0)], (57015, mw, .kmap es) :: H0⟩) ⟨leS_get ⟨rfl, rfl, trivial⟩, fun _ _ h => h⟩ ?_)))
    clear hK K
    refine AW.seq ?_
    refine AW.rgs rfl fun K hK => ?_
    refine bv rfl (v_fieldAddrF fo81_3 rfl) ?_
    refine bv rfl (v_loadF ty3 rfl (l_lit rfl rfl)) ?_
    refine bv rfl (v_bin rfl rfl b_eql) ?_
    refine b_nil (hK _ (AW.to (to_le (s' := ⟨[(0, SH g mk tb nx mw), (3, HV.fptr (cStateReadBadLeft p) 0), (12, HV.bool (decide (p.2.2.2 = 0)))], (57015, mw, .kmap es) :: H0⟩) ⟨leS_get ⟨rfl, rfl, rfl, trivial⟩, fun _ _ h => h⟩ ?_)))
    clear hK K
    refine AW.cond rfl (fun hc => ?_) (fun hc => ?_)
    · have hc := of_decide_eq_true hc
      have hz := C.zero p hp hc
      refine AW.rgs rfl fun K hK => ?_
      refine mv rfl rfl ?_
      refine bv rfl (v_loadF ty81 rfl (l_litA rfl (Nat.le_of_ble_eq_true rfl) rfl)) ?_
      refine b_op rfl (o_call rfl rfl rfl rfl (ACallD.pure0 (w_syncmark_search_ends hz)) ?_)
      refine mv rfl rfl ?_
      refine b_nil (hK _ (AW.to (to_le (s' := ⟨[(4, HV.bool (f p))], (57015, mw, .kmap es) :: H0⟩) ⟨leS_get ⟨rfl, trivial⟩, fun _ _ h => h⟩ ?_)))
      clear hK K
      refine AW.ret ?_
      exact ret_A (hs := [HV.bool (f p)]) (.inr rfl) (resT rfl rfl) rfl ⟨rfl, es, hm, fun _ _ h => h⟩
    have hc := of_decide_eq_false hc
    obtain ⟨hidx, hll, hfl, hlx⟩ := C.next p hp hc
    generalize lv p.1 = l at hidx hll hfl hlx
    refine AW.skip ?_
    refine AW.seq ?_
    refine AW.dys follows fun K hK => ?_
    refine y_st 5 rfl rfl ?_
    refine sm rfl rfl ?_
    refine sv rfl (v_nilF rfl) ?_
    refine sv rfl (v_fieldAddrF fo91_4 rfl) ?_
    refine sv rfl (v_loadF ty87 rfl (l_lit rfl rfl)) ?_
    refine sv rfl (v_loadF ty81 rfl (l_litA rfl (Nat.le_of_ble_eq_true rfl) rfl)) ?_
    refine s_nil ?_
    refine y_opX rfl rfl rfl rfl (fun hN => o_lookOkK hN plcLaw rfl ty87 ty4 rfl rfl rfl (plc_kv hpw) rfl (hm.lits C) (fun hno => ?_) (fun v hv => ?_))
    rotate_left
    · have hvb : v = .bool (f p) := by
        obtain ⟨q, _, e⟩ := hm _ hv
        have e1 := congrArg Prod.fst e
        have e2 := congrArg Prod.snd e
        simp only at e1 e2
        rw [← plcV_inj e1] at e2
        exact e2
      subst hvb
      refine ⟨HV.bool (f p), rfl, ?_⟩
      refine b_nil ?_
      refine y_st 11 rfl rfl ?_
      refine sm rfl rfl ?_
      refine sv rfl (v_extract rfl rfl) ?_
      refine sv rfl (v_extract rfl rfl) ?_
      refine sm rfl rfl ?_
      refine sm rfl rfl ?_
      refine s_nil ?_
      refine y_nil rfl (hK _ (AW.to (to_le (s' := ⟨[(5, HV.bool (f p)), (6, HV.bool true)], (57015, mw, .kmap es) :: H0⟩) ⟨leS_get ⟨rfl, rfl, trivial⟩, fun _ _ h => h⟩ ?_)))
      clear hK K
      refine AW.rgs rfl fun K hK => ?_
      refine mv rfl rfl ?_
      refine b_nil (hK _ (AW.to (to_le (s' := ⟨[(5, HV.bool (f p)), (25, HV.bool true)], (57015, mw, .kmap es) :: H0⟩) ⟨leS_get ⟨rfl, rfl, trivial⟩, fun _ _ h => h⟩ ?_)))
      clear hK K
      refine AW.cond rfl (fun _ => ?_) (fun hc => by cases hc)
      refine AW.rgs rfl fun K hK => ?_
      refine mv rfl rfl ?_
      refine mv rfl rfl ?_
      refine b_nil (hK _ (AW.to (to_le (s' := ⟨[(4, HV.bool (f p))], (57015, mw, .kmap es) :: H0⟩) ⟨leS_get ⟨rfl, trivial⟩, fun _ _ h => h⟩ ?_)))
      clear hK K
      refine AW.ret ?_
      exact ret_A (hs := [HV.bool (f p)]) (.inr rfl) (resT rfl rfl) rfl ⟨rfl, es, hm, fun _ _ h => h⟩
    refine b_nil ?_
    refine y_st 11 rfl rfl ?_
    refine sm rfl rfl ?_
    refine sv rfl (v_extract rfl rfl) ?_
    refine sv rfl (v_extract rfl rfl) ?_
    refine sm rfl rfl ?_
    refine sm rfl rfl ?_
    refine s_nil ?_
    refine y_nil rfl (hK _ (AW.to (to_le (s' := ⟨[(0, SH g mk tb nx mw), (3, HV.fptr (cStateReadBadLeft p) 0), (6, HV.bool false)], (57015, mw, .kmap es) :: H0⟩) ⟨leS_get ⟨rfl, rfl, rfl, trivial⟩, fun _ _ h => h⟩ ?_)))
    clear hK K
    refine AW.rgs rfl fun K hK => ?_
    refine mv rfl rfl ?_
    refine b_nil (hK _ (AW.to (to_le (s' := ⟨[(0, SH g mk tb nx mw), (3, HV.fptr (cStateReadBadLeft p) 0), (25, HV.bool false)], (57015, mw, .kmap es) :: H0⟩) ⟨leS_get ⟨rfl, rfl, rfl, trivial⟩, fun _ _ h => h⟩ ?_)))
    clear hK K
    refine AW.cond rfl (fun hc => by cases hc) (fun _ => ?_)
    refine AW.skip ?_
    refine AW.rgs rfl fun K hK => ?_
    refine mv rfl rfl ?_
    refine b_nil (hK _ (AW.to (to_le (s' := ⟨[(0, SH g mk tb nx mw), (3, HV.fptr (cStateReadBadLeft p) 0), (7, HV.bool false)], (57015, mw, .kmap es) :: H0⟩) ⟨leS_get ⟨rfl, rfl, rfl, trivial⟩, fun _ _ h => h⟩ ?_)))
    clear hK K
    refine AW.seq ?_
    refine AW.conseq (Q' := fun e s1 => e = .normal ∧ ∃ es', MOk f okp es' ∧ s1.le ⟨[(0, SH g mk tb nx mw), (3, HV.fptr (cStateReadBadLeft p) 0), (7, HV.bool (f p))], (57015, mw, .kmap es') :: H0⟩) ?_ ?_
    rotate_left
    · rintro e s1 ⟨rfl, es2, hm2, hle⟩
      refine ⟨_, hle, ?_⟩
      refine AW.dgs 6 follows rfl rfl fun K hK => ?_
      refine sm rfl rfl ?_
      refine sv rfl (v_nilF rfl) ?_
      refine sv rfl (v_fieldAddrF fo91_4 rfl) ?_
      refine sv rfl (v_loadF ty87 rfl (l_lit rfl rfl)) ?_
      refine sv rfl (v_loadF ty81 rfl (l_litA rfl (Nat.le_of_ble_eq_true rfl) rfl)) ?_
      refine sm rfl rfl ?_
      refine s_nil ?_
      refine b_setK plcLaw (.inl rfl) ty87 rfl rfl (plc_kv hpw) (hv := HV.bool (f p)) (v := .bool (f p)) rfl (fun w μ x h => h) rfl (hm2.lits C) (noIt_km hni) (fun es3 hput => ?_)
      have hm3 := hm2.put hp hput
      refine b_nil (hK _ (AW.to (to_le (s' := ⟨[(7, HV.bool (f p))], (57015, mw, .kmap es3) :: H0⟩) ⟨leS_get ⟨rfl, trivial⟩, le_shadow⟩ ?_)))
      clear hK K
      refine AW.rgs rfl fun K hK => ?_
      refine mv rfl rfl ?_
      refine mv rfl rfl ?_
      refine b_nil (hK _ (AW.to (to_le (s' := ⟨[(4, HV.bool (f p))], (57015, mw, .kmap es3) :: H0⟩) ⟨leS_get ⟨rfl, trivial⟩, fun _ _ h => h⟩ ?_)))
      clear hK K
      refine AW.ret ?_
      exact ret_A (hs := [HV.bool (f p)]) (.inr rfl) (resT rfl rfl) rfl ⟨rfl, es3, hm3, fun _ _ h => h⟩
    refine AW.dgs 10 follows rfl rfl fun K hK => ?_
    refine sm rfl rfl ?_
    refine sv rfl (v_nilF rfl) ?_
    refine sv rfl (v_fieldAddrF fo91_3 rfl) ?_
    refine sv rfl (v_loadF ty89 rfl (l_lit rfl rfl)) ?_
    refine sv rfl (v_fieldAddrF fo81_0 rfl) ?_
    refine sv rfl (v_loadF ty3 rfl (l_lit rfl rfl)) ?_
    refine sv rfl (v_idxF ty89 es89 rfl rfl (idx_lt hidx)) ?_
    refine sv rfl (v_loadF ty22 rfl (l_cell (eSl eFromLabelTo) hidx (o := 0) rfl rfl)) ?_
    refine sv rfl (v_lenF rfl rfl ty22 rfl) ?_
    refine sm rfl rfl ?_
    refine s_nil ?_
    refine b_nil (hK _ (AW.to (to_le (s' := ⟨[(0, SH g mk tb nx mw), (3, HV.fptr (cStateReadBadLeft p) 0), (7, HV.bool false), (34, slE eFromLabelTo l), (35, HV.int .i64 (l.length : Int)), (36, HV.int .i64 0)], (57015, mw, .kmap es) :: H0⟩) ⟨leS_get ⟨rfl, rfl, rfl, rfl, rfl, rfl, trivial⟩, fun _ _ h => h⟩ ?_)))
    clear hK K
    refine AW.block ?_
    refine AW.loopS (fun a : Nat × List (Value × Value) => ⟨[(0, SH g mk tb nx mw), (3, HV.fptr (cStateReadBadLeft p) 0), (7, HV.bool false), (34, slE eFromLabelTo l), (35, HV.int .i64 (l.length : Int)), (36, HV.int .i64 (a.1 : Int))], (57015, mw, .kmap a.2) :: H0⟩)
      (fun a => a.1 ≤ l.length ∧ MOk f okp a.2 ∧ ∀ x ∈ l.take a.1, f (stp p x) = false) (fun a => l.length - a.1) (0, es) (AS.le_refl _) ⟨Nat.zero_le _, hm, fun x hx => by cases hx⟩ ?_
    clear hno hm es
    rintro ⟨i, es⟩ ⟨hi, hm, hfalse⟩
    simp only at hi hm hfalse ⊢
    refine AW.rgs rfl fun K hK => ?_
    refine bv rfl (v_bin rfl rfl b_lss) ?_
    refine b_nil (hK _ (AW.to (to_le (s' := ⟨[(0, SH g mk tb nx mw), (3, HV.fptr (cStateReadBadLeft p) 0), (7, HV.bool false), (34, slE eFromLabelTo l), (35, HV.int .i64 (l.length : Int)), (36, HV.int .i64 (i : Int)), (37, HV.bool (decide ((i : Int) < (l.length : Int))))], (57015, mw, .kmap es) :: H0⟩) ⟨leS_get ⟨rfl, rfl, rfl, rfl, rfl, rfl, rfl, trivial⟩, fun _ _ h => h⟩ ?_)))
    clear hK K
    refine AW.cseq rfl (fun hc => ?_) (fun hc => ?_)
    · have hc := of_decide_eq_true hc
      have hil : i < l.length := by omega
      have hx : idx l (i : Int) = some l[i] := by rw [idx_nat, List.getElem?_eq_getElem hil]
      obtain ⟨hst, hok2, hlf⟩ := hlx l[i] (List.getElem_mem hil)
      have htk : ∀ x, x ∈ l.take (i + 1) → x ∈ l.take i ∨ x = l[i] := fun x hx => by
        rw [← List.take_append_getElem hil] at hx
        rcases List.mem_append.1 hx with h | h
        · exact .inl h
        · exact .inr (List.mem_singleton.1 h)
      have hmem := List.getElem_mem hil
      generalize l[i] = e at hx hst hok2 hlf htk hmem
      refine AW.skip ?_
      refine AW.seq (AW.block ?_)
      refine AW.rgs rfl fun K hK => ?_
      refine bv rfl (v_idxF ty22 es22 rfl rfl (idx_lt hx)) ?_
      refine bv rfl (v_loadF ty44 rfl (l_agg eFromLabelTo hx rfl rfl)) ?_
      refine b_op rfl (o_alloc (fid := 58) (zs := [HV.int .i64 0, HV.int .i64 0, HV.int .i64 0]) 58009 rfl rfl ty44 rfl (fun v9 => ?_))
      refine b_op rfl (o_store (cs := [HV.int .i64 e.1, HV.int .i64 e.2.1, HV.int .i64 e.2.2]) (zs := [HV.int .i64 e.1, HV.int .i64 e.2.1, HV.int .i64 e.2.2]) rfl rfl rfl ty44 rfl rfl rfl rfl rfl ?_)
      refine b_nil (hK _ (AW.to (to_le (s' := ⟨[(0, SH g mk tb nx mw), (3, HV.fptr (cStateReadBadLeft p) 0), (7, HV.bool false), (34, slE eFromLabelTo l), (35, HV.int .i64 (l.length : Int)), (36, HV.int .i64 (i : Int)), (9, HV.ptr 58009 v9 0)], (58009, v9, .arr 3 44 [HV.int .i64 e.1, HV.int .i64 e.2.1, HV.int .i64 e.2.2]) :: (57015, mw, .kmap es) :: H0⟩) ⟨leS_get ⟨rfl, rfl, rfl, rfl, rfl, rfl, rfl, trivial⟩, le_shadow⟩ ?_)))
      clear hK K
      refine AW.rgs rfl fun K hK => ?_
      refine mv rfl rfl ?_
      refine mv rfl rfl ?_
      refine bv rfl (v_loadF ty81 rfl (l_litA rfl (Nat.le_of_ble_eq_true rfl) rfl)) ?_
      refine bv rfl (v_loadP ty44 rfl rfl (l_litA rfl (Nat.le_of_ble_eq_true rfl) rfl)) ?_
      refine b_op rfl (o_call rfl rfl rfl rfl (ACallD.pure0 (w_syncmark_search_step hst)) ?_)
      refine b_to (to_le (s' := ⟨[(0, SH g mk tb nx mw), (3, HV.fptr (cStateReadBadLeft p) 0), (7, HV.bool false), (34, slE eFromLabelTo l), (35, HV.int .i64 (l.length : Int)), (36, HV.int .i64 (i : Int)), (40, SH g mk tb nx mw), (44, plcH (stp p e))], (57015, mw, .kmap es) :: H0⟩) ⟨leS_get ⟨rfl, rfl, rfl, rfl, rfl, rfl, rfl, rfl, trivial⟩, can_drop h9⟩ ?_)
      refine b_op rfl (o_callA rfl rfl rfl rfl ((ih (stp p e).2.2.2.toNat (by omega) (stp p e) es H0 hok2 rfl hm hni h9).mono fun r H' he => ?_))
      obtain ⟨rfl, es2, hm2, hle⟩ := he
      refine b_nil (hK _ (AW.to (to_le (s' := ⟨[(0, SH g mk tb nx mw), (3, HV.fptr (cStateReadBadLeft p) 0), (7, HV.bool false), (34, slE eFromLabelTo l), (35, HV.int .i64 (l.length : Int)), (36, HV.int .i64 (i : Int)), (45, HV.bool (f (stp p e)))], (57015, mw, .kmap es2) :: H0⟩) ⟨leS_get ⟨rfl, rfl, rfl, rfl, rfl, rfl, rfl, trivial⟩, hle⟩ ?_)))
      clear hK K
      refine AW.cond rfl (fun hc => ?_) (fun hc => ?_)
      · have hf : f p = true := by
          rw [hfl]
          exact List.any_eq_true.2 ⟨e, hmem, hc⟩
        refine AW.rgs rfl fun K hK => ?_
        refine mv rfl rfl ?_
        refine b_nil (hK _ (AW.to (to_le (s' := ⟨[(0, SH g mk tb nx mw), (3, HV.fptr (cStateReadBadLeft p) 0), (7, HV.bool true)], (57015, mw, .kmap es2) :: H0⟩) ⟨leS_get ⟨rfl, rfl, rfl, trivial⟩, fun _ _ h => h⟩ ?_)))
        clear hK K
        refine AW.exit ?_
        exact ⟨rfl, es2, hm2, by rw [hf]; exact AS.le_refl _⟩
      · have hnxt : IntKind.wrap .i64 ((i : Int) + 1) = ((i + 1 : Nat) : Int) := by rw [w64 (by omega) (by omega)]; omega
        refine AW.skip ?_
        refine AW.rg rfl fun K hK => ?_
        refine bv rfl (v_bin rfl rfl b_add) ?_
        refine mv rfl rfl ?_
        refine b_nil (hK _ ?_)
        clear hK K
        refine ⟨(i + 1, es2), ⟨by simp only; omega, hm2, fun x hx => ?_⟩, by simp only; omega, ⟨leS_get ⟨rfl, rfl, rfl, rfl, rfl, by rw [← hnxt]; rfl, trivial⟩, fun _ _ h => h⟩⟩
        rcases htk x hx with h1 | rfl
        · exact hfalse x h1
        · exact hc
    have hc := of_decide_eq_false hc
    have hie : i = l.length := by omega
    subst hie
    have hf : f p = false := by
      rw [hfl, List.any_eq_false]
      intro x hx
      rw [List.take_length] at hfalse
      rw [hfalse x hx]
      decide
    refine AW.exit ?_
    refine ⟨rfl, es, hm, ?_⟩
    rw [hf]
    exact ⟨leS_get ⟨rfl, rfl, rfl, trivial⟩, fun _ _ h => h⟩
end
end Go.AW

/- Lists of rows that are owned, of any elements. -/
namespace Go.AW
open Go
section
variable {α : Type} {en : EncL α} {et : TypeId}
abbrev RwsE (α : Type) := List (Nat × List α)
theorem E_nil : en.E [] = [] := by rw [en.hE]; rfl
def rowsOE (en : EncL α) (et : TypeId) : Nat → RwsE α → Heap
  | _, [] => []
  | k, (v, l) :: t => (rid k, v, .arr en.k et (en.E l)) :: rowsOE en et (k + 1) t
def hdrE (en : EncL α) : Nat → RwsE α → List HV
  | _, [] => []
  | k, (v, l) :: t => .ar (rid k) v en.k 0 l.length :: hdrE en (k + 1) t
theorem hdr_lenE : ∀ (k : Nat) (rs : RwsE α), (hdrE en k rs).length = rs.length
  | _, [] => rfl
  | k, (v, l) :: t => by simp [hdrE, hdr_lenE (k + 1) t]
theorem hdr_appE : ∀ (k : Nat) (rs : RwsE α) (v : Nat) (l : List α), hdrE en k (rs ++ [(v, l)]) = hdrE en k rs ++ [.ar (rid (k + rs.length)) v en.k 0 l.length]
  | _, [], _, _ => rfl
  | k, (v, l) :: t, v', l' => by
    simp only [List.cons_append, hdrE, hdr_appE (k + 1) t v' l', List.length_cons]
    rw [show k + 1 + t.length = k + (t.length + 1) by omega]
theorem hdr_getE : ∀ {rs : RwsE α} (k : Nat) {i v : Nat} {l : List α}, rs[i]? = some (v, l) → (hdrE en k rs)[i]? = some (.ar (rid (k + i)) v en.k 0 l.length)
  | [], _, i, _, _, h => by simp at h
  | (v, l) :: t, k, 0, _, _, h => by
    simp at h
    obtain ⟨rfl, rfl⟩ := h
    simp [hdrE]
  | (v, l) :: t, k, i + 1, _, _, h => by
    simp only [List.getElem?_cons_succ] at h
    have := hdr_getE (k + 1) h
    simp only [hdrE, List.getElem?_cons_succ, this]
    rw [show k + 1 + i = k + (i + 1) by omega]
theorem hget_rowsE : ∀ {rs : RwsE α} (k : Nat) {i v : Nat} {l : List α}, rs[i]? = some (v, l) → hget (rowsOE en et k rs) (rid (k + i)) = some (v, .arr en.k et (en.E l))
  | [], _, i, _, _, h => by simp at h
  | (v, l) :: t, k, 0, _, _, h => by
    simp at h
    obtain ⟨rfl, rfl⟩ := h
    exact hget_hd
  | (v, l) :: t, k, i + 1, _, _, h => by
    simp only [List.getElem?_cons_succ] at h
    have := hget_rowsE (k + 1) h
    show hget ((rid k, v, _) :: rowsOE en et (k + 1) t) (rid (k + (i + 1))) = _
    rw [hget_tl (fun e => by have := rid_inj e; omega), ← this, show k + 1 + i = k + (i + 1) by omega]
theorem hget_rows_noE : ∀ (rs : RwsE α) (k : Nat) {id : Nat}, (∀ i, i < rs.length → id ≠ rid (k + i)) → hget (rowsOE en et k rs) id = none
  | [], _, _, _ => rfl
  | (v, l) :: t, k, id, h => by
    show hget ((rid k, v, _) :: rowsOE en et (k + 1) t) id = none
    rw [hget_tl (show id ≠ rid k from h 0 (by simp))]
    exact hget_rows_noE t (k + 1) fun i hi => by
      have := h (i + 1) (by simp; omega)
      rwa [show k + (i + 1) = k + 1 + i by omega] at this
theorem leH_rowsE {H : Heap} : ∀ (rs : RwsE α) (k : Nat), (∀ i v l, rs[i]? = some (v, l) → hget H (rid (k + i)) = some (v, .arr en.k et (en.E l))) → leH H (rowsOE en et k rs)
  | [], _, _ => trivial
  | (v, l) :: t, k, h => ⟨h 0 v l rfl, leH_rowsE t (k + 1) fun i v' l' hi => by
    have := h (i + 1) v' l' (by simpa using hi)
    rwa [show k + (i + 1) = k + 1 + i by omega] at this⟩
theorem rows_leE {rs : RwsE α} {v : Nat} {l : List α} {H : Heap} (hH : ∀ i, hget H (rid i) = none) : ∀ id x, hget (rowsOE en et 0 (rs ++ [(v, l)])) id = some x → hget ((rid rs.length, v, .arr en.k et (en.E l)) :: (H ++ rowsOE en et 0 rs)) id = some x := by
  refine leH_get (leH_rowsE _ 0 fun i v' l' hi => ?_)
  have happ : ∀ (A B : Heap) (id : Nat), hget A id = none → hget (A ++ B) id = hget B id := by
    intro A B id
    induction A with
    | nil => intro _; rfl
    | cons a A ih =>
      obtain ⟨j, u, o⟩ := a
      intro h
      by_cases e : id = j
      · subst e; rw [hget_hd] at h; cases h
      · rw [hget_tl e] at h
        rw [List.cons_append, hget_tl e]
        exact ih h
  rw [Nat.zero_add]
  by_cases hlt : i < rs.length
  · rw [List.getElem?_append_left hlt] at hi
    rw [hget_tl (fun e => by have := rid_inj e; omega), happ _ _ _ (hH i)]
    have := hget_rowsE (en := en) (et := et) 0 hi
    rwa [Nat.zero_add] at this
  · have hi2 : i = rs.length := by
      have := (List.getElem?_eq_some_iff.1 hi).1
      simp at this
      omega
    subst hi2
    simp at hi
    obtain ⟨rfl, rfl⟩ := hi
    exact hget_hd
theorem hdr_setE : ∀ (rs : RwsE α) (k i v : Nat) (l : List α), hdrE en k (rs.set i (v, l)) = (hdrE en k rs).set i (.ar (rid (k + i)) v en.k 0 l.length)
  | [], _, _, _, _ => rfl
  | (u, m) :: t, k, 0, v, l => rfl
  | (u, m) :: t, k, i + 1, v, l => by
    simp only [List.set_cons_succ, hdrE, hdr_setE t (k + 1) i v l]
    rw [show k + 1 + i = k + (i + 1) by omega]
theorem rows_putE {rs : RwsE α} {i v v' : Nat} {l l' : List α} (h : rs[i]? = some (v, l)) : ∀ id x, hget (rowsOE en et 0 (rs.set i (v', l'))) id = some x → hget ((rid i, v', .arr en.k et (en.E l')) :: rowsOE en et 0 rs) id = some x := by
  refine leH_get (leH_rowsE _ 0 fun j w m hm => ?_)
  rw [Nat.zero_add]
  by_cases e : i = j
  · subst e
    have hi := (List.getElem?_eq_some_iff.1 h).1
    rw [List.getElem?_set_self hi] at hm
    cases hm
    exact hget_hd
  · rw [List.getElem?_set_ne e] at hm
    rw [hget_tl (fun x => e (rid_inj x).symm)]
    have := hget_rowsE (en := en) (et := et) 0 hm
    rwa [Nat.zero_add] at this
theorem to_rowsE {s : AS} {G : AS → Prop} (oid ov : Nat) (e' : TypeId) (H : Heap) (n : Nat) (hoid : ∀ i, oid ≠ rid i) (hH : ∀ i, hget H (rid i) = none) (ho : hget H oid = none) :
    ∀ (m : Nat) (rs : RwsE α), rs.length + m = n → (∀ (i v : Nat) (l : List α), rs[i]? = some (v, l) → l = []) → (∀ id x, hget ((oid, ov, .arr 1 e' (hdrE en 0 rs ++ List.replicate m (.v (.slice none 0 0)))) :: (H ++ rowsOE en et 0 rs)) id = some x → hget s.heap id = some x) →
      (∀ rs : RwsE α, rs.length = n → (∀ (i v : Nat) (l : List α), rs[i]? = some (v, l) → l = []) → G ⟨s.slots, (oid, ov, .arr 1 e' (hdrE en 0 rs)) :: (H ++ rowsOE en et 0 rs)⟩) → s.to G
  | 0, rs, hn, hl, hs, h => by
    refine to_le (s' := ⟨s.slots, (oid, ov, .arr 1 e' (hdrE en 0 rs)) :: (H ++ rowsOE en et 0 rs)⟩) ⟨fun _ _ h => h, fun id x hx => hs id x ?_⟩ (h rs (by omega) hl)
    simpa using hx
  | m + 1, rs, hn, hl, hs, h => by
    have hc : (hdrE en 0 rs ++ List.replicate (m + 1) (HV.v (.slice none 0 0)))[rs.length]? = some (.v (.slice none 0 0)) := by
      rw [List.getElem?_append_right (by rw [hdr_lenE]; omega), hdr_lenE, Nat.sub_self]
      rfl
    refine to_bind (to_ownC (rid rs.length) oid ov 1 rs.length en.k et e' (hs _ _ hget_hd) hc (hoid _) fun ver => ?_)
    have happ : ∀ (A B : Heap) (id : Nat), hget A id = none → hget (A ++ B) id = hget B id := by
      intro A B id
      induction A with
      | nil => intro _; rfl
      | cons a A ih =>
        obtain ⟨j, u, o⟩ := a
        intro h
        by_cases e : id = j
        · subst e; rw [hget_hd] at h; cases h
        · rw [hget_tl e] at h
          rw [List.cons_append, hget_tl e]
          exact ih h
    refine to_bind (to_le (s' := ⟨s.slots, (oid, ov, .arr 1 e' (hdrE en 0 (rs ++ [(ver, [])]) ++ List.replicate m (.v (.slice none 0 0)))) :: (H ++ rowsOE en et 0 (rs ++ [(ver, [])]))⟩) ⟨fun _ _ h => h, fun id x hx => ?_⟩ ?_)
    · have ecell : (hdrE en 0 rs ++ List.replicate (m + 1) (HV.v (.slice none 0 0))).set rs.length (.ar (rid rs.length) ver en.k 0 0) = hdrE en 0 (rs ++ [(ver, [])]) ++ List.replicate m (.v (.slice none 0 0)) := by
        rw [hdr_appE, Nat.zero_add, List.set_append_right _ _ (by rw [hdr_lenE]; omega), hdr_lenE, Nat.sub_self, List.replicate_succ, List.set_cons_zero, List.append_assoc]
        rfl
      by_cases e1 : id = oid
      · subst e1
        rw [hget_hd] at hx
        rw [hget_tl (hoid _), hget_hd, ecell]
        exact hx
      · rw [hget_tl e1] at hx
        by_cases e2 : id = rid rs.length
        · subst e2
          rw [happ _ _ _ (hH _)] at hx
          have := hget_rowsE (en := en) (et := et) (rs := rs ++ [(ver, [])]) 0 (i := rs.length) (v := ver) (l := []) (by simp)
          rw [Nat.zero_add] at this
          rw [this, E_nil] at hx
          rw [hget_hd]
          exact hx
        · rw [hget_tl e2, hget_tl e1]
          refine hs id x ?_
          rw [hget_tl e1]
          -- not among the new rows
          by_cases e3 : ∃ y, hget H id = some y
          · obtain ⟨y, hy⟩ := e3
            have hk : ∀ (A B : Heap), hget A id = some y → hget (A ++ B) id = some y := by
              intro A B
              induction A with
              | nil => intro h; cases h
              | cons a A ih =>
                obtain ⟨j, u, o⟩ := a
                intro h
                by_cases e : id = j
                · subst e; rw [hget_hd] at h; rw [List.cons_append, hget_hd]; exact h
                · rw [hget_tl e] at h
                  rw [List.cons_append, hget_tl e]
                  exact ih h
            rw [hk _ _ hy] at hx ⊢
            exact hx
          · have hno : hget H id = none := by
              cases hh : hget H id with
              | none => rfl
              | some y => exact absurd ⟨y, hh⟩ e3
            rw [happ _ _ _ hno] at hx ⊢
            have := rows_leE (en := en) (et := et) (rs := rs) (v := ver) (l := []) (H := []) (fun _ => rfl) id x hx
            rw [hget_tl e2] at this
            exact this
    · refine to_rowsE oid ov e' H n hoid hH ho m (rs ++ [(ver, [])]) (by simp; omega) (fun i v l hi => ?_) (fun id x hx => hx) h
      by_cases hlt : i < rs.length
      · rw [List.getElem?_append_left hlt] at hi
        exact hl i v l hi
      · have hi2 := (List.getElem?_eq_some_iff.1 hi).1
        simp at hi2
        have : i = rs.length := by omega
        subst this
        simp at hi
        first | exact hi.2 | exact hi.2.symm
structure InvG (b np sp : Nat) (base : List (Nat × HV)) (val : Nat → Nat → HV) (H0 : Heap) (H1 : Nat → Heap) (v' : Nat) (L : List Nat) (s : AS) : Prop where
  base : ∀ p ∈ base, sget s.slots p.1 = some p.2
  val : ∀ k ∈ L, k < np → sget s.slots (b + k) = some (val v' k)
  heap : ∀ id x, hget (if sp ∈ L then H1 v' else H0) id = some x → hget s.heap id = some x
theorem sget_putB {b i : Nat} {hv : HV} {sl : List (Nat × HV)} {t : Nat} (h : t ≠ b + i) : sget ((b + i, hv) :: sl) t = sget sl t := by simp only [sget]; rw [if_neg h]
theorem InvG.put {b np sp : Nat} {base : List (Nat × HV)} {val : Nat → Nat → HV} {H0 : Heap} {H1 : Nat → Heap} {v' : Nat} {L : List Nat} {sl : List (Nat × HV)} {H : Heap} (h : InvG b np sp base val H0 H1 v' L ⟨sl, H⟩) (hb : ∀ p ∈ base, p.1 < b) {i : Nat} (hi : i ≠ sp) {hv : HV} (hval : val v' i = hv) : InvG b np sp base val H0 H1 v' (i :: L) ⟨(b + i, hv) :: sl, H⟩ where
  base := fun p hp => by
    have := hb p hp
    show sget ((b + i, hv) :: sl) p.1 = _
    rw [sget_putB (by omega)]
    exact h.base p hp
  val := fun k hk h12 => by
    show sget ((b + i, hv) :: sl) (b + k) = _
    by_cases e : k = i
    · subst e
      simp only [sget, if_true, hval]
    · rw [sget_putB (by omega)]
      rcases List.mem_cons.1 hk with h1 | h1
      · exact absurd h1 e
      · exact h.val k h1 h12
  heap := fun id x hx => by
    refine h.heap id x ?_
    have : (sp ∈ i :: L) ↔ sp ∈ L := by
      rw [List.mem_cons]
      exact ⟨fun h => h.elim (fun e => absurd e.symm hi) (fun h => h), .inr⟩
    by_cases h11 : sp ∈ L
    · rw [if_pos (this.2 h11)] at hx
      rw [if_pos h11]; exact hx
    · rw [if_neg (fun h => h11 (this.1 h))] at hx
      rw [if_neg h11]; exact hx
theorem InvG.turn {b np sp : Nat} {base : List (Nat × HV)} {val : Nat → Nat → HV} {H0 : Heap} {H1 : Nat → Heap} {v' v2 : Nat} {L : List Nat} {sl : List (Nat × HV)} {H H2 : Heap} (h : InvG b np sp base val H0 H1 v' L ⟨sl, H⟩) (hb : ∀ p ∈ base, p.1 < b) (hsp : sp ∉ L) (hsame : ∀ k, k ≠ sp → val v2 k = val v' k)
    (hH : ∀ id x, hget (H1 v2) id = some x → hget H2 id = some x) : InvG b np sp base val H0 H1 v2 (sp :: L) ⟨(b + sp, val v2 sp) :: sl, H2⟩ where
  base := fun p hp => by
    have := hb p hp
    show sget ((b + sp, _) :: sl) p.1 = _
    rw [sget_putB (by omega)]
    exact h.base p hp
  val := fun k hk h12 => by
    show sget ((b + sp, _) :: sl) (b + k) = _
    by_cases e : k = sp
    · subst e
      simp only [sget, if_true]
    · rw [sget_putB (by omega), hsame k e]
      rcases List.mem_cons.1 hk with h1 | h1
      · exact absurd h1 e
      · exact h.val k h1 h12
  heap := fun id x hx => by
    rw [if_pos (List.mem_cons_self ..)] at hx
    exact hH id x hx
theorem all_range {p n : Nat} {L : List Nat} (hall : ∀ k, k < p ↔ k ∈ L) : (List.range n).all (fun i => L.contains i == (List.range p).contains i) = true := by
  rw [List.all_eq_true]
  intro i _
  have e : L.contains i = (List.range p).contains i := by
    rw [Bool.eq_iff_iff, List.contains_iff_mem, List.contains_iff_mem, List.mem_range]
    exact (hall i).symm
  rw [e]
  simp
theorem frz_rowsN {n : Nat} {D : Heap} : ∀ {rs : RwsE α} {k : Nat}, (∀ i v l, rs[i]? = some (v, l) → hget D (rid (k + i)) = some (v, .arr en.k et (en.E l))) → (hz : ∀ x, (en.C x).map (frz n D) = en.C x) → (hdrE en k rs).map (frz (n + 1) D) = (rs.map (·.2)).map (slE en)
  | [], _, _, _ => rfl
  | (v, l) :: t, k, h, hz => by
    simp only [hdrE, List.map_cons]
    rw [frz_rowsN (rs := t) (k := k + 1) (fun i v' l' hi => by
      have := h (i + 1) v' l' (by simpa using hi)
      rwa [show k + (i + 1) = k + 1 + i by omega] at this) hz]
    congr 1
    have h0 := h 0 v l rfl
    rw [Nat.add_zero] at h0
    have hm : (en.E l).map (frz n D) = en.E l := by
      rw [en.hE, List.map_flatMap]
      congr 1
      funext x
      exact hz x
    have hlen : (en.E l).length = l.length * en.k := en.len l
    simp only [frz, h0]
    rw [if_pos ⟨trivial, by omega⟩, List.drop_zero, ← hlen, List.take_length, hm]
    rfl
theorem noneH_rows {H : Heap} : ∀ {rs : RwsE α} {k : Nat}, (∀ i, i < rs.length → hget H (rid (k + i)) = none) → noneH H (rowsOE en et k rs)
  | [], _, _ => trivial
  | (v, l) :: t, k, h => ⟨h 0 (by simp), noneH_rows fun i hi => by
    have := h (i + 1) (by simp; omega)
    rwa [show k + (i + 1) = k + 1 + i by omega] at this⟩
end
end Go.AW
