/- DistanceFree: for every input the law's function returns true, and the input reads as it did. -/
import Derived.Test.YtbfbjlehdhedcaaFr4
import Derived.ChangeMaps5
import Derived.OpenShut
import Derived.ProofKit
import Derived.SliceStrings
import Derived.Test.YtbfbjlehdhedcaaRows
import Derived.WalkKit
import Derived.WideKeyArgs
namespace Go.AW
open Go Go.Proofs
set_option linter.unusedVariables false
set_option maxHeartbeats 1600000 in
set_option maxRecDepth 100000 in
theorem w_law46_DistanceFree_1_1 {p0 : TToWord} {r : Bool} (h : m_law46_DistanceFree_1_1 p0 = some r) : Pure Try.prog 17 [HV.agg [HV.int .i64 p0.1, HV.str p0.2]] (· = HV.bool r) := by
 unfold m_law46_DistanceFree_1_1 at h
 refine Pure.of_body Try.func17 rfl rfl (Nat.le_of_ble_eq_true rfl) fun hf => ?_
 unfold Try.f17
 dsimp only [enumS, Nat.reduceAdd]
 refine AW.rgs rfl fun K hK => ?_
 refine b_op rfl (o_box rfl rfl rfl ?_)
 refine mv rfl rfl ?_
 refine b_fin hK (s' := ⟨[(1, HV.fptr [HV.int .i64 p0.1, HV.str p0.2] 0)], []⟩) (le_q rfl rfl) ?_
 clear hK K
 refine AW.rgs rfl fun K hK => ?_
 refine bv rfl (v_fieldAddrF fo45_1 rfl) ?_
 refine bv rfl (v_loadF ty9 rfl (l_lit rfl rfl)) ?_
 refine bv rfl (v_lenS rfl rfl ty9 rfl) ?_
 refine bv rfl (v_bin rfl rfl b_gtr) ?_
 refine mv rfl rfl ?_
 refine b_fin hK (s' := ⟨[(2, HV.bool (decide (20 < ((p0.2).length : Int))))], []⟩) (le_q rfl rfl) ?_
 clear hK K
 refine AW.ret ?_
 have h := Option.some.inj h
 subst h
 exact ret_pure (hs := [HV.bool (decide (20 < ((p0.2).length : Int)))]) (q := HV.bool (decide (20 < ((p0.2).length : Int)))) (.inr rfl) (resT rfl rfl) rfl trivial
set_option maxHeartbeats 1600000 in
set_option maxRecDepth 100000 in
theorem w_slices_IndexFunc_Lapi_Cell_api_Cell {p0 : List (TToWord)} {p1 : TToWord → Option (Bool)} {g1 : FuncId} {z1 : List HV} {r : Int} (h : m_slices_IndexFunc_Lapi_Cell_api_Cell p0 p1 = some r) (hf1 : ∀ a0 b, p1 a0 = some b → Pure Try.prog g1 ([HV.agg [HV.int .i64 a0.1, HV.str a0.2]] ++ z1) (· = HV.bool b)) : Pure Try.prog 41 [slE eToWord p0, HV.fn (.func g1) [] z1] (· = HV.int .i64 r) := by
 unfold m_slices_IndexFunc_Lapi_Cell_api_Cell at h
 refine Pure.of_body Try.func41 rfl rfl (Nat.le_of_ble_eq_true rfl) fun hf => ?_
 unfold Try.f41
 dsimp only [enumS, Nat.reduceAdd]
 refine AW.rgs rfl fun K hK => ?_
 refine mv rfl rfl ?_
 refine b_fin hK (s' := ⟨[(0, slE eToWord p0), (1, HV.fn (.func g1) [] z1)], []⟩) (le_q rfl rfl) ?_
 clear hK K
 refine AW.seq ?_
 refine AW.rgs rfl fun K hK => ?_
 refine mv rfl rfl ?_
 refine bv rfl (v_lenF rfl rfl ty42 rfl) ?_
 refine mv rfl rfl ?_
 refine b_fin hK (s' := ⟨[(0, slE eToWord p0), (1, HV.fn (.func g1) [] z1), (7, HV.int .i64 ((p0).length : Int)), (8, HV.int .i64 0)], []⟩) (le_q rfl rfl) ?_
 clear hK K
 refine AW.lpR h (by first | exact up_then | exact up_to) (S := Int) (V := Unit) (fun a v => ⟨[(0, slE eToWord p0), (1, HV.fn (.func g1) [] z1), (7, HV.int .i64 ((p0).length : Int)), (8, HV.int .i64 a)], []⟩) ?_ (X := Unit) (W := Unit) (fun a v => ⟨[], []⟩) (fun a9 w10 h => ?_) (fun a1 w2 st3 h hr4=> ?_)
 ·exact to_le (s' := ⟨[(0, slE eToWord p0), (1, HV.fn (.func g1) [] z1), (7, HV.int .i64 ((p0).length : Int)), (8, HV.int .i64 0)], []⟩) (AS.le_of ⟨rfl, rfl, rfl, rfl, trivial⟩ trivial) ⟨(), rfl⟩
 ·refine AW.rgs rfl fun K hK => ?_
  refine mv rfl rfl ?_
  refine b_fin hK (s' := ⟨[(4, HV.int .i64 (-1))], []⟩) (le_q rfl rfl) ?_
  clear hK K
  refine AW.ret ?_
  have h := Option.some.inj h
  subst h
  exact ret_pure (hs := [HV.int .i64 (-1)]) (q := HV.int .i64 (-1)) (.inr rfl) (resT rfl rfl) rfl trivial
 refine AW.rgs rfl fun K hK => ?_
 refine bv rfl (v_bin rfl rfl b_lss) ?_
 refine b_fin hK (s' := ⟨[(0, slE eToWord p0), (1, HV.fn (.func g1) [] z1), (7, HV.int .i64 ((p0).length : Int)), (8, HV.int .i64 a1), (9, HV.bool (decide (a1 < ((p0).length : Int))))], []⟩) (le_q rfl rfl) ?_
 clear hK K
 refine AW.cseq rfl (fun hc => ?_) (fun hc => ?_)
 ·have hc := of_decide_eq_true hc
  have h := ifT hc h
  refine AW.skip ?_
  refine AW.seq (AW.block ?_)
  refine AW.rgs rfl fun K hK => ?_
  refine mv rfl rfl ?_
  refine mv rfl rfl ?_
  refine b_fin hK (s' := ⟨[(0, slE eToWord p0), (1, HV.fn (.func g1) [] z1), (5, HV.int .i64 a1), (7, HV.int .i64 ((p0).length : Int)), (8, HV.int .i64 a1)], []⟩) (le_q rfl rfl) ?_
  clear hK K
  refine AW.rgs rfl fun K hK => ?_
  refine mv rfl rfl ?_
  refine mv rfl rfl ?_
  refine mv rfl rfl ?_
  obtain ⟨x5, h6, h⟩ := bS h
  refine bv rfl (v_idxF ty42 es42 rfl rfl (idx_lt h6)) ?_
  refine bv rfl (v_loadF ty45 rfl (l_agg eToWord h6 rfl rfl)) ?_
  obtain ⟨x7, h8, h⟩ := bS h
  refine b_op rfl (o_call rfl rfl rfl rfl (ACallD.pure0 (hf1 _ _ h8)) ?_)
  refine b_fin hK (s' := ⟨[(0, slE eToWord p0), (1, HV.fn (.func g1) [] z1), (5, HV.int .i64 a1), (7, HV.int .i64 ((p0).length : Int)), (8, HV.int .i64 a1), (16, HV.bool x7)], []⟩) (le_q rfl rfl) ?_
  clear hK K
  refine AW.cond rfl (fun hc => ?_) (fun hc => ?_)
  ·have h := ifT hc h
   refine AW.rgs rfl fun K hK => ?_
   refine mv rfl rfl ?_
   refine mv rfl rfl ?_
   refine b_fin hK (s' := ⟨[(4, HV.int .i64 a1)], []⟩) (le_q rfl rfl) ?_
   clear hK K
   have h := hr4 _ h
   refine AW.ret ?_
   have h := Option.some.inj h
   subst h
   exact ret_pure (hs := [HV.int .i64 a1]) (q := HV.int .i64 a1) (.inr rfl) (resT rfl rfl) rfl trivial
  have h := ifF (bF' hc) h
  refine AW.skip ?_
  refine AW.rg rfl fun K hK => ?_
  refine bv rfl (v_bin rfl rfl b_add) ?_
  refine mv rfl rfl ?_
  refine b_nil (hK _ ?_)
  clear hK K
  exact to_le (s' := ⟨[(0, slE eToWord p0), (1, HV.fn (.func g1) [] z1), (7, HV.int .i64 ((p0).length : Int)), (8, HV.int .i64 (IntKind.wrap .i64 (a1 + 1)))], []⟩) (AS.le_of ⟨rfl, rfl, rfl, rfl, trivial⟩ trivial) ⟨IntKind.wrap .i64 (a1 + 1), (), h, rfl⟩
 have hc := of_decide_eq_false hc
 have h := ifF hc h
 refine AW.exit ?_
 exact to_le (s' := ⟨[], []⟩) (AS.le_of trivial trivial) ⟨(), (), h, rfl⟩
set_option maxHeartbeats 1600000 in
set_option maxRecDepth 100000 in
theorem w_slices_ContainsFunc_Lapi_Cell_api_Cell {p0 : List (TToWord)} {r : Bool} (h : m_slices_ContainsFunc_Lapi_Cell_api_Cell p0 = some r) : Pure Try.prog 16 [slE eToWord p0, HV.fn (.func 17) [] []] (· = HV.bool r) := by
 unfold m_slices_ContainsFunc_Lapi_Cell_api_Cell at h
 refine Pure.of_body Try.func16 rfl rfl (Nat.le_of_ble_eq_true rfl) fun hf => ?_
 unfold Try.f16
 dsimp only [enumS, Nat.reduceAdd]
 refine AW.rgs rfl fun K hK => ?_
 refine mv rfl rfl ?_
 refine b_fin hK (s' := ⟨[(0, slE eToWord p0), (1, HV.fn (.func 17) [] [])], []⟩) (le_q rfl rfl) ?_
 clear hK K
 refine AW.rgs rfl fun K hK => ?_
 refine mv rfl rfl ?_
 refine mv rfl rfl ?_
 obtain ⟨x1, h2, h⟩ := bS h
 refine b_op rfl (o_call rfl rfl rfl rfl (ACallD.pure0 (w_slices_IndexFunc_Lapi_Cell_api_Cell h2 (fun _ _ h => w_law46_DistanceFree_1_1 h))) ?_)
 refine bv rfl (v_bin rfl rfl b_geq) ?_
 refine mv rfl rfl ?_
 refine b_fin hK (s' := ⟨[(4, HV.bool (decide (0 ≤ x1)))], []⟩) (le_q rfl rfl) ?_
 clear hK K
 refine AW.ret ?_
 have h := Option.some.inj h
 subst h
 exact ret_pure (hs := [HV.bool (decide (0 ≤ x1))]) (q := HV.bool (decide (0 ≤ x1))) (.inr rfl) (resT rfl rfl) rfl trivial
set_option maxHeartbeats 1600000 in
set_option maxRecDepth 100000 in
theorem w_law46_DistanceFree_1 {p0 : List (TToWord)} {r : Bool} (h : m_law46_DistanceFree_1 p0 = some r) : Pure Try.prog 15 [slE eToWord p0] (· = HV.bool r) := by
 unfold m_law46_DistanceFree_1 at h
 refine Pure.of_body Try.func15 rfl rfl (Nat.le_of_ble_eq_true rfl) fun hf => ?_
 unfold Try.f15
 dsimp only [enumS, Nat.reduceAdd]
 refine AW.rgs rfl fun K hK => ?_
 refine mv rfl rfl ?_
 refine b_fin hK (s' := ⟨[(0, slE eToWord p0)], []⟩) (le_q rfl rfl) ?_
 clear hK K
 refine AW.seqJ h (S := Bool) (V := Unit) (fun a v => ⟨[(2, HV.bool a)], []⟩) (fun a1 w2 h => ?_) (fun k3 h => ?_)
 ·refine AW.ret ?_
  have h := Option.some.inj h
  subst h
  exact ret_pure (hs := [HV.bool a1]) (q := HV.bool a1) (.inr rfl) (resT rfl rfl) rfl trivial
 refine AW.rg rfl fun K hK => ?_
 refine mv rfl rfl ?_
 refine bv rfl (v_lenF rfl rfl ty42 rfl) ?_
 refine bv rfl (v_bin rfl rfl b_gtr) ?_
 refine mv rfl rfl ?_
 by_cases hg6 : 6 < ((p0).length : Int)
 ·have h := ifT hg6 h
  refine b_F rfl rfl rfl rfl rfl (decide_eq_true hg6) ?_
  refine b_F rfl rfl rfl rfl rfl rfl ?_
  refine bv rfl (v_pickT rfl rfl rfl) ?_
  refine mv rfl rfl ?_
  refine b_nil (hK _ ?_)
  clear hK K
  exact to_le (s' := ⟨[(2, HV.bool true)], []⟩) (AS.le_of ⟨rfl, trivial⟩ trivial) ⟨true, (), h, rfl⟩
 have h := ifF hg6 h
 refine b_T rfl rfl rfl rfl (decide_eq_false hg6) (o_val rfl (mv_val rfl rfl).2 ?_)
 obtain ⟨x4, h5, h⟩ := bS h
 refine b_T rfl rfl rfl rfl rfl (o_call rfl rfl rfl rfl (ACallD.pure0 (w_slices_ContainsFunc_Lapi_Cell_api_Cell h5)) ?_)
 refine bv rfl (v_pickF rfl rfl rfl) ?_
 refine mv rfl rfl ?_
 refine b_nil (hK _ ?_)
 clear hK K
 exact to_le (s' := ⟨[(2, HV.bool x4)], []⟩) (AS.le_of ⟨rfl, trivial⟩ trivial) ⟨x4, (), h, rfl⟩
set_option maxHeartbeats 1600000 in
set_option maxRecDepth 100000 in
theorem w_slices_IndexFunc_LLapi_Cell_Lapi_Cell {p0 : List (List (TToWord))} {p1 : (List (TToWord)) → Option (Bool)} {g1 : FuncId} {z1 : List HV} {r : Int} (h : m_slices_IndexFunc_LLapi_Cell_Lapi_Cell p0 p1 = some r) (hf1 : ∀ a0 b, p1 a0 = some b → Pure Try.prog g1 ([slE eToWord a0] ++ z1) (· = HV.bool b)) : Pure Try.prog 40 [slE (eSl eToWord) p0, HV.fn (.func g1) [] z1] (· = HV.int .i64 r) := by
 unfold m_slices_IndexFunc_LLapi_Cell_Lapi_Cell at h
 refine Pure.of_body Try.func40 rfl rfl (Nat.le_of_ble_eq_true rfl) fun hf => ?_
 unfold Try.f40
 dsimp only [enumS, Nat.reduceAdd]
 refine AW.rgs rfl fun K hK => ?_
 refine mv rfl rfl ?_
 refine b_fin hK (s' := ⟨[(0, slE (eSl eToWord) p0), (1, HV.fn (.func g1) [] z1)], []⟩) (le_q rfl rfl) ?_
 clear hK K
 refine AW.seq ?_
 refine AW.rgs rfl fun K hK => ?_
 refine mv rfl rfl ?_
 refine bv rfl (v_lenF rfl rfl ty38 rfl) ?_
 refine mv rfl rfl ?_
 refine b_fin hK (s' := ⟨[(0, slE (eSl eToWord) p0), (1, HV.fn (.func g1) [] z1), (7, HV.int .i64 ((p0).length : Int)), (8, HV.int .i64 0)], []⟩) (le_q rfl rfl) ?_
 clear hK K
 refine AW.lpR h (by first | exact up_then | exact up_to) (S := Int) (V := Unit) (fun a v => ⟨[(0, slE (eSl eToWord) p0), (1, HV.fn (.func g1) [] z1), (7, HV.int .i64 ((p0).length : Int)), (8, HV.int .i64 a)], []⟩) ?_ (X := Unit) (W := Unit) (fun a v => ⟨[], []⟩) (fun a9 w10 h => ?_) (fun a1 w2 st3 h hr4=> ?_)
 ·exact to_le (s' := ⟨[(0, slE (eSl eToWord) p0), (1, HV.fn (.func g1) [] z1), (7, HV.int .i64 ((p0).length : Int)), (8, HV.int .i64 0)], []⟩) (AS.le_of ⟨rfl, rfl, rfl, rfl, trivial⟩ trivial) ⟨(), rfl⟩
 ·refine AW.rgs rfl fun K hK => ?_
  refine mv rfl rfl ?_
  refine b_fin hK (s' := ⟨[(4, HV.int .i64 (-1))], []⟩) (le_q rfl rfl) ?_
  clear hK K
  refine AW.ret ?_
  have h := Option.some.inj h
  subst h
  exact ret_pure (hs := [HV.int .i64 (-1)]) (q := HV.int .i64 (-1)) (.inr rfl) (resT rfl rfl) rfl trivial
 refine AW.rgs rfl fun K hK => ?_
 refine bv rfl (v_bin rfl rfl b_lss) ?_
 refine b_fin hK (s' := ⟨[(0, slE (eSl eToWord) p0), (1, HV.fn (.func g1) [] z1), (7, HV.int .i64 ((p0).length : Int)), (8, HV.int .i64 a1), (9, HV.bool (decide (a1 < ((p0).length : Int))))], []⟩) (le_q rfl rfl) ?_
 clear hK K
 refine AW.cseq rfl (fun hc => ?_) (fun hc => ?_)
 ·have hc := of_decide_eq_true hc
  have h := ifT hc h
  refine AW.skip ?_
  refine AW.seq (AW.block ?_)
  refine AW.rgs rfl fun K hK => ?_
  refine mv rfl rfl ?_
  refine mv rfl rfl ?_
  refine b_fin hK (s' := ⟨[(0, slE (eSl eToWord) p0), (1, HV.fn (.func g1) [] z1), (5, HV.int .i64 a1), (7, HV.int .i64 ((p0).length : Int)), (8, HV.int .i64 a1)], []⟩) (le_q rfl rfl) ?_
  clear hK K
  refine AW.rgs rfl fun K hK => ?_
  refine mv rfl rfl ?_
  refine mv rfl rfl ?_
  refine mv rfl rfl ?_
  obtain ⟨x5, h6, h⟩ := bS h
  refine bv rfl (v_idxF ty38 es38 rfl rfl (idx_lt h6)) ?_
  refine bv rfl (v_loadF ty42 rfl (l_cell (eSl eToWord) h6 (o := 0) rfl rfl)) ?_
  obtain ⟨x7, h8, h⟩ := bS h
  refine b_op rfl (o_call rfl rfl rfl rfl (ACallD.pure0 (hf1 _ _ h8)) ?_)
  refine b_fin hK (s' := ⟨[(0, slE (eSl eToWord) p0), (1, HV.fn (.func g1) [] z1), (5, HV.int .i64 a1), (7, HV.int .i64 ((p0).length : Int)), (8, HV.int .i64 a1), (16, HV.bool x7)], []⟩) (le_q rfl rfl) ?_
  clear hK K
  refine AW.cond rfl (fun hc => ?_) (fun hc => ?_)
  ·have h := ifT hc h
   refine AW.rgs rfl fun K hK => ?_
   refine mv rfl rfl ?_
   refine mv rfl rfl ?_
   refine b_fin hK (s' := ⟨[(4, HV.int .i64 a1)], []⟩) (le_q rfl rfl) ?_
   clear hK K
   have h := hr4 _ h
   refine AW.ret ?_
   have h := Option.some.inj h
   subst h
   exact ret_pure (hs := [HV.int .i64 a1]) (q := HV.int .i64 a1) (.inr rfl) (resT rfl rfl) rfl trivial
  have h := ifF (bF' hc) h
  refine AW.skip ?_
  refine AW.rg rfl fun K hK => ?_
  refine bv rfl (v_bin rfl rfl b_add) ?_
  refine mv rfl rfl ?_
  refine b_nil (hK _ ?_)
  clear hK K
  exact to_le (s' := ⟨[(0, slE (eSl eToWord) p0), (1, HV.fn (.func g1) [] z1), (7, HV.int .i64 ((p0).length : Int)), (8, HV.int .i64 (IntKind.wrap .i64 (a1 + 1)))], []⟩) (AS.le_of ⟨rfl, rfl, rfl, rfl, trivial⟩ trivial) ⟨IntKind.wrap .i64 (a1 + 1), (), h, rfl⟩
 have hc := of_decide_eq_false hc
 have h := ifF hc h
 refine AW.exit ?_
 exact to_le (s' := ⟨[], []⟩) (AS.le_of trivial trivial) ⟨(), (), h, rfl⟩
set_option maxHeartbeats 1600000 in
set_option maxRecDepth 100000 in
theorem w_slices_ContainsFunc_LLapi_Cell_Lapi_Cell {p0 : List (List (TToWord))} {r : Bool} (h : m_slices_ContainsFunc_LLapi_Cell_Lapi_Cell p0 = some r) : Pure Try.prog 14 [slE (eSl eToWord) p0, HV.fn (.func 15) [] []] (· = HV.bool r) := by
 unfold m_slices_ContainsFunc_LLapi_Cell_Lapi_Cell at h
 refine Pure.of_body Try.func14 rfl rfl (Nat.le_of_ble_eq_true rfl) fun hf => ?_
 unfold Try.f14
 dsimp only [enumS, Nat.reduceAdd]
 refine AW.rgs rfl fun K hK => ?_
 refine mv rfl rfl ?_
 refine b_fin hK (s' := ⟨[(0, slE (eSl eToWord) p0), (1, HV.fn (.func 15) [] [])], []⟩) (le_q rfl rfl) ?_
 clear hK K
 refine AW.rgs rfl fun K hK => ?_
 refine mv rfl rfl ?_
 refine mv rfl rfl ?_
 obtain ⟨x1, h2, h⟩ := bS h
 refine b_op rfl (o_call rfl rfl rfl rfl (ACallD.pure0 (w_slices_IndexFunc_LLapi_Cell_Lapi_Cell h2 (fun _ _ h => w_law46_DistanceFree_1 h))) ?_)
 refine bv rfl (v_bin rfl rfl b_geq) ?_
 refine mv rfl rfl ?_
 refine b_fin hK (s' := ⟨[(4, HV.bool (decide (0 ≤ x1)))], []⟩) (le_q rfl rfl) ?_
 clear hK K
 refine AW.ret ?_
 have h := Option.some.inj h
 subst h
 exact ret_pure (hs := [HV.bool (decide (0 ≤ x1))]) (q := HV.bool (decide (0 ≤ x1))) (.inr rfl) (resT rfl rfl) rfl trivial
set_option maxHeartbeats 1600000 in
set_option maxRecDepth 100000 in
theorem w_ref07_Digit {p0 : Int} {r : Int} (h : m_ref07_Digit p0 = some r) : Pure Try.prog 75 [HV.int .u8 p0] (· = HV.int .i64 r) := by
 unfold m_ref07_Digit at h
 refine Pure.of_body Try.func75 rfl rfl (Nat.le_of_ble_eq_true rfl) fun hf => ?_
 unfold Try.f75
 dsimp only [enumS, Nat.reduceAdd]
 refine AW.rgs rfl fun K hK => ?_
 refine mv rfl rfl ?_
 refine b_fin hK (s' := ⟨[(0, HV.int .u8 p0)], []⟩) (le_q rfl rfl) ?_
 clear hK K
 refine AW.seq ?_
 refine AW.rgs rfl fun K hK => ?_
 refine mv rfl rfl ?_
 refine b_fin hK (s' := ⟨[(0, HV.int .u8 p0), (3, HV.int .i64 0)], []⟩) (le_q rfl rfl) ?_
 clear hK K
 refine AW.lpR h (by first | exact up_then | exact up_to) (S := Int) (V := Unit) (fun a v => ⟨[(0, HV.int .u8 p0), (3, HV.int .i64 a)], []⟩) ?_ (X := Unit) (W := Unit) (fun a v => ⟨[], []⟩) (fun a7 w8 h => ?_) (fun a1 w2 st3 h hr4=> ?_)
 ·exact to_le (s' := ⟨[(0, HV.int .u8 p0), (3, HV.int .i64 0)], []⟩) (AS.le_of ⟨rfl, rfl, trivial⟩ trivial) ⟨(), rfl⟩
 ·refine AW.rgs rfl fun K hK => ?_
  refine mv rfl rfl ?_
  refine b_fin hK (s' := ⟨[(2, HV.int .i64 (-1))], []⟩) (le_q rfl rfl) ?_
  clear hK K
  refine AW.ret ?_
  have h := Option.some.inj h
  subst h
  exact ret_pure (hs := [HV.int .i64 (-1)]) (q := HV.int .i64 (-1)) (.inr rfl) (resT rfl rfl) rfl trivial
 refine AW.seq ?_
 refine AW.rgs rfl fun K hK => ?_
 refine mv rfl rfl ?_
 refine bv rfl (v_bin rfl rfl b_lss) ?_
 refine b_fin hK (s' := ⟨[(0, HV.int .u8 p0), (3, HV.int .i64 a1), (5, HV.bool (decide (a1 < 16)))], []⟩) (le_q rfl rfl) ?_
 clear hK K
 refine AW.cond rfl (fun hc => ?_) (fun hc => ?_)
 ·have hc := of_decide_eq_true hc
  have h := ifT hc h
  refine AW.skip ?_
  refine AW.seq (AW.block ?_)
  refine AW.rgs rfl fun K hK => ?_
  refine mv rfl rfl ?_
  obtain ⟨x5, h6, h⟩ := bS h
  refine bv rfl (v_idxS ty9 rfl rfl h6) ?_
  refine mv rfl rfl ?_
  refine bv rfl (v_bin rfl rfl b_eql) ?_
  refine b_fin hK (s' := ⟨[(0, HV.int .u8 p0), (3, HV.int .i64 a1), (11, HV.bool (decide ((x5.toNat : Int) = p0)))], []⟩) (le_q rfl rfl) ?_
  clear hK K
  refine AW.cond rfl (fun hc => ?_) (fun hc => ?_)
  ·have hc := of_decide_eq_true hc
   have h := ifT hc h
   refine AW.rgs rfl fun K hK => ?_
   refine mv rfl rfl ?_
   refine mv rfl rfl ?_
   refine b_fin hK (s' := ⟨[(2, HV.int .i64 a1)], []⟩) (le_q rfl rfl) ?_
   clear hK K
   have h := hr4 _ h
   refine AW.ret ?_
   have h := Option.some.inj h
   subst h
   exact ret_pure (hs := [HV.int .i64 a1]) (q := HV.int .i64 a1) (.inr rfl) (resT rfl rfl) rfl trivial
  have hc := of_decide_eq_false hc
  have h := ifF hc h
  refine AW.skip ?_
  refine AW.rg rfl fun K hK => ?_
  refine mv rfl rfl ?_
  refine bv rfl (v_bin rfl rfl b_add) ?_
  refine mv rfl rfl ?_
  refine b_nil (hK _ ?_)
  clear hK K
  exact to_le (s' := ⟨[(0, HV.int .u8 p0), (3, HV.int .i64 (IntKind.wrap .i64 (a1 + 1)))], []⟩) (AS.le_of ⟨rfl, rfl, trivial⟩ trivial) ⟨IntKind.wrap .i64 (a1 + 1), (), h, rfl⟩
 have hc := of_decide_eq_false hc
 have h := ifF hc h
 refine AW.exit ?_
 exact to_le (s' := ⟨[], []⟩) (AS.le_of trivial trivial) ⟨(), (), h, rfl⟩
set_option maxHeartbeats 1600000 in
set_option maxRecDepth 100000 in
theorem w_ref07_Check {p0 : Int} {p1 : List UInt8} {r : Int} (h : m_ref07_Check p0 p1 = some r) : Pure Try.prog 48 [HV.int .i64 p0, HV.str p1] (· = HV.int .i64 r) := by
 unfold m_ref07_Check at h
 refine Pure.of_body Try.func48 rfl rfl (Nat.le_of_ble_eq_true rfl) fun hf => ?_
 unfold Try.f48
 dsimp only [enumS, Nat.reduceAdd]
 refine AW.rgs rfl fun K hK => ?_
 refine mv rfl rfl ?_
 refine b_fin hK (s' := ⟨[(0, HV.int .i64 p0), (1, HV.str p1)], []⟩) (le_q rfl rfl) ?_
 clear hK K
 refine AW.seq ?_
 refine AW.seqJ h (S := Bool) (V := Unit) (fun a v => ⟨[(0, HV.int .i64 p0), (1, HV.str p1), (12, HV.bool a)], []⟩) (fun a1 w2 h => ?_) (fun k3 h => ?_)
 ·refine AW.cond rfl (fun hc => ?_) (fun hc => ?_)
  ·have h := ifT hc h
   refine AW.rgs rfl fun K hK => ?_
   refine mv rfl rfl ?_
   refine b_fin hK (s' := ⟨[(4, HV.int .i64 12)], []⟩) (le_q rfl rfl) ?_
   clear hK K
   refine AW.ret ?_
   have h := Option.some.inj h
   subst h
   exact ret_pure (hs := [HV.int .i64 12]) (q := HV.int .i64 12) (.inr rfl) (resT rfl rfl) rfl trivial
  have h := ifF (bF' hc) h
  refine AW.skip ?_
  refine AW.seq ?_
  refine AW.rgs rfl fun K hK => ?_
  refine mv rfl rfl ?_
  refine bv rfl (v_lenS rfl rfl ty9 rfl) ?_
  refine bv rfl (v_bin rfl rfl b_gtr) ?_
  refine b_fin hK (s' := ⟨[(0, HV.int .i64 p0), (1, HV.str p1), (15, HV.bool (decide (65536 < ((p1).length : Int))))], []⟩) (le_q rfl rfl) ?_
  clear hK K
  refine AW.cond rfl (fun hc => ?_) (fun hc => ?_)
  ·have hc := of_decide_eq_true hc
   have h := ifT hc h
   refine AW.rgs rfl fun K hK => ?_
   refine mv rfl rfl ?_
   refine b_fin hK (s' := ⟨[(4, HV.int .i64 4)], []⟩) (le_q rfl rfl) ?_
   clear hK K
   refine AW.ret ?_
   have h := Option.some.inj h
   subst h
   exact ret_pure (hs := [HV.int .i64 4]) (q := HV.int .i64 4) (.inr rfl) (resT rfl rfl) rfl trivial
  have hc := of_decide_eq_false hc
  have h := ifF hc h
  refine AW.skip ?_
  refine AW.seq ?_
  refine AW.rgs rfl fun K hK => ?_
  refine mv rfl rfl ?_
  refine b_fin hK (s' := ⟨[(0, HV.int .i64 p0), (1, HV.str p1), (5, HV.int .i64 0)], []⟩) (le_q rfl rfl) ?_
  clear hK K
  refine AW.lpR h (by first | exact up_then | exact up_to) (S := Int) (V := Unit) (fun a v => ⟨[(0, HV.int .i64 p0), (1, HV.str p1), (5, HV.int .i64 a)], []⟩) ?_ (X := Unit) (W := Unit) (fun a v => ⟨[], []⟩) (fun a16 w17 h => ?_) (fun a4 w5 st6 h hr7=> ?_)
  ·exact to_le (s' := ⟨[(0, HV.int .i64 p0), (1, HV.str p1), (5, HV.int .i64 0)], []⟩) (AS.le_of ⟨rfl, rfl, rfl, trivial⟩ trivial) ⟨(), rfl⟩
  ·refine AW.rgs rfl fun K hK => ?_
   refine mv rfl rfl ?_
   refine b_fin hK (s' := ⟨[(4, HV.int .i64 0)], []⟩) (le_q rfl rfl) ?_
   clear hK K
   refine AW.ret ?_
   have h := Option.some.inj h
   subst h
   exact ret_pure (hs := [HV.int .i64 0]) (q := HV.int .i64 0) (.inr rfl) (resT rfl rfl) rfl trivial
  refine AW.seq ?_
  refine AW.rgs rfl fun K hK => ?_
  refine mv rfl rfl ?_
  refine mv rfl rfl ?_
  refine bv rfl (v_lenS rfl rfl ty9 rfl) ?_
  refine bv rfl (v_bin rfl rfl b_lss) ?_
  refine b_fin hK (s' := ⟨[(0, HV.int .i64 p0), (1, HV.str p1), (5, HV.int .i64 a4), (19, HV.bool (decide (a4 < ((p1).length : Int))))], []⟩) (le_q rfl rfl) ?_
  clear hK K
  refine AW.cond rfl (fun hc => ?_) (fun hc => ?_)
  ·have hc := of_decide_eq_true hc
   have h := ifT hc h
   refine AW.skip ?_
   refine AW.seq (AW.block ?_)
   refine AW.rgs rfl fun K hK => ?_
   refine mv rfl rfl ?_
   refine mv rfl rfl ?_
   obtain ⟨x8, h9, h⟩ := bS h
   refine bv rfl (v_idxS ty9 rfl rfl h9) ?_
   obtain ⟨x10, h11, h⟩ := bS h
   refine b_op rfl (o_call rfl rfl rfl rfl (ACallD.pure0 (w_ref07_Digit h11)) ?_)
   refine mv rfl rfl ?_
   refine b_fin hK (s' := ⟨[(0, HV.int .i64 p0), (1, HV.str p1), (5, HV.int .i64 a4), (6, HV.int .i64 x10)], []⟩) (le_q rfl rfl) ?_
   clear hK K
   refine AW.seqJ h (S := Bool) (V := Unit) (fun a v => ⟨[(0, HV.int .i64 p0), (1, HV.str p1), (5, HV.int .i64 a4), (32, HV.bool a)], []⟩) (fun a12 w13 h => ?_) (fun k14 h => ?_)
   ·refine AW.cond rfl (fun hc => ?_) (fun hc => ?_)
    ·have h := ifT hc h
     refine AW.rgs rfl fun K hK => ?_
     refine mv rfl rfl ?_
     refine b_fin hK (s' := ⟨[(4, HV.int .i64 13)], []⟩) (le_q rfl rfl) ?_
     clear hK K
     have h := hr7 _ h
     refine AW.ret ?_
     have h := Option.some.inj h
     subst h
     exact ret_pure (hs := [HV.int .i64 13]) (q := HV.int .i64 13) (.inr rfl) (resT rfl rfl) rfl trivial
    have h := ifF (bF' hc) h
    refine AW.skip ?_
    refine AW.rg rfl fun K hK => ?_
    refine mv rfl rfl ?_
    refine bv rfl (v_bin rfl rfl b_add) ?_
    refine mv rfl rfl ?_
    refine b_nil (hK _ ?_)
    clear hK K
    exact to_le (s' := ⟨[(0, HV.int .i64 p0), (1, HV.str p1), (5, HV.int .i64 (IntKind.wrap .i64 (a4 + 1)))], []⟩) (AS.le_of ⟨rfl, rfl, rfl, trivial⟩ trivial) ⟨IntKind.wrap .i64 (a4 + 1), (), h, rfl⟩
   refine AW.rg rfl fun K hK => ?_
   refine mv rfl rfl ?_
   refine bv rfl (v_bin rfl rfl b_lss) ?_
   refine mv rfl rfl ?_
   by_cases hg15 : x10 < 0
   ·have h := ifT hg15 h
    refine b_F rfl rfl rfl rfl rfl (decide_eq_true hg15) ?_
    refine b_F rfl rfl rfl rfl rfl rfl ?_
    refine b_F rfl rfl rfl rfl rfl rfl ?_
    refine bv rfl (v_pickT rfl rfl rfl) ?_
    refine b_nil (hK _ ?_)
    clear hK K
    exact to_le (s' := ⟨[(0, HV.int .i64 p0), (1, HV.str p1), (5, HV.int .i64 a4), (32, HV.bool true)], []⟩) (AS.le_of ⟨rfl, rfl, rfl, rfl, trivial⟩ trivial) ⟨true, (), h, rfl⟩
   have h := ifF hg15 h
   refine b_T rfl rfl rfl rfl (decide_eq_false hg15) (o_val rfl (mv_val rfl rfl).2 ?_)
   refine b_T rfl rfl rfl rfl rfl (o_val rfl (mv_val rfl rfl).2 ?_)
   refine b_T rfl rfl rfl rfl rfl (o_val rfl (v_bin rfl rfl b_geq) ?_)
   refine bv rfl (v_pickF rfl rfl rfl) ?_
   refine b_nil (hK _ ?_)
   clear hK K
   exact to_le (s' := ⟨[(0, HV.int .i64 p0), (1, HV.str p1), (5, HV.int .i64 a4), (32, HV.bool (decide (p0 ≤ x10)))], []⟩) (AS.le_of ⟨rfl, rfl, rfl, rfl, trivial⟩ trivial) ⟨decide (p0 ≤ x10), (), h, rfl⟩
  have hc := of_decide_eq_false hc
  have h := ifF hc h
  refine AW.exit ?_
  exact to_le (s' := ⟨[], []⟩) (AS.le_of trivial trivial) ⟨(), (), h, rfl⟩
 refine AW.rg rfl fun K hK => ?_
 refine mv rfl rfl ?_
 refine bv rfl (v_bin rfl rfl b_lss) ?_
 refine mv rfl rfl ?_
 by_cases hg18 : p0 < 1
 ·have h := ifT hg18 h
  refine b_F rfl rfl rfl rfl rfl (decide_eq_true hg18) ?_
  refine b_F rfl rfl rfl rfl rfl rfl ?_
  refine bv rfl (v_pickT rfl rfl rfl) ?_
  refine b_nil (hK _ ?_)
  clear hK K
  exact to_le (s' := ⟨[(0, HV.int .i64 p0), (1, HV.str p1), (12, HV.bool true)], []⟩) (AS.le_of ⟨rfl, rfl, rfl, trivial⟩ trivial) ⟨true, (), h, rfl⟩
 have h := ifF hg18 h
 refine b_T rfl rfl rfl rfl (decide_eq_false hg18) (o_val rfl (mv_val rfl rfl).2 ?_)
 refine b_T rfl rfl rfl rfl rfl (o_val rfl (v_bin rfl rfl b_gtr) ?_)
 refine bv rfl (v_pickF rfl rfl rfl) ?_
 refine b_nil (hK _ ?_)
 clear hK K
 exact to_le (s' := ⟨[(0, HV.int .i64 p0), (1, HV.str p1), (12, HV.bool (decide (16 < p0)))], []⟩) (AS.le_of ⟨rfl, rfl, rfl, trivial⟩ trivial) ⟨decide (16 < p0), (), h, rfl⟩
set_option maxHeartbeats 1600000 in
set_option maxRecDepth 100000 in
theorem w_ref25_Check {p0 : TLettersBlockInputsRows} {r : Int} (h : m_ref25_Check p0 = some r) : Pure Try.prog 20 [HV.agg [HV.int .i64 p0.1, HV.int .i64 p0.2.1, HV.int .i64 p0.2.2.1, slE (eSl eToWord) p0.2.2.2]] (· = HV.int .i64 r) := by
 unfold m_ref25_Check at h
 refine Pure.of_body Try.func20 rfl rfl (Nat.le_of_ble_eq_true rfl) fun hf => ?_
 unfold Try.f20
 dsimp only [enumS, Nat.reduceAdd]
 refine AW.rgs rfl fun K hK => ?_
 refine b_op rfl (o_box rfl rfl rfl ?_)
 refine mv rfl rfl ?_
 refine b_fin hK (s' := ⟨[(1, HV.fptr [HV.int .i64 p0.1, HV.int .i64 p0.2.1, HV.int .i64 p0.2.2.1, slE (eSl eToWord) p0.2.2.2] 0)], []⟩) (le_q rfl rfl) ?_
 clear hK K
 refine AW.seq ?_
 refine AW.seqJ h (S := Bool) (V := Unit) (fun a v => ⟨[(1, HV.fptr [HV.int .i64 p0.1, HV.int .i64 p0.2.1, HV.int .i64 p0.2.2.1, slE (eSl eToWord) p0.2.2.2] 0), (13, HV.bool a)], []⟩) (fun a1 w2 h => ?_) (fun k3 h => ?_)
 ·refine AW.cond rfl (fun hc => ?_) (fun hc => ?_)
  ·have h := ifT hc h
   refine AW.rgs rfl fun K hK => ?_
   refine mv rfl rfl ?_
   refine b_fin hK (s' := ⟨[(2, HV.int .i64 12)], []⟩) (le_q rfl rfl) ?_
   clear hK K
   refine AW.ret ?_
   have h := Option.some.inj h
   subst h
   exact ret_pure (hs := [HV.int .i64 12]) (q := HV.int .i64 12) (.inr rfl) (resT rfl rfl) rfl trivial
  have h := ifF (bF' hc) h
  refine AW.skip ?_
  refine AW.seq ?_
  refine AW.seqJ h (S := Bool) (V := Unit) (fun a v => ⟨[(1, HV.fptr [HV.int .i64 p0.1, HV.int .i64 p0.2.1, HV.int .i64 p0.2.2.1, slE (eSl eToWord) p0.2.2.2] 0), (31, HV.bool a)], []⟩) (fun a4 w5 h => ?_) (fun k6 h => ?_)
  ·refine AW.cond rfl (fun hc => ?_) (fun hc => ?_)
   ·have h := ifT hc h
    refine AW.rgs rfl fun K hK => ?_
    refine mv rfl rfl ?_
    refine b_fin hK (s' := ⟨[(2, HV.int .i64 2)], []⟩) (le_q rfl rfl) ?_
    clear hK K
    refine AW.ret ?_
    have h := Option.some.inj h
    subst h
    exact ret_pure (hs := [HV.int .i64 2]) (q := HV.int .i64 2) (.inr rfl) (resT rfl rfl) rfl trivial
   have h := ifF (bF' hc) h
   refine AW.skip ?_
   refine AW.seq ?_
   refine AW.rgs rfl fun K hK => ?_
   refine bv rfl (v_fieldAddrF fo40_3 rfl) ?_
   refine bv rfl (v_loadF ty38 rfl (l_lit rfl rfl)) ?_
   refine bv rfl (v_lenF rfl rfl ty38 rfl) ?_
   refine bv rfl (v_bin rfl rfl b_eql) ?_
   refine b_fin hK (s' := ⟨[(1, HV.fptr [HV.int .i64 p0.1, HV.int .i64 p0.2.1, HV.int .i64 p0.2.2.1, slE (eSl eToWord) p0.2.2.2] 0), (35, HV.bool (decide (((p0.2.2.2).length : Int) = 0)))], []⟩) (le_q rfl rfl) ?_
   clear hK K
   refine AW.cond rfl (fun hc => ?_) (fun hc => ?_)
   ·have hc := of_decide_eq_true hc
    have h := ifT hc h
    refine AW.rgs rfl fun K hK => ?_
    refine mv rfl rfl ?_
    refine b_fin hK (s' := ⟨[(2, HV.int .i64 5)], []⟩) (le_q rfl rfl) ?_
    clear hK K
    refine AW.ret ?_
    have h := Option.some.inj h
    subst h
    exact ret_pure (hs := [HV.int .i64 5]) (q := HV.int .i64 5) (.inr rfl) (resT rfl rfl) rfl trivial
   have hc := of_decide_eq_false hc
   have h := ifF hc h
   refine AW.skip ?_
   refine AW.seq ?_
   refine AW.rgs rfl fun K hK => ?_
   refine bv rfl (v_fieldAddrF fo40_3 rfl) ?_
   refine bv rfl (v_loadF ty38 rfl (l_lit rfl rfl)) ?_
   refine bv rfl (v_lenF rfl rfl ty38 rfl) ?_
   refine bv rfl (v_bin rfl rfl b_gtr) ?_
   refine b_fin hK (s' := ⟨[(1, HV.fptr [HV.int .i64 p0.1, HV.int .i64 p0.2.1, HV.int .i64 p0.2.2.1, slE (eSl eToWord) p0.2.2.2] 0), (39, HV.bool (decide (64 < ((p0.2.2.2).length : Int))))], []⟩) (le_q rfl rfl) ?_
   clear hK K
   refine AW.cond rfl (fun hc => ?_) (fun hc => ?_)
   ·have hc := of_decide_eq_true hc
    have h := ifT hc h
    refine AW.rgs rfl fun K hK => ?_
    refine mv rfl rfl ?_
    refine b_fin hK (s' := ⟨[(2, HV.int .i64 4)], []⟩) (le_q rfl rfl) ?_
    clear hK K
    refine AW.ret ?_
    have h := Option.some.inj h
    subst h
    exact ret_pure (hs := [HV.int .i64 4]) (q := HV.int .i64 4) (.inr rfl) (resT rfl rfl) rfl trivial
   have hc := of_decide_eq_false hc
   have h := ifF hc h
   refine AW.skip ?_
   refine AW.seq ?_
   refine AW.rgs rfl fun K hK => ?_
   refine mv rfl rfl ?_
   refine b_fin hK (s' := ⟨[(1, HV.fptr [HV.int .i64 p0.1, HV.int .i64 p0.2.1, HV.int .i64 p0.2.2.1, slE (eSl eToWord) p0.2.2.2] 0), (3, HV.int .i64 0)], []⟩) (le_q rfl rfl) ?_
   clear hK K
   refine AW.lpR h (by first | exact up_then | exact up_to) (S := Int) (V := Unit) (fun a v => ⟨[(1, HV.fptr [HV.int .i64 p0.1, HV.int .i64 p0.2.1, HV.int .i64 p0.2.2.1, slE (eSl eToWord) p0.2.2.2] 0), (3, HV.int .i64 a)], []⟩) ?_ (X := Unit) (W := Unit) (fun a v => ⟨[], []⟩) (fun a36 w37 h => ?_) (fun a7 w8 st9 h hr10=> ?_)
   ·exact to_le (s' := ⟨[(1, HV.fptr [HV.int .i64 p0.1, HV.int .i64 p0.2.1, HV.int .i64 p0.2.2.1, slE (eSl eToWord) p0.2.2.2] 0), (3, HV.int .i64 0)], []⟩) (AS.le_of ⟨rfl, rfl, trivial⟩ trivial) ⟨(), rfl⟩
   ·refine AW.rgs rfl fun K hK => ?_
    refine mv rfl rfl ?_
    refine b_fin hK (s' := ⟨[(2, HV.int .i64 0)], []⟩) (le_q rfl rfl) ?_
    clear hK K
    refine AW.ret ?_
    have h := Option.some.inj h
    subst h
    exact ret_pure (hs := [HV.int .i64 0]) (q := HV.int .i64 0) (.inr rfl) (resT rfl rfl) rfl trivial
   refine AW.seq ?_
   refine AW.rgs rfl fun K hK => ?_
   refine mv rfl rfl ?_
   refine bv rfl (v_fieldAddrF fo40_3 rfl) ?_
   refine bv rfl (v_loadF ty38 rfl (l_lit rfl rfl)) ?_
   refine bv rfl (v_lenF rfl rfl ty38 rfl) ?_
   refine bv rfl (v_bin rfl rfl b_lss) ?_
   refine b_fin hK (s' := ⟨[(1, HV.fptr [HV.int .i64 p0.1, HV.int .i64 p0.2.1, HV.int .i64 p0.2.2.1, slE (eSl eToWord) p0.2.2.2] 0), (3, HV.int .i64 a7), (44, HV.bool (decide (a7 < ((p0.2.2.2).length : Int))))], []⟩) (le_q rfl rfl) ?_
   clear hK K
   refine AW.cond rfl (fun hc => ?_) (fun hc => ?_)
   ·have hc := of_decide_eq_true hc
    have h := ifT hc h
    refine AW.skip ?_
    refine AW.seq (AW.block ?_)
    refine AW.seq ?_
    refine AW.dgs 9 follows rfl rfl fun K hK => ?_
    refine sv rfl (v_fieldAddrF fo40_3 rfl) ?_
    refine sv rfl (v_loadF ty38 rfl (l_lit rfl rfl)) ?_
    refine sm rfl rfl ?_
    obtain ⟨x11, h12, h⟩ := bS h
    refine sv rfl (v_idxF ty38 es38 rfl rfl (idx_lt h12)) ?_
    refine sv rfl (v_loadF ty42 rfl (l_cell (eSl eToWord) h12 (o := 0) rfl rfl)) ?_
    refine sv rfl (v_lenF rfl rfl ty42 rfl) ?_
    refine sv rfl (v_fieldAddrF fo40_2 rfl) ?_
    refine sv rfl (v_loadF ty3 rfl (l_lit rfl rfl)) ?_
    refine sv rfl (v_bin rfl rfl b_neq) ?_
    refine s_nil ?_
    refine b_fin hK (s' := ⟨[(1, HV.fptr [HV.int .i64 p0.1, HV.int .i64 p0.2.1, HV.int .i64 p0.2.2.1, slE (eSl eToWord) p0.2.2.2] 0), (3, HV.int .i64 a7), (55, HV.bool (decide (((x11).length : Int) ≠ p0.2.2.1)))], []⟩) (le_q rfl rfl) ?_
    clear hK K
    refine AW.cond rfl (fun hc => ?_) (fun hc => ?_)
    ·have hc := of_decide_eq_true hc
     have h := ifT hc h
     refine AW.rgs rfl fun K hK => ?_
     refine mv rfl rfl ?_
     refine b_fin hK (s' := ⟨[(2, HV.int .i64 11)], []⟩) (le_q rfl rfl) ?_
     clear hK K
     have h := hr10 _ h
     refine AW.ret ?_
     have h := Option.some.inj h
     subst h
     exact ret_pure (hs := [HV.int .i64 11]) (q := HV.int .i64 11) (.inr rfl) (resT rfl rfl) rfl trivial
    have hc := of_decide_eq_false hc
    have h := ifF hc h
    refine AW.skip ?_
    refine AW.rgs rfl fun K hK => ?_
    refine mv rfl rfl ?_
    refine b_fin hK (s' := ⟨[(1, HV.fptr [HV.int .i64 p0.1, HV.int .i64 p0.2.1, HV.int .i64 p0.2.2.1, slE (eSl eToWord) p0.2.2.2] 0), (3, HV.int .i64 a7), (4, HV.int .i64 0)], []⟩) (le_q rfl rfl) ?_
    clear hK K
    refine AW.lpR h (by first | exact up_then | exact up_to) (S := Int) (V := Unit) (fun a v => ⟨[(1, HV.fptr [HV.int .i64 p0.1, HV.int .i64 p0.2.1, HV.int .i64 p0.2.2.1, slE (eSl eToWord) p0.2.2.2] 0), (3, HV.int .i64 a7), (4, HV.int .i64 a)], []⟩) ?_ (X := Unit) (W := Unit) (fun a v => ⟨[(1, HV.fptr [HV.int .i64 p0.1, HV.int .i64 p0.2.1, HV.int .i64 p0.2.2.1, slE (eSl eToWord) p0.2.2.2] 0), (3, HV.int .i64 a7)], []⟩) (fun a34 w35 h => ?_) (fun a13 w14 st15 h hr16=> ?_)
    ·exact to_le (s' := ⟨[(1, HV.fptr [HV.int .i64 p0.1, HV.int .i64 p0.2.1, HV.int .i64 p0.2.2.1, slE (eSl eToWord) p0.2.2.2] 0), (3, HV.int .i64 a7), (4, HV.int .i64 0)], []⟩) (AS.le_of ⟨rfl, rfl, rfl, trivial⟩ trivial) ⟨(), rfl⟩
    ·refine AW.rg rfl fun K hK => ?_
     refine mv rfl rfl ?_
     refine bv rfl (v_bin rfl rfl b_add) ?_
     refine mv rfl rfl ?_
     refine b_nil (hK _ ?_)
     clear hK K
     exact to_le (s' := ⟨[(1, HV.fptr [HV.int .i64 p0.1, HV.int .i64 p0.2.1, HV.int .i64 p0.2.2.1, slE (eSl eToWord) p0.2.2.2] 0), (3, HV.int .i64 (IntKind.wrap .i64 (a7 + 1)))], []⟩) (AS.le_of ⟨rfl, rfl, trivial⟩ trivial) ⟨IntKind.wrap .i64 (a7 + 1), (), h, rfl⟩
    refine AW.seq ?_
    refine AW.rgs rfl fun K hK => ?_
    refine mv rfl rfl ?_
    refine bv rfl (v_fieldAddrF fo40_3 rfl) ?_
    refine bv rfl (v_loadF ty38 rfl (l_lit rfl rfl)) ?_
    refine mv rfl rfl ?_
    obtain ⟨x17, h18, h⟩ := bS h
    refine bv rfl (v_idxF ty38 es38 rfl rfl (idx_lt h18)) ?_
    refine bv rfl (v_loadF ty42 rfl (l_cell (eSl eToWord) h18 (o := 0) rfl rfl)) ?_
    refine bv rfl (v_lenF rfl rfl ty42 rfl) ?_
    refine bv rfl (v_bin rfl rfl b_lss) ?_
    refine b_fin hK (s' := ⟨[(1, HV.fptr [HV.int .i64 p0.1, HV.int .i64 p0.2.1, HV.int .i64 p0.2.2.1, slE (eSl eToWord) p0.2.2.2] 0), (3, HV.int .i64 a7), (4, HV.int .i64 a13), (63, HV.bool (decide (a13 < ((x17).length : Int))))], []⟩) (le_q rfl rfl) ?_
    clear hK K
    refine AW.cond rfl (fun hc => ?_) (fun hc => ?_)
    ·have hc := of_decide_eq_true hc
     have h := ifT hc h
     refine AW.skip ?_
     refine AW.seq (AW.block ?_)
     refine AW.rgs rfl fun K hK => ?_
     refine bv rfl (v_fieldAddrF fo40_3 rfl) ?_
     refine bv rfl (v_loadF ty38 rfl (l_lit rfl rfl)) ?_
     refine mv rfl rfl ?_
     obtain ⟨x19, h20, h⟩ := bS h
     refine bv rfl (v_idxF ty38 es38 rfl rfl (idx_lt h20)) ?_
     refine bv rfl (v_loadF ty42 rfl (l_cell (eSl eToWord) h20 (o := 0) rfl rfl)) ?_
     refine mv rfl rfl ?_
     obtain ⟨x21, h22, h⟩ := bS h
     refine bv rfl (v_idxF ty42 es42 rfl rfl (idx_lt h22)) ?_
     refine bv rfl (v_loadF ty45 rfl (l_agg eToWord h22 rfl rfl)) ?_
     refine b_op rfl (o_alloc (fid := 20) (zs := [HV.int .i64 0, HV.str ([] : List UInt8)]) 20005 rfl rfl ty45 rfl (fun v23 => ?_))
     refine b_op rfl (o_store (cs := [HV.int .i64 x21.1, HV.str x21.2]) (zs := [HV.int .i64 x21.1, HV.str x21.2]) rfl rfl rfl ty45 rfl rfl rfl rfl rfl ?_)
     refine b_fin hK (s' := ⟨[(1, HV.fptr [HV.int .i64 p0.1, HV.int .i64 p0.2.1, HV.int .i64 p0.2.2.1, slE (eSl eToWord) p0.2.2.2] 0), (3, HV.int .i64 a7), (4, HV.int .i64 a13), (5, HV.ptr 20005 v23 0)], [(20005, v23, .arr 2 45 [HV.int .i64 x21.1, HV.str x21.2])]⟩) (le_q rfl rfl) ?_
     clear hK K
     refine AW.seq ?_
     refine AW.seqJ h (S := Bool) (V := Unit) (fun a v => ⟨[(1, HV.fptr [HV.int .i64 p0.1, HV.int .i64 p0.2.1, HV.int .i64 p0.2.2.1, slE (eSl eToWord) p0.2.2.2] 0), (3, HV.int .i64 a7), (4, HV.int .i64 a13), (5, HV.ptr 20005 v23 0), (84, HV.bool a)], [(20005, v23, .arr 2 45 [HV.int .i64 x21.1, HV.str x21.2])]⟩) (fun a24 w25 h => ?_) (fun k26 h => ?_)
     ·refine AW.cond rfl (fun hc => ?_) (fun hc => ?_)
      ·have h := ifT hc h
       refine AW.rgs rfl fun K hK => ?_
       refine mv rfl rfl ?_
       refine b_fin hK (s' := ⟨[(2, HV.int .i64 25)], []⟩) (le_q rfl rfl) ?_
       clear hK K
       have h := hr16 _ h
       have h := hr10 _ h
       refine AW.ret ?_
       have h := Option.some.inj h
       subst h
       exact ret_pure (hs := [HV.int .i64 25]) (q := HV.int .i64 25) (.inr rfl) (resT rfl rfl) rfl trivial
      have h := ifF (bF' hc) h
      refine AW.skip ?_
      refine AW.seqJ h (S := Bool) (V := Unit) (fun a v => ⟨[(1, HV.fptr [HV.int .i64 p0.1, HV.int .i64 p0.2.1, HV.int .i64 p0.2.2.1, slE (eSl eToWord) p0.2.2.2] 0), (3, HV.int .i64 a7), (4, HV.int .i64 a13), (98, HV.bool a)], []⟩) (fun a27 w28 h => ?_) (fun k29 h => ?_)
      ·refine AW.cond rfl (fun hc => ?_) (fun hc => ?_)
       ·have h := ifT hc h
        refine AW.rgs rfl fun K hK => ?_
        refine mv rfl rfl ?_
        refine b_fin hK (s' := ⟨[(2, HV.int .i64 13)], []⟩) (le_q rfl rfl) ?_
        clear hK K
        have h := hr16 _ h
        have h := hr10 _ h
        refine AW.ret ?_
        have h := Option.some.inj h
        subst h
        exact ret_pure (hs := [HV.int .i64 13]) (q := HV.int .i64 13) (.inr rfl) (resT rfl rfl) rfl trivial
       have h := ifF (bF' hc) h
       refine AW.skip ?_
       refine AW.rg rfl fun K hK => ?_
       refine mv rfl rfl ?_
       refine bv rfl (v_bin rfl rfl b_add) ?_
       refine mv rfl rfl ?_
       refine b_nil (hK _ ?_)
       clear hK K
       exact to_le (s' := ⟨[(1, HV.fptr [HV.int .i64 p0.1, HV.int .i64 p0.2.1, HV.int .i64 p0.2.2.1, slE (eSl eToWord) p0.2.2.2] 0), (3, HV.int .i64 a7), (4, HV.int .i64 (IntKind.wrap .i64 (a13 + 1)))], []⟩) (AS.le_of ⟨rfl, rfl, rfl, trivial⟩ trivial) ⟨IntKind.wrap .i64 (a13 + 1), (), h, rfl⟩
      refine AW.rg rfl fun K hK => ?_
      refine bv rfl (v_fieldAddrP fo45_1 rfl rfl) ?_
      refine bv rfl (v_loadP ty9 rfl rfl (l_lit rfl rfl)) ?_
      refine bv rfl (v_lenS rfl rfl ty9 rfl) ?_
      refine bv rfl (v_fieldAddrF fo40_1 rfl) ?_
      refine bv rfl (v_loadF ty3 rfl (l_lit rfl rfl)) ?_
      refine bv rfl (v_bin rfl rfl b_neq) ?_
      refine mv rfl rfl ?_
      by_cases hg32 : ((x21.2).length : Int) ≠ p0.2.1
      ·have h := ifT hg32 h
       refine b_F rfl rfl rfl rfl rfl (decide_eq_true hg32) ?_
       refine b_F rfl rfl rfl rfl rfl rfl ?_
       refine b_F rfl rfl rfl rfl rfl rfl ?_
       refine b_F rfl rfl rfl rfl rfl rfl ?_
       refine b_F rfl rfl rfl rfl rfl rfl ?_
       refine b_F rfl rfl rfl rfl rfl rfl ?_
       refine bv rfl (v_pickT rfl rfl rfl) ?_
       refine b_nil (hK _ ?_)
       clear hK K
       exact to_le (s' := ⟨[(1, HV.fptr [HV.int .i64 p0.1, HV.int .i64 p0.2.1, HV.int .i64 p0.2.2.1, slE (eSl eToWord) p0.2.2.2] 0), (3, HV.int .i64 a7), (4, HV.int .i64 a13), (98, HV.bool true)], []⟩) (AS.le_of ⟨rfl, rfl, rfl, rfl, trivial⟩ trivial) ⟨true, (), h, rfl⟩
      have h := ifF hg32 h
      refine b_T rfl rfl rfl rfl (decide_eq_false hg32) (o_val rfl (v_fieldAddrF fo40_0 rfl) ?_)
      refine b_T rfl rfl rfl rfl rfl (o_val rfl (v_loadF ty3 rfl (l_lit rfl rfl)) ?_)
      refine b_T rfl rfl rfl rfl rfl (o_val rfl (v_fieldAddrP fo45_1 rfl rfl) ?_)
      refine b_T rfl rfl rfl rfl rfl (o_val rfl (v_loadP ty9 rfl rfl (l_lit rfl rfl)) ?_)
      obtain ⟨x30, h31, h⟩ := bS h
      refine b_T rfl rfl rfl rfl rfl (o_call rfl rfl rfl rfl (ACallD.pure0 (w_ref07_Check h31)) ?_)
      refine b_T rfl rfl rfl rfl rfl (o_val rfl (v_bin rfl rfl b_neq) ?_)
      refine bv rfl (v_pickF rfl rfl rfl) ?_
      refine b_nil (hK _ ?_)
      clear hK K
      exact to_le (s' := ⟨[(1, HV.fptr [HV.int .i64 p0.1, HV.int .i64 p0.2.1, HV.int .i64 p0.2.2.1, slE (eSl eToWord) p0.2.2.2] 0), (3, HV.int .i64 a7), (4, HV.int .i64 a13), (98, HV.bool (decide (x30 ≠ 0)))], []⟩) (AS.le_of ⟨rfl, rfl, rfl, rfl, trivial⟩ trivial) ⟨decide (x30 ≠ 0), (), h, rfl⟩
     refine AW.rg rfl fun K hK => ?_
     refine bv rfl (v_fieldAddrP fo45_0 rfl rfl) ?_
     refine bv rfl (v_loadP ty3 rfl rfl (l_lit rfl rfl)) ?_
     refine bv rfl (v_bin rfl rfl b_lss) ?_
     refine mv rfl rfl ?_
     by_cases hg33 : x21.1 < 0
     ·have h := ifT hg33 h
      refine b_F rfl rfl rfl rfl rfl (decide_eq_true hg33) ?_
      refine b_F rfl rfl rfl rfl rfl rfl ?_
      refine b_F rfl rfl rfl rfl rfl rfl ?_
      refine b_F rfl rfl rfl rfl rfl rfl ?_
      refine b_F rfl rfl rfl rfl rfl rfl ?_
      refine b_F rfl rfl rfl rfl rfl rfl ?_
      refine bv rfl (v_pickT rfl rfl rfl) ?_
      refine b_nil (hK _ ?_)
      clear hK K
      exact to_le (s' := ⟨[(1, HV.fptr [HV.int .i64 p0.1, HV.int .i64 p0.2.1, HV.int .i64 p0.2.2.1, slE (eSl eToWord) p0.2.2.2] 0), (3, HV.int .i64 a7), (4, HV.int .i64 a13), (5, HV.ptr 20005 v23 0), (84, HV.bool true)], [(20005, v23, .arr 2 45 [HV.int .i64 x21.1, HV.str x21.2])]⟩) (AS.le_of ⟨rfl, rfl, rfl, rfl, rfl, trivial⟩ ⟨rfl, trivial⟩) ⟨true, (), h, rfl⟩
     have h := ifF hg33 h
     refine b_T rfl rfl rfl rfl (decide_eq_false hg33) (o_val rfl (v_fieldAddrP fo45_0 rfl rfl) ?_)
     refine b_T rfl rfl rfl rfl rfl (o_val rfl (v_loadP ty3 rfl rfl (l_lit rfl rfl)) ?_)
     refine b_T rfl rfl rfl rfl rfl (o_val rfl (v_fieldAddrF fo40_3 rfl) ?_)
     refine b_T rfl rfl rfl rfl rfl (o_val rfl (v_loadF ty38 rfl (l_lit rfl rfl)) ?_)
     refine b_T rfl rfl rfl rfl rfl (o_val rfl (v_lenF rfl rfl ty38 rfl) ?_)
     refine b_T rfl rfl rfl rfl rfl (o_val rfl (v_bin rfl rfl b_geq) ?_)
     refine bv rfl (v_pickF rfl rfl rfl) ?_
     refine b_nil (hK _ ?_)
     clear hK K
     exact to_le (s' := ⟨[(1, HV.fptr [HV.int .i64 p0.1, HV.int .i64 p0.2.1, HV.int .i64 p0.2.2.1, slE (eSl eToWord) p0.2.2.2] 0), (3, HV.int .i64 a7), (4, HV.int .i64 a13), (5, HV.ptr 20005 v23 0), (84, HV.bool (decide (((p0.2.2.2).length : Int) ≤ x21.1)))], [(20005, v23, .arr 2 45 [HV.int .i64 x21.1, HV.str x21.2])]⟩) (AS.le_of ⟨rfl, rfl, rfl, rfl, rfl, trivial⟩ ⟨rfl, trivial⟩) ⟨decide (((p0.2.2.2).length : Int) ≤ x21.1), (), h, rfl⟩
    have hc := of_decide_eq_false hc
    have h := ifF hc h
    refine AW.exit ?_
    exact to_le (s' := ⟨[(1, HV.fptr [HV.int .i64 p0.1, HV.int .i64 p0.2.1, HV.int .i64 p0.2.2.1, slE (eSl eToWord) p0.2.2.2] 0), (3, HV.int .i64 a7)], []⟩) (AS.le_of ⟨rfl, rfl, trivial⟩ trivial) ⟨(), (), h, rfl⟩
   have hc := of_decide_eq_false hc
   have h := ifF hc h
   refine AW.exit ?_
   exact to_le (s' := ⟨[], []⟩) (AS.le_of trivial trivial) ⟨(), (), h, rfl⟩
  refine AW.rg rfl fun K hK => ?_
  refine bv rfl (v_fieldAddrF fo40_1 rfl) ?_
  refine bv rfl (v_loadF ty3 rfl (l_lit rfl rfl)) ?_
  refine bv rfl (v_bin rfl rfl b_lss) ?_
  refine mv rfl rfl ?_
  by_cases hg40 : p0.2.1 < 1
  ·have h := ifT hg40 h
   refine b_F rfl rfl rfl rfl rfl (decide_eq_true hg40) ?_
   refine b_F rfl rfl rfl rfl rfl rfl ?_
   refine b_F rfl rfl rfl rfl rfl rfl ?_
   refine bv rfl (v_pickT rfl rfl rfl) ?_
   refine mv rfl rfl ?_
   refine b_F rfl rfl rfl rfl rfl rfl ?_
   refine b_F rfl rfl rfl rfl rfl rfl ?_
   refine b_F rfl rfl rfl rfl rfl rfl ?_
   refine bv rfl (v_pickT rfl rfl rfl) ?_
   refine mv rfl rfl ?_
   refine b_F rfl rfl rfl rfl rfl rfl ?_
   refine b_F rfl rfl rfl rfl rfl rfl ?_
   refine b_F rfl rfl rfl rfl rfl rfl ?_
   refine bv rfl (v_pickT rfl rfl rfl) ?_
   refine b_nil (hK _ ?_)
   clear hK K
   exact to_le (s' := ⟨[(1, HV.fptr [HV.int .i64 p0.1, HV.int .i64 p0.2.1, HV.int .i64 p0.2.2.1, slE (eSl eToWord) p0.2.2.2] 0), (31, HV.bool true)], []⟩) (AS.le_of ⟨rfl, rfl, trivial⟩ trivial) ⟨true, (), h, rfl⟩
  have h := ifF hg40 h
  refine b_T rfl rfl rfl rfl (decide_eq_false hg40) (o_val rfl (v_fieldAddrF fo40_1 rfl) ?_)
  refine b_T rfl rfl rfl rfl rfl (o_val rfl (v_loadF ty3 rfl (l_lit rfl rfl)) ?_)
  refine b_T rfl rfl rfl rfl rfl (o_val rfl (v_bin rfl rfl b_gtr) ?_)
  refine bv rfl (v_pickF rfl rfl rfl) ?_
  refine mv rfl rfl ?_
  by_cases hg39 : 16 < p0.2.1
  ·have h := ifT hg39 h
   refine b_F rfl rfl rfl rfl rfl (decide_eq_true hg39) ?_
   refine b_F rfl rfl rfl rfl rfl rfl ?_
   refine b_F rfl rfl rfl rfl rfl rfl ?_
   refine bv rfl (v_pickT rfl rfl rfl) ?_
   refine mv rfl rfl ?_
   refine b_F rfl rfl rfl rfl rfl rfl ?_
   refine b_F rfl rfl rfl rfl rfl rfl ?_
   refine b_F rfl rfl rfl rfl rfl rfl ?_
   refine bv rfl (v_pickT rfl rfl rfl) ?_
   refine b_nil (hK _ ?_)
   clear hK K
   exact to_le (s' := ⟨[(1, HV.fptr [HV.int .i64 p0.1, HV.int .i64 p0.2.1, HV.int .i64 p0.2.2.1, slE (eSl eToWord) p0.2.2.2] 0), (31, HV.bool true)], []⟩) (AS.le_of ⟨rfl, rfl, trivial⟩ trivial) ⟨true, (), h, rfl⟩
  have h := ifF hg39 h
  refine b_T rfl rfl rfl rfl (decide_eq_false hg39) (o_val rfl (v_fieldAddrF fo40_2 rfl) ?_)
  refine b_T rfl rfl rfl rfl rfl (o_val rfl (v_loadF ty3 rfl (l_lit rfl rfl)) ?_)
  refine b_T rfl rfl rfl rfl rfl (o_val rfl (v_bin rfl rfl b_lss) ?_)
  refine bv rfl (v_pickF rfl rfl rfl) ?_
  refine mv rfl rfl ?_
  by_cases hg38 : p0.2.2.1 < 1
  ·have h := ifT hg38 h
   refine b_F rfl rfl rfl rfl rfl (decide_eq_true hg38) ?_
   refine b_F rfl rfl rfl rfl rfl rfl ?_
   refine b_F rfl rfl rfl rfl rfl rfl ?_
   refine bv rfl (v_pickT rfl rfl rfl) ?_
   refine b_nil (hK _ ?_)
   clear hK K
   exact to_le (s' := ⟨[(1, HV.fptr [HV.int .i64 p0.1, HV.int .i64 p0.2.1, HV.int .i64 p0.2.2.1, slE (eSl eToWord) p0.2.2.2] 0), (31, HV.bool true)], []⟩) (AS.le_of ⟨rfl, rfl, trivial⟩ trivial) ⟨true, (), h, rfl⟩
  have h := ifF hg38 h
  refine b_T rfl rfl rfl rfl (decide_eq_false hg38) (o_val rfl (v_fieldAddrF fo40_2 rfl) ?_)
  refine b_T rfl rfl rfl rfl rfl (o_val rfl (v_loadF ty3 rfl (l_lit rfl rfl)) ?_)
  refine b_T rfl rfl rfl rfl rfl (o_val rfl (v_bin rfl rfl b_gtr) ?_)
  refine bv rfl (v_pickF rfl rfl rfl) ?_
  refine b_nil (hK _ ?_)
  clear hK K
  exact to_le (s' := ⟨[(1, HV.fptr [HV.int .i64 p0.1, HV.int .i64 p0.2.1, HV.int .i64 p0.2.2.1, slE (eSl eToWord) p0.2.2.2] 0), (31, HV.bool (decide (256 < p0.2.2.1)))], []⟩) (AS.le_of ⟨rfl, rfl, trivial⟩ trivial) ⟨decide (256 < p0.2.2.1), (), h, rfl⟩
 refine AW.rg rfl fun K hK => ?_
 refine bv rfl (v_fieldAddrF fo40_0 rfl) ?_
 refine bv rfl (v_loadF ty3 rfl (l_lit rfl rfl)) ?_
 refine bv rfl (v_bin rfl rfl b_lss) ?_
 refine mv rfl rfl ?_
 by_cases hg41 : p0.1 < 1
 ·have h := ifT hg41 h
  refine b_F rfl rfl rfl rfl rfl (decide_eq_true hg41) ?_
  refine b_F rfl rfl rfl rfl rfl rfl ?_
  refine b_F rfl rfl rfl rfl rfl rfl ?_
  refine bv rfl (v_pickT rfl rfl rfl) ?_
  refine b_nil (hK _ ?_)
  clear hK K
  exact to_le (s' := ⟨[(1, HV.fptr [HV.int .i64 p0.1, HV.int .i64 p0.2.1, HV.int .i64 p0.2.2.1, slE (eSl eToWord) p0.2.2.2] 0), (13, HV.bool true)], []⟩) (AS.le_of ⟨rfl, rfl, trivial⟩ trivial) ⟨true, (), h, rfl⟩
 have h := ifF hg41 h
 refine b_T rfl rfl rfl rfl (decide_eq_false hg41) (o_val rfl (v_fieldAddrF fo40_0 rfl) ?_)
 refine b_T rfl rfl rfl rfl rfl (o_val rfl (v_loadF ty3 rfl (l_lit rfl rfl)) ?_)
 refine b_T rfl rfl rfl rfl rfl (o_val rfl (v_bin rfl rfl b_gtr) ?_)
 refine bv rfl (v_pickF rfl rfl rfl) ?_
 refine b_nil (hK _ ?_)
 clear hK K
 exact to_le (s' := ⟨[(1, HV.fptr [HV.int .i64 p0.1, HV.int .i64 p0.2.1, HV.int .i64 p0.2.2.1, slE (eSl eToWord) p0.2.2.2] 0), (13, HV.bool (decide (16 < p0.1)))], []⟩) (AS.le_of ⟨rfl, rfl, trivial⟩ trivial) ⟨decide (16 < p0.1), (), h, rfl⟩
set_option maxHeartbeats 1600000 in
set_option maxRecDepth 100000 in
theorem w_ref46_lists {p0 : Int} {p1 : Int} {r : (List (List (Int)))} (h : m_ref46_lists p0 p1 = some r) : Pure Try.prog 45 [HV.int .i64 p0, HV.int .i64 p1] (· = slE (eSl eInt) r) := by
 unfold m_ref46_lists at h
 refine Pure.of_body Try.func45 rfl rfl (Nat.le_of_ble_eq_true rfl) fun hf => ?_
 unfold Try.f45
 dsimp only [enumS, Nat.reduceAdd]
 refine AW.rgs rfl fun K hK => ?_
 refine mv rfl rfl ?_
 refine b_fin hK (s' := ⟨[(0, HV.int .i64 p0), (1, HV.int .i64 p1)], []⟩) (le_q rfl rfl) ?_
 clear hK K
 refine AW.rgs rfl fun K hK => ?_
 refine b_op rfl (o_bslM (fid := 45) 45010 rfl rfl rfl (as_of (cs := []) ty83 ty3 rfl rfl rfl rfl rfl) (fun v1 => ?_))
 refine bops_to (to_frz 2 [(45010, v1, .arr eInt.k 3 [])] ⟨[(0, HV.int .i64 p0), (1, HV.int .i64 p1), (10, slE eInt [])], []⟩ ⟨⟨_, rfl, rfl⟩, ⟨_, rfl, rfl⟩, ⟨_, rfl, frz_slE eInt (l := []) rfl fun _ _ => rfl⟩, trivial⟩ trivial ⟨rfl, trivial⟩ ⟨rfl, trivial⟩ ?_)
 refine b_op rfl (o_bsl rfl rfl (as_of (cs := [slE eInt []]) ty92 ty83 rfl rfl rfl rfl rfl) ?_)
 refine mv rfl rfl ?_
 refine b_fin hK (s' := ⟨[(0, HV.int .i64 p0), (1, HV.int .i64 p1), (5, slE (eSl eInt) [[]])], []⟩) (le_q rfl rfl) ?_
 clear hK K
 refine AW.seq ?_
 refine AW.rgs rfl fun K hK => ?_
 refine mv rfl rfl ?_
 refine b_fin hK (s' := ⟨[(0, HV.int .i64 p0), (1, HV.int .i64 p1), (5, slE (eSl eInt) [[]]), (6, HV.int .i64 0)], []⟩) (le_q rfl rfl) ?_
 clear hK K
 refine AW.lpX h (by first | exact up_then | exact up_to) (S := (List (List (Int))) × Int) (V := Unit) (fun a v => ⟨[(0, HV.int .i64 p0), (1, HV.int .i64 p1), (5, slE (eSl eInt) a.1), (6, HV.int .i64 a.2)], []⟩) ?_ (X := (List (List (Int)))) (W := Unit) (fun a v => ⟨[(5, slE (eSl eInt) a)], []⟩) (fun a28 w29 h => ?_) (fun a2 w3 st4 h => ?_)
 ·exact to_le (s' := ⟨[(0, HV.int .i64 p0), (1, HV.int .i64 p1), (5, slE (eSl eInt) [[]]), (6, HV.int .i64 0)], []⟩) (AS.le_of ⟨rfl, rfl, rfl, rfl, trivial⟩ trivial) ⟨(), rfl⟩
 ·refine AW.rgs rfl fun K hK => ?_
  refine mv rfl rfl ?_
  refine mv rfl rfl ?_
  refine b_fin hK (s' := ⟨[(4, slE (eSl eInt) a28)], []⟩) (le_q rfl rfl) ?_
  clear hK K
  refine AW.ret ?_
  have h := Option.some.inj h
  subst h
  exact ret_pure (hs := [slE (eSl eInt) a28]) (q := slE (eSl eInt) a28) (.inr rfl) (resT rfl rfl) rfl (clean_slE fun _ _ => ⟨(clean_slE fun _ _ => ⟨trivial, trivial⟩), trivial⟩)
 refine AW.seq ?_
 refine AW.rgs rfl fun K hK => ?_
 refine mv rfl rfl ?_
 refine mv rfl rfl ?_
 refine bv rfl (v_bin rfl rfl b_lss) ?_
 refine b_fin hK (s' := ⟨[(0, HV.int .i64 p0), (1, HV.int .i64 p1), (5, slE (eSl eInt) a2.1), (6, HV.int .i64 a2.2), (14, HV.bool (decide (a2.2 < p1)))], []⟩) (le_q rfl rfl) ?_
 clear hK K
 refine AW.cond rfl (fun hc => ?_) (fun hc => ?_)
 ·have hc := of_decide_eq_true hc
  have h := ifT hc h
  refine AW.skip ?_
  refine AW.seq (AW.block ?_)
  refine AW.rgs rfl fun K hK => ?_
  refine b_op rfl (o_bslM (fid := 45) 45017 rfl rfl rfl (as_of (cs := []) ty92 ty83 rfl rfl rfl rfl rfl) (fun v6 => ?_))
  refine mv rfl rfl ?_
  refine b_fin hK (s' := ⟨[(0, HV.int .i64 p0), (1, HV.int .i64 p1), (5, slE (eSl eInt) a2.1), (6, HV.int .i64 a2.2), (7, HV.ar 45017 v6 (eSl eInt).k 0 0)], [(45017, v6, .arr (eSl eInt).k 83 [])]⟩) (le_q rfl rfl) ?_
  clear hK K
  refine AW.seq ?_
  refine AW.rgs rfl fun K hK => ?_
  refine mv rfl rfl ?_
  refine b_fin hK (s' := ⟨[(0, HV.int .i64 p0), (1, HV.int .i64 p1), (5, slE (eSl eInt) a2.1), (6, HV.int .i64 a2.2), (7, HV.ar 45017 v6 (eSl eInt).k 0 0), (8, HV.int .i64 0)], [(45017, v6, .arr (eSl eInt).k 83 [])]⟩) (le_q rfl rfl) ?_
  clear hK K
  refine AW.lpX h (by first | exact up_then | exact up_to) (S := Int × (List (List (Int)))) (V := Nat) (fun a v => ⟨[(0, HV.int .i64 p0), (1, HV.int .i64 p1), (5, slE (eSl eInt) a2.1), (6, HV.int .i64 a2.2), (7, HV.ar 45017 v (eSl eInt).k 0 ((a.2).length)), (8, HV.int .i64 a.1)], [(45017, v, .arr (eSl eInt).k 83 ((eSl eInt).E a.2))]⟩) ?_ (X := (List (List (Int)))) (W := Nat) (fun a v => ⟨[(0, HV.int .i64 p0), (1, HV.int .i64 p1), (6, HV.int .i64 a2.2), (7, HV.ar 45017 v (eSl eInt).k 0 ((a).length))], [(45017, v, .arr (eSl eInt).k 83 ((eSl eInt).E a))]⟩) (fun a26 w27 h => ?_) (fun a7 w8 st9 h => ?_)
  ·exact to_le (s' := ⟨[(0, HV.int .i64 p0), (1, HV.int .i64 p1), (5, slE (eSl eInt) a2.1), (6, HV.int .i64 a2.2), (7, HV.ar 45017 v6 (eSl eInt).k 0 0), (8, HV.int .i64 0)], [(45017, v6, .arr (eSl eInt).k 83 [])]⟩) (AS.le_of ⟨rfl, rfl, rfl, rfl, rfl, rfl, trivial⟩ ⟨rfl, trivial⟩) ⟨v6, rfl⟩
  ·refine AW.rg rfl fun K hK => ?_
   refine mv rfl rfl ?_
   refine mv rfl rfl ?_
   refine b_fin hK (s' := ⟨[(0, HV.int .i64 p0), (1, HV.int .i64 p1), (5, HV.ar 45017 w27 (eSl eInt).k 0 ((a26).length)), (6, HV.int .i64 a2.2)], [(45017, w27, .arr (eSl eInt).k 83 ((eSl eInt).E a26))]⟩) (le_q rfl rfl) ?_
   clear hK K
   refine AW.rg rfl fun K hK => ?_
   refine mv rfl rfl ?_
   refine bv rfl (v_bin rfl rfl b_add) ?_
   refine mv rfl rfl ?_
   refine b_nil (hK _ ?_)
   clear hK K
   refine to_bind (to_frz 2 [(45017, w27, .arr (eSl eInt).k 83 ((eSl eInt).E a26))] ⟨[(0, HV.int .i64 p0), (1, HV.int .i64 p1), (5, slE (eSl eInt) a26), (6, HV.int .i64 (IntKind.wrap .i64 (a2.2 + 1)))], []⟩ ⟨⟨_, rfl, rfl⟩, ⟨_, rfl, rfl⟩, ⟨_, rfl, frz_slE (eSl eInt) (l := a26) rfl fun _ _ => rfl⟩, ⟨_, rfl, rfl⟩, trivial⟩ trivial ⟨rfl, trivial⟩ ⟨rfl, trivial⟩ ?_)
   exact to_le (s' := ⟨[(0, HV.int .i64 p0), (1, HV.int .i64 p1), (5, slE (eSl eInt) a26), (6, HV.int .i64 (IntKind.wrap .i64 (a2.2 + 1)))], []⟩) (AS.le_of ⟨rfl, rfl, rfl, rfl, trivial⟩ trivial) ⟨(a26, IntKind.wrap .i64 (a2.2 + 1)), (), h, rfl⟩
  refine AW.seq ?_
  refine AW.rgs rfl fun K hK => ?_
  refine mv rfl rfl ?_
  refine mv rfl rfl ?_
  refine bv rfl (v_lenF rfl rfl ty92 rfl) ?_
  refine bv rfl (v_bin rfl rfl b_lss) ?_
  refine b_fin hK (s' := ⟨[(0, HV.int .i64 p0), (1, HV.int .i64 p1), (5, slE (eSl eInt) a2.1), (6, HV.int .i64 a2.2), (7, HV.ar 45017 w8 (eSl eInt).k 0 ((a7.2).length)), (8, HV.int .i64 a7.1), (21, HV.bool (decide (a7.1 < ((a2.1).length : Int))))], [(45017, w8, .arr (eSl eInt).k 83 ((eSl eInt).E a7.2))]⟩) (le_q rfl rfl) ?_
  clear hK K
  refine AW.cond rfl (fun hc => ?_) (fun hc => ?_)
  ·have hc := of_decide_eq_true hc
   have h := ifT hc h
   refine AW.skip ?_
   refine AW.seq (AW.block ?_)
   refine AW.rgs rfl fun K hK => ?_
   refine mv rfl rfl ?_
   refine b_fin hK (s' := ⟨[(0, HV.int .i64 p0), (1, HV.int .i64 p1), (5, slE (eSl eInt) a2.1), (6, HV.int .i64 a2.2), (7, HV.ar 45017 w8 (eSl eInt).k 0 ((a7.2).length)), (8, HV.int .i64 a7.1), (9, HV.int .i64 0)], [(45017, w8, .arr (eSl eInt).k 83 ((eSl eInt).E a7.2))]⟩) (le_q rfl rfl) ?_
   clear hK K
   refine AW.lpX h (by first | exact up_then | exact up_to) (S := Int × (List (List (Int)))) (V := Nat) (fun a v => ⟨[(0, HV.int .i64 p0), (1, HV.int .i64 p1), (5, slE (eSl eInt) a2.1), (6, HV.int .i64 a2.2), (7, HV.ar 45017 v (eSl eInt).k 0 ((a.2).length)), (8, HV.int .i64 a7.1), (9, HV.int .i64 a.1)], [(45017, v, .arr (eSl eInt).k 83 ((eSl eInt).E a.2))]⟩) ?_ (X := (List (List (Int)))) (W := Nat) (fun a v => ⟨[(0, HV.int .i64 p0), (1, HV.int .i64 p1), (5, slE (eSl eInt) a2.1), (6, HV.int .i64 a2.2), (7, HV.ar 45017 v (eSl eInt).k 0 ((a).length)), (8, HV.int .i64 a7.1)], [(45017, v, .arr (eSl eInt).k 83 ((eSl eInt).E a))]⟩) (fun a24 w25 h => ?_) (fun a11 w12 st13 h => ?_)
   ·exact to_le (s' := ⟨[(0, HV.int .i64 p0), (1, HV.int .i64 p1), (5, slE (eSl eInt) a2.1), (6, HV.int .i64 a2.2), (7, HV.ar 45017 w8 (eSl eInt).k 0 ((a7.2).length)), (8, HV.int .i64 a7.1), (9, HV.int .i64 0)], [(45017, w8, .arr (eSl eInt).k 83 ((eSl eInt).E a7.2))]⟩) (AS.le_of ⟨rfl, rfl, rfl, rfl, rfl, rfl, rfl, trivial⟩ ⟨rfl, trivial⟩) ⟨w8, rfl⟩
   ·refine AW.rg rfl fun K hK => ?_
    refine mv rfl rfl ?_
    refine bv rfl (v_bin rfl rfl b_add) ?_
    refine mv rfl rfl ?_
    refine b_nil (hK _ ?_)
    clear hK K
    exact to_le (s' := ⟨[(0, HV.int .i64 p0), (1, HV.int .i64 p1), (5, slE (eSl eInt) a2.1), (6, HV.int .i64 a2.2), (7, HV.ar 45017 w25 (eSl eInt).k 0 ((a24).length)), (8, HV.int .i64 (IntKind.wrap .i64 (a7.1 + 1)))], [(45017, w25, .arr (eSl eInt).k 83 ((eSl eInt).E a24))]⟩) (AS.le_of ⟨rfl, rfl, rfl, rfl, rfl, rfl, trivial⟩ ⟨rfl, trivial⟩) ⟨(IntKind.wrap .i64 (a7.1 + 1), a24), w25, h, rfl⟩
   refine AW.seq ?_
   refine AW.rgs rfl fun K hK => ?_
   refine mv rfl rfl ?_
   refine mv rfl rfl ?_
   refine bv rfl (v_bin rfl rfl b_lss) ?_
   refine b_fin hK (s' := ⟨[(0, HV.int .i64 p0), (1, HV.int .i64 p1), (5, slE (eSl eInt) a2.1), (6, HV.int .i64 a2.2), (7, HV.ar 45017 w12 (eSl eInt).k 0 ((a11.2).length)), (8, HV.int .i64 a7.1), (9, HV.int .i64 a11.1), (26, HV.bool (decide (a11.1 < p0)))], [(45017, w12, .arr (eSl eInt).k 83 ((eSl eInt).E a11.2))]⟩) (le_q rfl rfl) ?_
   clear hK K
   refine AW.cond rfl (fun hc => ?_) (fun hc => ?_)
   ·have hc := of_decide_eq_true hc
    have h := ifT hc h
    refine AW.skip ?_
    refine AW.seq (AW.block ?_)
    refine AW.rg rfl fun K hK => ?_
    refine mv rfl rfl ?_
    refine b_op rfl (o_bslM (fid := 45) 45030 rfl rfl rfl (as_of (cs := []) ty83 ty3 rfl rfl rfl rfl rfl) (fun v15 => ?_))
    refine mv rfl rfl ?_
    refine mv rfl rfl ?_
    obtain ⟨x16, h17, h⟩ := bS h
    refine bv rfl (v_idxF ty92 es92 rfl rfl (idx_lt h17)) ?_
    refine bv rfl (v_loadF ty83 rfl (l_cell (eSl eInt) h17 (o := 0) rfl rfl)) ?_
    obtain ⟨h19, h⟩ := ifN h
    refine b_op rfl (o_appE eInt (l := []) (m := x16) rfl rfl ty83 ty83 ty3 rfl rfl rfl rfl rfl h19 (fun v18 => ?_))
    refine mv rfl rfl ?_
    refine b_op rfl (o_bsl rfl rfl (as_of (cs := [HV.int .i64 a11.1]) ty83 ty3 rfl rfl rfl rfl rfl) ?_)
    obtain ⟨h21, h⟩ := ifN h
    refine b_op rfl (o_appE eInt (l := ([] : List Int) ++ x16) (m := [a11.1]) rfl rfl ty83 ty83 ty3 rfl rfl rfl rfl rfl h21 (fun v20 => ?_))
    refine bops_to (to_frz 2 [(45030, v20, .arr eInt.k 3 (eInt.E ((([] : List Int) ++ x16) ++ [a11.1])))] ⟨[(0, HV.int .i64 p0), (1, HV.int .i64 p1), (5, slE (eSl eInt) a2.1), (6, HV.int .i64 a2.2), (7, HV.ar 45017 w12 (eSl eInt).k 0 ((a11.2).length)), (8, HV.int .i64 a7.1), (9, HV.int .i64 a11.1), (26, HV.bool (decide (a11.1 < p0))), (29, HV.ar 45017 w12 (eSl eInt).k 0 ((a11.2).length)), (31, slE (eSl eInt) a2.1), (32, HV.int .i64 a7.1), (33, HV.fptr ((eSl eInt).E a2.1) ((a7.1).toNat * (eSl eInt).k)), (34, slE eInt x16), (36, HV.int .i64 a11.1), (37, slE eInt [a11.1]), (38, slE eInt ((([] : List Int) ++ x16) ++ [a11.1]))], [(45017, w12, .arr (eSl eInt).k 83 ((eSl eInt).E a11.2))]⟩ ⟨⟨_, rfl, rfl⟩, ⟨_, rfl, rfl⟩, ⟨_, rfl, rfl⟩, ⟨_, rfl, rfl⟩, ⟨_, rfl, rfl⟩, ⟨_, rfl, rfl⟩, ⟨_, rfl, rfl⟩, ⟨_, rfl, rfl⟩, ⟨_, rfl, rfl⟩, ⟨_, rfl, rfl⟩, ⟨_, rfl, rfl⟩, ⟨_, rfl, rfl⟩, ⟨_, rfl, rfl⟩, ⟨_, rfl, rfl⟩, ⟨_, rfl, rfl⟩, ⟨_, rfl, frz_slE eInt (l := (([] : List Int) ++ x16) ++ [a11.1]) rfl fun _ _ => rfl⟩, trivial⟩ ⟨rfl, trivial⟩ ⟨rfl, trivial⟩ ⟨rfl, trivial⟩ ?_)
    refine b_op rfl (o_bsl rfl rfl (as_of (cs := [slE eInt ((([] : List Int) ++ x16) ++ [a11.1])]) ty92 ty83 rfl rfl rfl rfl rfl) ?_)
    obtain ⟨h23, h⟩ := ifN h
    refine b_op rfl (o_appE (eSl eInt) (l := a11.2) (m := [(([] : List Int) ++ x16) ++ [a11.1]]) rfl rfl ty92 ty92 ty83 rfl rfl rfl rfl rfl h23 (fun v22 => ?_))
    refine mv rfl rfl ?_
    refine b_fin hK (s' := ⟨[(0, HV.int .i64 p0), (1, HV.int .i64 p1), (5, slE (eSl eInt) a2.1), (6, HV.int .i64 a2.2), (7, HV.ar 45017 v22 (eSl eInt).k 0 ((a11.2 ++ [(([] : List Int) ++ x16) ++ [a11.1]]).length)), (8, HV.int .i64 a7.1), (9, HV.int .i64 a11.1)], [(45017, v22, .arr (eSl eInt).k 83 ((eSl eInt).E (a11.2 ++ [(([] : List Int) ++ x16) ++ [a11.1]])))]⟩) (le_q rfl rfl) ?_
    clear hK K
    refine AW.rg rfl fun K hK => ?_
    refine mv rfl rfl ?_
    refine bv rfl (v_bin rfl rfl b_add) ?_
    refine mv rfl rfl ?_
    refine b_nil (hK _ ?_)
    clear hK K
    exact to_le (s' := ⟨[(0, HV.int .i64 p0), (1, HV.int .i64 p1), (5, slE (eSl eInt) a2.1), (6, HV.int .i64 a2.2), (7, HV.ar 45017 v22 (eSl eInt).k 0 ((a11.2 ++ [(([] : List Int) ++ x16) ++ [a11.1]]).length)), (8, HV.int .i64 a7.1), (9, HV.int .i64 (IntKind.wrap .i64 (a11.1 + 1)))], [(45017, v22, .arr (eSl eInt).k 83 ((eSl eInt).E (a11.2 ++ [(([] : List Int) ++ x16) ++ [a11.1]])))]⟩) (AS.le_of ⟨rfl, rfl, rfl, rfl, rfl, rfl, rfl, trivial⟩ ⟨rfl, trivial⟩) ⟨(IntKind.wrap .i64 (a11.1 + 1), a11.2 ++ [(([] : List Int) ++ x16) ++ [a11.1]]), v22, h, rfl⟩
   have hc := of_decide_eq_false hc
   have h := ifF hc h
   refine AW.exit ?_
   exact to_le (s' := ⟨[(0, HV.int .i64 p0), (1, HV.int .i64 p1), (5, slE (eSl eInt) a2.1), (6, HV.int .i64 a2.2), (7, HV.ar 45017 w12 (eSl eInt).k 0 ((a11.2).length)), (8, HV.int .i64 a7.1)], [(45017, w12, .arr (eSl eInt).k 83 ((eSl eInt).E a11.2))]⟩) (AS.le_of ⟨rfl, rfl, rfl, rfl, rfl, rfl, trivial⟩ ⟨rfl, trivial⟩) ⟨a11.2, w12, h, rfl⟩
  have hc := of_decide_eq_false hc
  have h := ifF hc h
  refine AW.exit ?_
  exact to_le (s' := ⟨[(0, HV.int .i64 p0), (1, HV.int .i64 p1), (6, HV.int .i64 a2.2), (7, HV.ar 45017 w8 (eSl eInt).k 0 ((a7.2).length))], [(45017, w8, .arr (eSl eInt).k 83 ((eSl eInt).E a7.2))]⟩) (AS.le_of ⟨rfl, rfl, rfl, rfl, trivial⟩ ⟨rfl, trivial⟩) ⟨a7.2, w8, h, rfl⟩
 have hc := of_decide_eq_false hc
 have h := ifF hc h
 refine AW.exit ?_
 exact to_le (s' := ⟨[(5, slE (eSl eInt) a2.1)], []⟩) (AS.le_of ⟨rfl, trivial⟩ trivial) ⟨a2.1, (), h, rfl⟩
set_option maxHeartbeats 1600000
set_option maxRecDepth 100000
theorem w_ref25_Encode {p0 : TLettersBlockInputsRows} {p1 : Int} {p2 : List (Int)} {r : (List UInt8) × Int × Int} (h : m_ref25_Encode p0 p1 p2 = some r) : Pure Try.prog 46 [.agg [hI p0.1, hI p0.2.1, hI p0.2.2.1, slE (eSl eToWord) p0.2.2.2], hI p1, slE eInt p2] (· = HV.tup [.str r.1, hI r.2.1, hI r.2.2]) := by
 unfold m_ref25_Encode at h
 refine Pure.of_body Try.func46 rfl rfl (lb rfl) fun hf => ?_
 unfold Try.f46
 dsimp only [enumS, Nat.reduceAdd]
 refine AW.rgs rfl fun K hK => b_op rfl (o_box rfl rfl rfl ?_)
 refine mv rfl rfl (mv rfl rfl (mv rfl rfl ?_))
 refine bf hK ⟨[(1, hI p1), (2, slE eInt p2), (3, .fptr [hI p0.1, hI p0.2.1, hI p0.2.2.1, slE (eSl eToWord) p0.2.2.2] 0)], []⟩ ?_
 refine AW.seq ?_
 refine AW.rgs rfl fun K hK => bv rfl (v_loadF ty40 rfl (l_litA rfl (lb rfl) rfl)) ?_
 obtain ⟨x1, h2, h⟩ := bS h
 refine b_op rfl (o_call rfl rfl rfl rfl (ACallD.pure0 (w_ref25_Check h2)) ?_)
 refine bv rfl (v_bin rfl rfl b_neq) ?_
 refine bf hK ⟨[(1, hI p1), (2, slE eInt p2), (3, .fptr [hI p0.1, hI p0.2.1, hI p0.2.2.1, slE (eSl eToWord) p0.2.2.2] 0), (15, .bool (decide (x1 ≠ 0)))], []⟩ ?_
 refine AW.cond rfl (fun hc => ?_) (fun hc => ?_)
 ·obtain ⟨hc, h⟩ := cT hc h
  refine AW.rgs rfl fun K hK => mv rfl rfl (mv rfl rfl (mv rfl rfl ?_))
  refine bf hK ⟨[(6, .str nS), (7, hI 0), (8, hI 1)], []⟩ ?_
  refine AW.ret ?_
  have h := Option.some.inj h
  subst h
  exact ret_pure (hs := [.str nS, hI 0, hI 1]) (.inr rfl) (resT rfl (resT rfl (resT rfl rfl))) rfl ⟨trivial, trivial, trivial, trivial⟩
 obtain ⟨hc, h⟩ := cF hc h
 refine AW.skip ?_
 refine AW.seq ?_
 refine AW.seqJ h (S := Bool) (V := Unit) (fun a v => ⟨[(1, hI p1), (2, slE eInt p2), (3, .fptr [hI p0.1, hI p0.2.1, hI p0.2.2.1, slE (eSl eToWord) p0.2.2.2] 0), (24, .bool a)], []⟩) (fun a3 w4 h => ?_) (fun k5 h => ?_)
 ·refine AW.cond rfl (fun hc => ?_) (fun hc => ?_)
  ·have h := ifT hc h
   refine AW.rgs rfl fun K hK => mv rfl rfl (mv rfl rfl (mv rfl rfl ?_))
   refine bf hK ⟨[(6, .str nS), (7, hI 0), (8, hI 25)], []⟩ ?_
   refine AW.ret ?_
   have h := Option.some.inj h
   subst h
   exact ret_pure (hs := [.str nS, hI 0, hI 25]) (.inr rfl) (resT rfl (resT rfl (resT rfl rfl))) rfl ⟨trivial, trivial, trivial, trivial⟩
  have h := ifF (bF' hc) h
  refine AW.skip ?_
  refine AW.seq ?_
  refine AW.rgs rfl fun K hK => mv rfl rfl ?_
  refine bf hK ⟨[(1, hI p1), (2, slE eInt p2), (3, .fptr [hI p0.1, hI p0.2.1, hI p0.2.2.1, slE (eSl eToWord) p0.2.2.2] 0), (9, hI 0)], []⟩ ?_
  refine AW.lpR h (by first | exact up_then | exact up_to) (S := Int) (V := Unit) (fun a v => ⟨[(1, hI p1), (2, slE eInt p2), (3, .fptr [hI p0.1, hI p0.2.1, hI p0.2.2.1, slE (eSl eToWord) p0.2.2.2] 0), (9, hI a)], []⟩) ?_ (X := Unit) (W := Unit) (fun a v => ⟨[(1, hI p1), (2, slE eInt p2), (3, .fptr [hI p0.1, hI p0.2.1, hI p0.2.2.1, slE (eSl eToWord) p0.2.2.2] 0)], []⟩) (fun a18 w19 h => ?_) (fun a6 w7 st8 h hr9=> ?_)
  ·exact to_L ⟨(), rfl⟩
  ·refine AW.seq ?_
   refine AW.rgs rfl fun K hK => mv rfl rfl (bv rfl (v_lenF rfl rfl ty83 rfl) (bv rfl (v_fieldAddrF fo40_1 rfl) (bv rfl (v_loadF ty3 rfl (l_lit rfl rfl)) (bv rfl (v_bin rfl rfl b_mul) (bv rfl (v_bin rfl rfl b_gtr) ?_)))))
   refine bf hK ⟨[(1, hI p1), (2, slE eInt p2), (3, .fptr [hI p0.1, hI p0.2.1, hI p0.2.2.1, slE (eSl eToWord) p0.2.2.2] 0), (50, .bool (decide (65536 < (IntKind.wrap .i64 (((p2).length : Int) * p0.2.1)))))], []⟩ ?_
   refine AW.cond rfl (fun hc => ?_) (fun hc => ?_)
   ·obtain ⟨hc, h⟩ := cT hc h
    refine AW.rgs rfl fun K hK => mv rfl rfl (mv rfl rfl (mv rfl rfl ?_))
    refine bf hK ⟨[(6, .str nS), (7, hI 0), (8, hI 4)], []⟩ ?_
    refine AW.ret ?_
    have h := Option.some.inj h
    subst h
    exact ret_pure (hs := [.str nS, hI 0, hI 4]) (.inr rfl) (resT rfl (resT rfl (resT rfl rfl))) rfl ⟨trivial, trivial, trivial, trivial⟩
   obtain ⟨hc, h⟩ := cF hc h
   refine AW.skip ?_
   refine AW.rgs rfl fun K hK => mv rfl rfl ?_
   refine bf hK ⟨[(1, hI p1), (2, slE eInt p2), (3, .fptr [hI p0.1, hI p0.2.1, hI p0.2.2.1, slE (eSl eToWord) p0.2.2.2] 0), (10, .str nS)], []⟩ ?_
   refine AW.seq ?_
   refine AW.rgs rfl fun K hK => mv rfl rfl ?_
   refine bf hK ⟨[(1, hI p1), (2, slE eInt p2), (3, .fptr [hI p0.1, hI p0.2.1, hI p0.2.2.1, slE (eSl eToWord) p0.2.2.2] 0), (10, .str nS), (11, hI 0)], []⟩ ?_
   refine AW.lpX h (by first | exact up_then | exact up_to) (S := Int × (List UInt8) × Int) (V := Unit) (fun a v => ⟨[(1, hI a.1), (2, slE eInt p2), (3, .fptr [hI p0.1, hI p0.2.1, hI p0.2.2.1, slE (eSl eToWord) p0.2.2.2] 0), (10, .str a.2.1), (11, hI a.2.2)], []⟩) ?_ (X := Int × (List UInt8)) (W := Unit) (fun a v => ⟨[(1, hI a.1), (10, .str a.2)], []⟩) (fun a26 w27 h => ?_) (fun a20 w21 st22 h => ?_)
   ·exact to_L ⟨(), rfl⟩
   ·refine AW.rgs rfl fun K hK => mv rfl rfl (mv rfl rfl (mv rfl rfl (mv rfl rfl (mv rfl rfl ?_))))
    refine bf hK ⟨[(6, .str a26.2), (7, hI a26.1), (8, hI 0)], []⟩ ?_
    refine AW.ret ?_
    have h := Option.some.inj h
    subst h
    exact ret_pure (hs := [.str a26.2, hI a26.1, hI 0]) (.inr rfl) (resT rfl (resT rfl (resT rfl rfl))) rfl ⟨trivial, trivial, trivial, trivial⟩
   refine AW.seq ?_
   refine AW.rgs rfl fun K hK => mv rfl rfl (mv rfl rfl (bv rfl (v_lenF rfl rfl ty83 rfl) (bv rfl (v_bin rfl rfl b_lss) ?_)))
   refine bf hK ⟨[(1, hI a20.1), (2, slE eInt p2), (3, .fptr [hI p0.1, hI p0.2.1, hI p0.2.2.1, slE (eSl eToWord) p0.2.2.2] 0), (10, .str a20.2.1), (11, hI a20.2.2), (54, .bool (decide (a20.2.2 < ((p2).length : Int))))], []⟩ ?_
   refine AW.cond rfl (fun hc => ?_) (fun hc => ?_)
   ·obtain ⟨hc, h⟩ := cT hc h
    refine AW.skip ?_
    refine AW.seq (AW.block ?_)
    refine AW.dls follows fun K hK F hF => ?_
    obtain ⟨x240301, h240302, h⟩ := bS h
    obtain ⟨x240701, h240702, h⟩ := bS h
    obtain ⟨x240901, h240902, h⟩ := bS h
    refine l_go (L' := []) hF rfl (s' := ⟨[(1, hI a20.1), (2, slE eInt p2), (3, .fptr [hI p0.1, hI p0.2.1, hI p0.2.2.1, slE (eSl eToWord) p0.2.2.2] 0), (10, .str a20.2.1), (11, hI a20.2.2)], []⟩) ?_ (le_q rfl rfl)
    have g24_16 : ∀ (v241101 : Nat), F [0, 1, 2, 3, 4, 5, 6, 7, 8, 9, 10, 11, 12] ⟨[(2, slE eInt p2), (3, .fptr [hI p0.1, hI p0.2.1, hI p0.2.2.1, slE (eSl eToWord) p0.2.2.2] 0), (10, .str a20.2.1), (11, hI a20.2.2), (12, .ptr 46012 v241101 0)], [(46012, v241101, .arr 2 45 [hI x240901.1, .str x240901.2])]⟩ := by
     intro v241101
     refine l_done hF rfl rfl (hK _ (AW.to (to_le (s' := ⟨[(2, slE eInt p2), (3, .fptr [hI p0.1, hI p0.2.1, hI p0.2.2.1, slE (eSl eToWord) p0.2.2.2] 0), (10, .str a20.2.1), (11, hI a20.2.2), (12, .ptr 46012 v241101 0)], [(46012, v241101, .arr 2 45 [hI x240901.1, .str x240901.2])]⟩) (le_q rfl rfl) ?_)))
     refine AW.rgs rfl fun K hK => mv rfl rfl (bv rfl (v_fieldAddrP fo45_1 rfl rfl) (bv rfl (v_loadP ty9 rfl rfl (l_lit rfl rfl)) ?_))
     obtain ⟨h25, h⟩ := ifN h
     refine bv rfl (v_bin rfl rfl (b_sadd h25)) (mv rfl rfl ?_)
     refine bf hK ⟨[(2, slE eInt p2), (3, .fptr [hI p0.1, hI p0.2.1, hI p0.2.2.1, slE (eSl eToWord) p0.2.2.2] 0), (10, .str (a20.2.1 ++ x240901.2)), (11, hI a20.2.2), (12, .ptr 46012 v241101 0)], [(46012, v241101, .arr 2 45 [hI x240901.1, .str x240901.2])]⟩ ?_
     refine AW.rg rfl fun K hK => bv rfl (v_fieldAddrP fo45_0 rfl rfl) (bv rfl (v_loadP ty3 rfl rfl (l_lit rfl rfl)) (mv rfl rfl ?_))
     refine bf hK ⟨[(1, hI x240901.1), (2, slE eInt p2), (3, .fptr [hI p0.1, hI p0.2.1, hI p0.2.2.1, slE (eSl eToWord) p0.2.2.2] 0), (10, .str (a20.2.1 ++ x240901.2)), (11, hI a20.2.2)], []⟩ ?_
     refine AW.rg rfl fun K hK => mv rfl rfl (bv rfl (v_bin rfl rfl b_add) (mv rfl rfl ?_))
     refine b_nil (hK _ ?_)
     exact to_L ⟨(x240901.1, a20.2.1 ++ x240901.2, IntKind.wrap .i64 (a20.2.2 + 1)), (), h, rfl⟩
    have g24_15 : ∀ (v241101 : Nat), F [0, 1, 2, 3, 4, 5, 6, 7, 8, 9, 10, 11] ⟨[(2, slE eInt p2), (3, .fptr [hI p0.1, hI p0.2.1, hI p0.2.2.1, slE (eSl eToWord) p0.2.2.2] 0), (10, .str a20.2.1), (11, hI a20.2.2), (12, .ptr 46012 v241101 0), (67, .agg [hI x240901.1, .str x240901.2])], [(46012, v241101, .arr 2 45 [hI 0, .str nS])]⟩ := by
     intro v241101
     refine l_step hF rfl [12] rfl rfl ⟨?_, trivial⟩
     ·refine l_op rfl rfl rfl (o_store (cs := [hI x240901.1, .str x240901.2]) (zs := [hI x240901.1, .str x240901.2]) rfl rfl rfl ty45 rfl rfl rfl rfl rfl ?_)
      exact b_nil (lg hF (g24_16 v241101))
    have g24_14 : ∀ (v241101 : Nat), F [0, 1, 2, 3, 4, 5, 6, 7, 8, 9, 11] ⟨[(2, slE eInt p2), (3, .fptr [hI p0.1, hI p0.2.1, hI p0.2.2.1, slE (eSl eToWord) p0.2.2.2] 0), (10, .str a20.2.1), (11, hI a20.2.2), (12, .ptr 46012 v241101 0), (66, .fptr (eToWord.E x240301) ((x240701).toNat * eToWord.k))], [(46012, v241101, .arr 2 45 [hI 0, .str nS])]⟩ := by
     intro v241101
     refine l_step hF rfl [10] rfl rfl ⟨?_, trivial⟩
     ·exact l_ov rfl rfl rfl rfl (v_loadF ty45 rfl (l_agg eToWord h240902 rfl rfl)) (lg hF (g24_15 v241101))
    have g24_23 : F [0, 1, 2, 3, 4, 5, 6, 7, 8, 9, 10] ⟨[(2, slE eInt p2), (3, .fptr [hI p0.1, hI p0.2.1, hI p0.2.2.1, slE (eSl eToWord) p0.2.2.2] 0), (10, .str a20.2.1), (11, hI a20.2.2), (67, .agg [hI x240901.1, .str x240901.2])], []⟩ := by
     refine l_step hF rfl [11] rfl rfl ⟨?_, trivial⟩
     ·refine l_op rfl rfl rfl (o_alloc (fid := 46) (zs := [hI 0, .str nS]) 46012 rfl rfl ty45 rfl (fun v241101 => ?_))
      exact b_nil (lg hF (g24_15 v241101))
    have g24_13 : ∀ (v241101 : Nat), F [0, 1, 2, 3, 4, 5, 6, 7, 8, 11] ⟨[(2, slE eInt p2), (3, .fptr [hI p0.1, hI p0.2.1, hI p0.2.2.1, slE (eSl eToWord) p0.2.2.2] 0), (10, .str a20.2.1), (11, hI a20.2.2), (12, .ptr 46012 v241101 0), (61, slE eToWord x240301), (65, hI x240701)], [(46012, v241101, .arr 2 45 [hI 0, .str nS])]⟩ := by
     intro v241101
     refine l_take (i := 9) hF rfl rfl rfl (v_idxF ty42 es42 rfl rfl (idx_lt h240902)) ?_
     exact lg hF (g24_14 v241101)
    have g24_22 : F [0, 1, 2, 3, 4, 5, 6, 7, 8, 9] ⟨[(2, slE eInt p2), (3, .fptr [hI p0.1, hI p0.2.1, hI p0.2.2.1, slE (eSl eToWord) p0.2.2.2] 0), (10, .str a20.2.1), (11, hI a20.2.2), (66, .fptr (eToWord.E x240301) ((x240701).toNat * eToWord.k))], []⟩ := by
     refine l_step hF rfl [10, 11] rfl rfl ⟨?_, ?_, trivial⟩
     ·exact l_ov rfl rfl rfl rfl (v_loadF ty45 rfl (l_agg eToWord h240902 rfl rfl)) (lg hF (g24_23))
     ·refine l_op rfl rfl rfl (o_alloc (fid := 46) (zs := [hI 0, .str nS]) 46012 rfl rfl ty45 rfl (fun v241101 => ?_))
      exact b_nil (lg hF (g24_14 v241101))
    have g24_12 : ∀ (v241101 : Nat), F [0, 1, 2, 3, 5, 6, 7, 8, 11] ⟨[(2, slE eInt p2), (3, .fptr [hI p0.1, hI p0.2.1, hI p0.2.2.1, slE (eSl eToWord) p0.2.2.2] 0), (10, .str a20.2.1), (11, hI a20.2.2), (12, .ptr 46012 v241101 0), (60, .fptr ((eSl eToWord).E p0.2.2.2) ((a20.1).toNat * (eSl eToWord).k)), (65, hI x240701)], [(46012, v241101, .arr 2 45 [hI 0, .str nS])]⟩ := by
     intro v241101
     refine l_step hF rfl [4] rfl rfl ⟨?_, trivial⟩
     ·exact l_ov rfl rfl rfl rfl (v_loadF ty42 rfl (l_cell (eSl eToWord) h240302 (o := 0) rfl rfl)) (lg hF (g24_13 v241101))
    have g24_18 : ∀ (v241101 : Nat), F [0, 1, 2, 3, 4, 5, 6, 7, 11] ⟨[(2, slE eInt p2), (3, .fptr [hI p0.1, hI p0.2.1, hI p0.2.2.1, slE (eSl eToWord) p0.2.2.2] 0), (10, .str a20.2.1), (11, hI a20.2.2), (12, .ptr 46012 v241101 0), (61, slE eToWord x240301), (64, .fptr (eInt.E p2) ((a20.2.2).toNat * eInt.k))], [(46012, v241101, .arr 2 45 [hI 0, .str nS])]⟩ := by
     intro v241101
     refine l_step hF rfl [8] rfl rfl ⟨?_, trivial⟩
     ·exact l_ov rfl rfl rfl rfl (v_loadF ty3 rfl (l_cell eInt h240702 (o := 0) rfl rfl)) (lg hF (g24_13 v241101))
    have g24_21 : F [0, 1, 2, 3, 4, 5, 6, 7, 8] ⟨[(2, slE eInt p2), (3, .fptr [hI p0.1, hI p0.2.1, hI p0.2.2.1, slE (eSl eToWord) p0.2.2.2] 0), (10, .str a20.2.1), (11, hI a20.2.2), (61, slE eToWord x240301), (65, hI x240701)], []⟩ := by
     refine l_take (i := 9) hF rfl rfl rfl (v_idxF ty42 es42 rfl rfl (idx_lt h240902)) ?_
     exact lg hF (g24_22)
    have g24_11 : ∀ (v241101 : Nat), F [0, 1, 2, 5, 6, 7, 8, 11] ⟨[(2, slE eInt p2), (3, .fptr [hI p0.1, hI p0.2.1, hI p0.2.2.1, slE (eSl eToWord) p0.2.2.2] 0), (10, .str a20.2.1), (11, hI a20.2.2), (12, .ptr 46012 v241101 0), (58, slE (eSl eToWord) p0.2.2.2), (59, hI a20.1), (65, hI x240701)], [(46012, v241101, .arr 2 45 [hI 0, .str nS])]⟩ := by
     intro v241101
     refine l_take (i := 3) hF rfl rfl rfl (v_idxF ty38 es38 rfl rfl (idx_lt h240302)) ?_
     exact lg hF (g24_12 v241101)
    have g24_17 : ∀ (v241101 : Nat), F [0, 1, 2, 3, 5, 6, 7, 11] ⟨[(2, slE eInt p2), (3, .fptr [hI p0.1, hI p0.2.1, hI p0.2.2.1, slE (eSl eToWord) p0.2.2.2] 0), (10, .str a20.2.1), (11, hI a20.2.2), (12, .ptr 46012 v241101 0), (60, .fptr ((eSl eToWord).E p0.2.2.2) ((a20.1).toNat * (eSl eToWord).k)), (64, .fptr (eInt.E p2) ((a20.2.2).toNat * eInt.k))], [(46012, v241101, .arr 2 45 [hI 0, .str nS])]⟩ := by
     intro v241101
     refine l_step hF rfl [4, 8] rfl rfl ⟨?_, ?_, trivial⟩
     ·exact l_ov rfl rfl rfl rfl (v_loadF ty42 rfl (l_cell (eSl eToWord) h240302 (o := 0) rfl rfl)) (lg hF (g24_18 v241101))
     ·exact l_ov rfl rfl rfl rfl (v_loadF ty3 rfl (l_cell eInt h240702 (o := 0) rfl rfl)) (lg hF (g24_12 v241101))
    have g24_20 : F [0, 1, 2, 3, 5, 6, 7, 8] ⟨[(2, slE eInt p2), (3, .fptr [hI p0.1, hI p0.2.1, hI p0.2.2.1, slE (eSl eToWord) p0.2.2.2] 0), (10, .str a20.2.1), (11, hI a20.2.2), (60, .fptr ((eSl eToWord).E p0.2.2.2) ((a20.1).toNat * (eSl eToWord).k)), (65, hI x240701)], []⟩ := by
     refine l_step hF rfl [4, 11] rfl rfl ⟨?_, ?_, trivial⟩
     ·exact l_ov rfl rfl rfl rfl (v_loadF ty42 rfl (l_cell (eSl eToWord) h240302 (o := 0) rfl rfl)) (lg hF (g24_21))
     ·refine l_op rfl rfl rfl (o_alloc (fid := 46) (zs := [hI 0, .str nS]) 46012 rfl rfl ty45 rfl (fun v241101 => ?_))
      exact b_nil (lg hF (g24_12 v241101))
    have g24_25 : F [0, 1, 2, 3, 4, 5, 6, 7] ⟨[(2, slE eInt p2), (3, .fptr [hI p0.1, hI p0.2.1, hI p0.2.2.1, slE (eSl eToWord) p0.2.2.2] 0), (10, .str a20.2.1), (11, hI a20.2.2), (61, slE eToWord x240301), (64, .fptr (eInt.E p2) ((a20.2.2).toNat * eInt.k))], []⟩ := by
     refine l_step hF rfl [8, 11] rfl rfl ⟨?_, ?_, trivial⟩
     ·exact l_ov rfl rfl rfl rfl (v_loadF ty3 rfl (l_cell eInt h240702 (o := 0) rfl rfl)) (lg hF (g24_21))
     ·refine l_op rfl rfl rfl (o_alloc (fid := 46) (zs := [hI 0, .str nS]) 46012 rfl rfl ty45 rfl (fun v241101 => ?_))
      exact b_nil (lg hF (g24_18 v241101))
    have g24_9 : ∀ (v241101 : Nat), F [0, 1, 2, 5, 6, 7, 11] ⟨[(2, slE eInt p2), (3, .fptr [hI p0.1, hI p0.2.1, hI p0.2.2.1, slE (eSl eToWord) p0.2.2.2] 0), (10, .str a20.2.1), (11, hI a20.2.2), (12, .ptr 46012 v241101 0), (58, slE (eSl eToWord) p0.2.2.2), (59, hI a20.1), (64, .fptr (eInt.E p2) ((a20.2.2).toNat * eInt.k))], [(46012, v241101, .arr 2 45 [hI 0, .str nS])]⟩ := by
     intro v241101
     refine l_take (i := 3) hF rfl rfl rfl (v_idxF ty38 es38 rfl rfl (idx_lt h240302)) ?_
     exact lg hF (g24_17 v241101)
    have g24_10 : ∀ (v241101 : Nat), F [0, 2, 5, 6, 7, 8, 11] ⟨[(2, slE eInt p2), (3, .fptr [hI p0.1, hI p0.2.1, hI p0.2.2.1, slE (eSl eToWord) p0.2.2.2] 0), (10, .str a20.2.1), (11, hI a20.2.2), (12, .ptr 46012 v241101 0), (57, .fptr [hI p0.1, hI p0.2.1, hI p0.2.2.1, slE (eSl eToWord) p0.2.2.2] 3), (59, hI a20.1), (65, hI x240701)], [(46012, v241101, .arr 2 45 [hI 0, .str nS])]⟩ := by
     intro v241101
     refine l_step hF rfl [1] rfl rfl ⟨?_, trivial⟩
     ·exact l_ov rfl rfl rfl rfl (v_loadF ty38 rfl (l_lit rfl rfl)) (lg hF (g24_11 v241101))
    have g24_19 : F [0, 1, 2, 5, 6, 7, 8] ⟨[(2, slE eInt p2), (3, .fptr [hI p0.1, hI p0.2.1, hI p0.2.2.1, slE (eSl eToWord) p0.2.2.2] 0), (10, .str a20.2.1), (11, hI a20.2.2), (58, slE (eSl eToWord) p0.2.2.2), (59, hI a20.1), (65, hI x240701)], []⟩ := by
     refine l_take (i := 3) hF rfl rfl rfl (v_idxF ty38 es38 rfl rfl (idx_lt h240302)) ?_
     exact lg hF (g24_20)
    have g24_24 : F [0, 1, 2, 3, 5, 6, 7] ⟨[(2, slE eInt p2), (3, .fptr [hI p0.1, hI p0.2.1, hI p0.2.2.1, slE (eSl eToWord) p0.2.2.2] 0), (10, .str a20.2.1), (11, hI a20.2.2), (60, .fptr ((eSl eToWord).E p0.2.2.2) ((a20.1).toNat * (eSl eToWord).k)), (64, .fptr (eInt.E p2) ((a20.2.2).toNat * eInt.k))], []⟩ := by
     refine l_step hF rfl [4, 8, 11] rfl rfl ⟨?_, ?_, ?_, trivial⟩
     ·exact l_ov rfl rfl rfl rfl (v_loadF ty42 rfl (l_cell (eSl eToWord) h240302 (o := 0) rfl rfl)) (lg hF (g24_25))
     ·exact l_ov rfl rfl rfl rfl (v_loadF ty3 rfl (l_cell eInt h240702 (o := 0) rfl rfl)) (lg hF (g24_20))
     ·refine l_op rfl rfl rfl (o_alloc (fid := 46) (zs := [hI 0, .str nS]) 46012 rfl rfl ty45 rfl (fun v241101 => ?_))
      exact b_nil (lg hF (g24_17 v241101))
    have g24_6 : F [0, 1, 2, 5, 6, 7] ⟨[(2, slE eInt p2), (3, .fptr [hI p0.1, hI p0.2.1, hI p0.2.2.1, slE (eSl eToWord) p0.2.2.2] 0), (10, .str a20.2.1), (11, hI a20.2.2), (58, slE (eSl eToWord) p0.2.2.2), (59, hI a20.1), (64, .fptr (eInt.E p2) ((a20.2.2).toNat * eInt.k))], []⟩ := by
     refine l_take (i := 3) hF rfl rfl rfl (v_idxF ty38 es38 rfl rfl (idx_lt h240302)) ?_
     exact lg hF (g24_24)
    have g24_7 : F [0, 2, 5, 6, 7, 8] ⟨[(2, slE eInt p2), (3, .fptr [hI p0.1, hI p0.2.1, hI p0.2.2.1, slE (eSl eToWord) p0.2.2.2] 0), (10, .str a20.2.1), (11, hI a20.2.2), (57, .fptr [hI p0.1, hI p0.2.1, hI p0.2.2.1, slE (eSl eToWord) p0.2.2.2] 3), (59, hI a20.1), (65, hI x240701)], []⟩ := by
     refine l_step hF rfl [1, 11] rfl rfl ⟨?_, ?_, trivial⟩
     ·exact l_ov rfl rfl rfl rfl (v_loadF ty38 rfl (l_lit rfl rfl)) (lg hF (g24_19))
     ·refine l_op rfl rfl rfl (o_alloc (fid := 46) (zs := [hI 0, .str nS]) 46012 rfl rfl ty45 rfl (fun v241101 => ?_))
      exact b_nil (lg hF (g24_10 v241101))
    have g24_8 : ∀ (v241101 : Nat), F [0, 2, 5, 6, 7, 11] ⟨[(2, slE eInt p2), (3, .fptr [hI p0.1, hI p0.2.1, hI p0.2.2.1, slE (eSl eToWord) p0.2.2.2] 0), (10, .str a20.2.1), (11, hI a20.2.2), (12, .ptr 46012 v241101 0), (57, .fptr [hI p0.1, hI p0.2.1, hI p0.2.2.1, slE (eSl eToWord) p0.2.2.2] 3), (59, hI a20.1), (64, .fptr (eInt.E p2) ((a20.2.2).toNat * eInt.k))], [(46012, v241101, .arr 2 45 [hI 0, .str nS])]⟩ := by
     intro v241101
     refine l_step hF rfl [1, 8] rfl rfl ⟨?_, ?_, trivial⟩
     ·exact l_ov rfl rfl rfl rfl (v_loadF ty38 rfl (l_lit rfl rfl)) (lg hF (g24_9 v241101))
     ·exact l_ov rfl rfl rfl rfl (v_loadF ty3 rfl (l_cell eInt h240702 (o := 0) rfl rfl)) (lg hF (g24_10 v241101))
    have g24_5 : F [0, 2, 5, 6, 7] ⟨[(2, slE eInt p2), (3, .fptr [hI p0.1, hI p0.2.1, hI p0.2.2.1, slE (eSl eToWord) p0.2.2.2] 0), (10, .str a20.2.1), (11, hI a20.2.2), (57, .fptr [hI p0.1, hI p0.2.1, hI p0.2.2.1, slE (eSl eToWord) p0.2.2.2] 3), (59, hI a20.1), (64, .fptr (eInt.E p2) ((a20.2.2).toNat * eInt.k))], []⟩ := by
     refine l_step hF rfl [1, 8, 11] rfl rfl ⟨?_, ?_, ?_, trivial⟩
     ·exact l_ov rfl rfl rfl rfl (v_loadF ty38 rfl (l_lit rfl rfl)) (lg hF (g24_6))
     ·exact l_ov rfl rfl rfl rfl (v_loadF ty3 rfl (l_cell eInt h240702 (o := 0) rfl rfl)) (lg hF (g24_7))
     ·refine l_op rfl rfl rfl (o_alloc (fid := 46) (zs := [hI 0, .str nS]) 46012 rfl rfl ty45 rfl (fun v241101 => ?_))
      exact b_nil (lg hF (g24_8 v241101))
    have g24_4 : F [0, 2, 5, 6] ⟨[(2, slE eInt p2), (3, .fptr [hI p0.1, hI p0.2.1, hI p0.2.2.1, slE (eSl eToWord) p0.2.2.2] 0), (10, .str a20.2.1), (11, hI a20.2.2), (57, .fptr [hI p0.1, hI p0.2.1, hI p0.2.2.1, slE (eSl eToWord) p0.2.2.2] 3), (59, hI a20.1), (62, slE eInt p2), (63, hI a20.2.2)], []⟩ := by
     refine l_take (i := 7) hF rfl rfl rfl (v_idxF ty83 es83 rfl rfl (idx_lt h240702)) ?_
     exact lg hF (g24_5)
    have g24_3 : F [0, 2, 5] ⟨[(2, slE eInt p2), (3, .fptr [hI p0.1, hI p0.2.1, hI p0.2.2.1, slE (eSl eToWord) p0.2.2.2] 0), (10, .str a20.2.1), (11, hI a20.2.2), (57, .fptr [hI p0.1, hI p0.2.1, hI p0.2.2.1, slE (eSl eToWord) p0.2.2.2] 3), (59, hI a20.1), (62, slE eInt p2)], []⟩ := by
     refine l_take (i := 6) hF rfl rfl rfl (mv_val rfl rfl).2 ?_
     exact lg hF (g24_4)
    have g24_2 : F [0, 2] ⟨[(2, slE eInt p2), (3, .fptr [hI p0.1, hI p0.2.1, hI p0.2.2.1, slE (eSl eToWord) p0.2.2.2] 0), (10, .str a20.2.1), (11, hI a20.2.2), (57, .fptr [hI p0.1, hI p0.2.1, hI p0.2.2.1, slE (eSl eToWord) p0.2.2.2] 3), (59, hI a20.1)], []⟩ := by
     refine l_take (i := 5) hF rfl rfl rfl (mv_val rfl rfl).2 ?_
     exact lg hF (g24_3)
    have g24_1 : F [0] ⟨[(1, hI a20.1), (2, slE eInt p2), (3, .fptr [hI p0.1, hI p0.2.1, hI p0.2.2.1, slE (eSl eToWord) p0.2.2.2] 0), (10, .str a20.2.1), (11, hI a20.2.2), (57, .fptr [hI p0.1, hI p0.2.1, hI p0.2.2.1, slE (eSl eToWord) p0.2.2.2] 3)], []⟩ := by
     refine l_take (i := 2) hF rfl rfl rfl (mv_val rfl rfl).2 ?_
     exact lg hF (g24_2)
    have g24_0 : F [] ⟨[(1, hI a20.1), (2, slE eInt p2), (3, .fptr [hI p0.1, hI p0.2.1, hI p0.2.2.1, slE (eSl eToWord) p0.2.2.2] 0), (10, .str a20.2.1), (11, hI a20.2.2)], []⟩ := by
     refine l_take (i := 0) hF rfl rfl rfl (v_fieldAddrF fo40_3 rfl) ?_
     exact lg hF (g24_1)
    exact g24_0
   obtain ⟨hc, h⟩ := cF hc h
   refine AW.exit ?_
   exact to_L ⟨(a20.1, a20.2.1), (), h, rfl⟩
  refine AW.seq ?_
  refine AW.rgs rfl fun K hK => mv rfl rfl (mv rfl rfl (bv rfl (v_lenF rfl rfl ty83 rfl) (bv rfl (v_bin rfl rfl b_lss) ?_)))
  refine bf hK ⟨[(1, hI p1), (2, slE eInt p2), (3, .fptr [hI p0.1, hI p0.2.1, hI p0.2.2.1, slE (eSl eToWord) p0.2.2.2] 0), (9, hI a6), (28, .bool (decide (a6 < ((p2).length : Int))))], []⟩ ?_
  refine AW.cond rfl (fun hc => ?_) (fun hc => ?_)
  ·obtain ⟨hc, h⟩ := cT hc h
   refine AW.skip ?_
   refine AW.seq (AW.block ?_)
   refine AW.seqJ h (S := Bool) (V := Unit) (fun a v => ⟨[(1, hI p1), (2, slE eInt p2), (3, .fptr [hI p0.1, hI p0.2.1, hI p0.2.2.1, slE (eSl eToWord) p0.2.2.2] 0), (9, hI a6), (44, .bool a)], []⟩) (fun a10 w11 h => ?_) (fun k12 h => ?_)
   ·refine AW.cond rfl (fun hc => ?_) (fun hc => ?_)
    ·have h := ifT hc h
     refine AW.rgs rfl fun K hK => mv rfl rfl (mv rfl rfl (mv rfl rfl ?_))
     refine bf hK ⟨[(6, .str nS), (7, hI 0), (8, hI 2)], []⟩ ?_
     have h := hr9 _ h
     refine AW.ret ?_
     have h := Option.some.inj h
     subst h
     exact ret_pure (hs := [.str nS, hI 0, hI 2]) (.inr rfl) (resT rfl (resT rfl (resT rfl rfl))) rfl ⟨trivial, trivial, trivial, trivial⟩
    have h := ifF (bF' hc) h
    refine AW.skip ?_
    refine AW.rg rfl fun K hK => mv rfl rfl (bv rfl (v_bin rfl rfl b_add) (mv rfl rfl ?_))
    refine b_nil (hK _ ?_)
    exact to_L ⟨IntKind.wrap .i64 (a6 + 1), (), h, rfl⟩
   refine AW.dg 14 follows rfl rfl fun K hK => ?_
   refine sm rfl rfl ?_
   refine sm rfl rfl ?_
   obtain ⟨x13, h14, h⟩ := bS h
   refine sv rfl (v_idxF ty83 es83 rfl rfl (idx_lt h14)) ?_
   refine sv rfl (v_loadF ty3 rfl (l_cell eInt h14 (o := 0) rfl rfl)) ?_
   refine sv rfl (v_bin rfl rfl b_lss) ?_
   refine sm rfl rfl ?_
   by_cases hg17 : x13 < 0
   ·have h := ifT hg17 h
    refine s_F rfl rfl rfl rfl rfl (decide_eq_true hg17) ?_
    refine s_F rfl rfl rfl rfl rfl rfl ?_
    refine s_F rfl rfl rfl rfl rfl rfl ?_
    refine s_F rfl rfl rfl rfl rfl rfl ?_
    refine s_F rfl rfl rfl rfl rfl rfl ?_
    refine s_F rfl rfl rfl rfl rfl rfl ?_
    refine s_F rfl rfl rfl rfl rfl rfl ?_
    refine sv rfl (v_pickT rfl rfl rfl) ?_
    refine s_nil ?_
    refine b_nil (hK _ ?_)
    exact to_L ⟨true, (), h, rfl⟩
   have h := ifF hg17 h
   refine s_T rfl rfl rfl rfl rfl (decide_eq_false hg17) (ops_val rfl (mv_val rfl rfl).2 ?_)
   refine s_T rfl rfl rfl rfl rfl rfl (ops_val rfl (mv_val rfl rfl).2 ?_)
   obtain ⟨x15, h16, h⟩ := bS h
   refine s_T rfl rfl rfl rfl rfl rfl (ops_val rfl (v_idxF ty83 es83 rfl rfl (idx_lt h16)) ?_)
   refine s_T rfl rfl rfl rfl rfl rfl (ops_val rfl (v_loadF ty3 rfl (l_cell eInt h16 (o := 0) rfl rfl)) ?_)
   refine s_T rfl rfl rfl rfl rfl rfl (ops_val rfl (v_fieldAddrF fo40_2 rfl) ?_)
   refine s_T rfl rfl rfl rfl rfl rfl (ops_val rfl (v_loadF ty3 rfl (l_lit rfl rfl)) ?_)
   refine s_T rfl rfl rfl rfl rfl rfl (ops_val rfl (v_bin rfl rfl b_geq) ?_)
   refine sv rfl (v_pickF rfl rfl rfl) ?_
   refine s_nil ?_
   refine b_nil (hK _ ?_)
   exact to_L ⟨decide (p0.2.2.1 ≤ x15), (), h, rfl⟩
  obtain ⟨hc, h⟩ := cF hc h
  refine AW.exit ?_
  exact to_L ⟨(), (), h, rfl⟩
 refine AW.rg rfl fun K hK => mv rfl rfl (bv rfl (v_bin rfl rfl b_lss) (mv rfl rfl ?_))
 by_cases hg28 : p1 < 0
 ·have h := ifT hg28 h
  refine b_F rfl rfl rfl rfl rfl (decide_eq_true hg28) ?_
  refine b_F rfl rfl rfl rfl rfl rfl ?_
  refine b_F rfl rfl rfl rfl rfl rfl ?_
  refine b_F rfl rfl rfl rfl rfl rfl ?_
  refine b_F rfl rfl rfl rfl rfl rfl ?_
  refine bv rfl (v_pickT rfl rfl rfl) ?_
  refine b_nil (hK _ ?_)
  exact to_L ⟨true, (), h, rfl⟩
 have h := ifF hg28 h
 refine b_T rfl rfl rfl rfl (decide_eq_false hg28) (o_val rfl (mv_val rfl rfl).2 ?_)
 refine b_T rfl rfl rfl rfl rfl (o_val rfl (v_fieldAddrF fo40_3 rfl) ?_)
 refine b_T rfl rfl rfl rfl rfl (o_val rfl (v_loadF ty38 rfl (l_lit rfl rfl)) ?_)
 refine b_T rfl rfl rfl rfl rfl (o_val rfl (v_lenF rfl rfl ty38 rfl) ?_)
 refine b_T rfl rfl rfl rfl rfl (o_val rfl (v_bin rfl rfl b_geq) ?_)
 refine bv rfl (v_pickF rfl rfl rfl) ?_
 refine b_nil (hK _ ?_)
 exact to_L ⟨decide (((p0.2.2.2).length : Int) ≤ p1), (), h, rfl⟩
theorem w_ref46_hamming {p0 : List UInt8} {p1 : List UInt8} {r : Int} (h : m_ref46_hamming p0 p1 = some r) : Pure Try.prog 47 [.str p0, .str p1] (· = hI r) := by
 unfold m_ref46_hamming at h
 refine Pure.of_body Try.func47 rfl rfl (lb rfl) fun hf => ?_
 unfold Try.f47
 dsimp only [enumS, Nat.reduceAdd]
 refine AW.rgs rfl fun K hK => mv rfl rfl ?_
 refine bf hK ⟨[(0, .str p0), (1, .str p1)], []⟩ ?_
 refine AW.rgs rfl fun K hK => mv rfl rfl ?_
 refine bf hK ⟨[(0, .str p0), (1, .str p1), (5, hI 0)], []⟩ ?_
 refine AW.seq ?_
 refine AW.rgs rfl fun K hK => mv rfl rfl ?_
 refine bf hK ⟨[(0, .str p0), (1, .str p1), (5, hI 0), (6, hI 0)], []⟩ ?_
 refine AW.lpX h (by first | exact up_then | exact up_to) (S := Int × Int) (V := Unit) (fun a v => ⟨[(0, .str p0), (1, .str p1), (5, hI a.1), (6, hI a.2)], []⟩) ?_ (X := Int) (W := Unit) (fun a v => ⟨[(5, hI a)], []⟩) (fun a12 w13 h => ?_) (fun a1 w2 st3 h => ?_)
 ·exact to_L ⟨(), rfl⟩
 ·refine AW.rgs rfl fun K hK => mv rfl rfl (mv rfl rfl ?_)
  refine bf hK ⟨[(4, hI a12)], []⟩ ?_
  refine AW.ret ?_
  have h := Option.some.inj h
  subst h
  exact ret_pure (hs := [hI a12]) (.inr rfl) (resT rfl rfl) rfl trivial
 refine AW.seq ?_
 refine AW.rgs rfl fun K hK => mv rfl rfl (mv rfl rfl (bv rfl (v_lenS rfl rfl ty9 rfl) (bv rfl (v_bin rfl rfl b_lss) ?_)))
 refine bf hK ⟨[(0, .str p0), (1, .str p1), (5, hI a1.1), (6, hI a1.2), (10, .bool (decide (a1.2 < ((p0).length : Int))))], []⟩ ?_
 refine AW.cond rfl (fun hc => ?_) (fun hc => ?_)
 ·obtain ⟨hc, h⟩ := cT hc h
  refine AW.skip ?_
  refine AW.seqJ h (S := Int) (V := Unit) (fun a v => ⟨[(0, .str p0), (1, .str p1), (5, hI a), (6, hI a1.2)], []⟩) (fun a5 w6 h => ?_) (fun k7 h => ?_)
  ·refine AW.rg rfl fun K hK => mv rfl rfl (bv rfl (v_bin rfl rfl b_add) (mv rfl rfl ?_))
   refine b_nil (hK _ ?_)
   exact to_L ⟨(a5, IntKind.wrap .i64 (a1.2 + 1)), (), h, rfl⟩
  refine AW.block ?_
  refine AW.dgs 7 follows rfl rfl fun K hK => ?_
  refine sm rfl rfl ?_
  refine sm rfl rfl ?_
  obtain ⟨x8, h9, h⟩ := bS h
  refine sv rfl (v_idxS ty9 rfl rfl h9) ?_
  refine sm rfl rfl ?_
  refine sm rfl rfl ?_
  obtain ⟨x10, h11, h⟩ := bS h
  refine sv rfl (v_idxS ty9 rfl rfl h11) ?_
  refine sv rfl (v_bin rfl rfl b_neq) ?_
  refine s_nil ?_
  refine bf hK ⟨[(0, .str p0), (1, .str p1), (5, hI a1.1), (6, hI a1.2), (19, .bool (decide ((x8.toNat : Int) ≠ (x10.toNat : Int))))], []⟩ ?_
  refine AW.cond rfl (fun hc => ?_) (fun hc => ?_)
  ·obtain ⟨hc, h⟩ := cT hc h
   refine AW.rg rfl fun K hK => mv rfl rfl (bv rfl (v_bin rfl rfl b_add) (mv rfl rfl ?_))
   refine b_nil (hK _ ?_)
   exact to_L ⟨IntKind.wrap .i64 (a1.1 + 1), (), h, rfl⟩
  obtain ⟨hc, h⟩ := cF hc h
  refine AW.skip ?_
  exact to_L ⟨a1.1, (), h, rfl⟩
 obtain ⟨hc, h⟩ := cF hc h
 refine AW.exit ?_
 exact to_L ⟨a1.1, (), h, rfl⟩
theorem w_ref46_Free {p0 : TLettersBlockInputsRows} {p1 : Int} {p2 : Int} {r : Int × Int} (h : m_ref46_Free p0 p1 p2 = some r) : Pure Try.prog 19 [.agg [hI p0.1, hI p0.2.1, hI p0.2.2.1, slE (eSl eToWord) p0.2.2.2], hI p1, hI p2] (· = HV.tup [hI r.1, hI r.2]) := by
 unfold m_ref46_Free at h
 refine Pure.of_body Try.func19 rfl rfl (lb rfl) fun hf => ?_
 unfold Try.f19
 dsimp only [enumS, Nat.reduceAdd]
 refine AW.rgs rfl fun K hK => b_op rfl (o_box rfl rfl rfl ?_)
 refine mv rfl rfl (mv rfl rfl ?_)
 refine bf hK ⟨[(1, hI p1), (2, hI p2), (3, .fptr [hI p0.1, hI p0.2.1, hI p0.2.2.1, slE (eSl eToWord) p0.2.2.2] 0)], []⟩ ?_
 refine AW.seq ?_
 refine AW.rgs rfl fun K hK => bv rfl (v_loadF ty40 rfl (l_litA rfl (lb rfl) rfl)) ?_
 obtain ⟨x1, h2, h⟩ := bS h
 refine b_op rfl (o_call rfl rfl rfl rfl (ACallD.pure0 (w_ref25_Check h2)) ?_)
 refine bv rfl (v_bin rfl rfl b_neq) ?_
 refine bf hK ⟨[(1, hI p1), (2, hI p2), (3, .fptr [hI p0.1, hI p0.2.1, hI p0.2.2.1, slE (eSl eToWord) p0.2.2.2] 0), (21, .bool (decide (x1 ≠ 0)))], []⟩ ?_
 refine AW.cond rfl (fun hc => ?_) (fun hc => ?_)
 ·obtain ⟨hc, h⟩ := cT hc h
  refine AW.rgs rfl fun K hK => mv rfl rfl (mv rfl rfl ?_)
  refine bf hK ⟨[(6, hI 0), (7, hI 1)], []⟩ ?_
  refine AW.ret ?_
  have h := Option.some.inj h
  subst h
  exact ret_pure (hs := [hI 0, hI 1]) (.inr rfl) (resT rfl (resT rfl rfl)) rfl ⟨trivial, trivial, trivial⟩
 obtain ⟨hc, h⟩ := cF hc h
 refine AW.skip ?_
 refine AW.seq ?_
 refine AW.seqJ h (S := Bool) (V := Unit) (fun a v => ⟨[(1, hI p1), (2, hI p2), (3, .fptr [hI p0.1, hI p0.2.1, hI p0.2.2.1, slE (eSl eToWord) p0.2.2.2] 0), (30, .bool a)], []⟩) (fun a3 w4 h => ?_) (fun k5 h => ?_)
 ·refine AW.cond rfl (fun hc => ?_) (fun hc => ?_)
  ·have h := ifT hc h
   refine AW.rgs rfl fun K hK => mv rfl rfl (mv rfl rfl ?_)
   refine bf hK ⟨[(6, hI 0), (7, hI 25)], []⟩ ?_
   refine AW.ret ?_
   have h := Option.some.inj h
   subst h
   exact ret_pure (hs := [hI 0, hI 25]) (.inr rfl) (resT rfl (resT rfl rfl)) rfl ⟨trivial, trivial, trivial⟩
  have h := ifF (bF' hc) h
  refine AW.skip ?_
  refine AW.seq ?_
  refine AW.seqJ h (S := Bool) (V := Unit) (fun a v => ⟨[(1, hI p1), (2, hI p2), (3, .fptr [hI p0.1, hI p0.2.1, hI p0.2.2.1, slE (eSl eToWord) p0.2.2.2] 0), (36, .bool a)], []⟩) (fun a6 w7 h => ?_) (fun k8 h => ?_)
  ·refine AW.cond rfl (fun hc => ?_) (fun hc => ?_)
   ·have h := ifT hc h
    refine AW.rgs rfl fun K hK => mv rfl rfl (mv rfl rfl ?_)
    refine bf hK ⟨[(6, hI 0), (7, hI 2)], []⟩ ?_
    refine AW.ret ?_
    have h := Option.some.inj h
    subst h
    exact ret_pure (hs := [hI 0, hI 2]) (.inr rfl) (resT rfl (resT rfl rfl)) rfl ⟨trivial, trivial, trivial⟩
   have h := ifF (bF' hc) h
   refine AW.skip ?_
   refine AW.seq ?_
   refine AW.rgs rfl fun K hK => bv rfl (v_fieldAddrF fo40_2 rfl) (bv rfl (v_loadF ty3 rfl (l_lit rfl rfl)) (bv rfl (v_bin rfl rfl b_lss) ?_))
   refine bf hK ⟨[(1, hI p1), (2, hI p2), (3, .fptr [hI p0.1, hI p0.2.1, hI p0.2.2.1, slE (eSl eToWord) p0.2.2.2] 0), (39, .bool (decide (p0.2.2.1 < 2)))], []⟩ ?_
   refine AW.cond rfl (fun hc => ?_) (fun hc => ?_)
   ·obtain ⟨hc, h⟩ := cT hc h
    refine AW.rgs rfl fun K hK => mv rfl rfl (mv rfl rfl ?_)
    refine bf hK ⟨[(6, hI 0), (7, hI 5)], []⟩ ?_
    refine AW.ret ?_
    have h := Option.some.inj h
    subst h
    exact ret_pure (hs := [hI 0, hI 5]) (.inr rfl) (resT rfl (resT rfl rfl)) rfl ⟨trivial, trivial, trivial⟩
   obtain ⟨hc, h⟩ := cF hc h
   refine AW.skip ?_
   refine AW.rgs rfl fun K hK => mv rfl rfl ?_
   refine bf hK ⟨[(1, hI p1), (2, hI p2), (3, .fptr [hI p0.1, hI p0.2.1, hI p0.2.2.1, slE (eSl eToWord) p0.2.2.2] 0), (8, hI 1)], []⟩ ?_
   refine AW.seq ?_
   refine AW.rgs rfl fun K hK => mv rfl rfl ?_
   refine bf hK ⟨[(1, hI p1), (2, hI p2), (3, .fptr [hI p0.1, hI p0.2.1, hI p0.2.2.1, slE (eSl eToWord) p0.2.2.2] 0), (8, hI 1), (9, hI 0)], []⟩ ?_
   refine AW.lpR h (by first | exact up_then | exact up_to) (S := Int × Int) (V := Unit) (fun a v => ⟨[(1, hI p1), (2, hI p2), (3, .fptr [hI p0.1, hI p0.2.1, hI p0.2.2.1, slE (eSl eToWord) p0.2.2.2] 0), (8, hI a.1), (9, hI a.2)], []⟩) ?_ (X := Unit) (W := Unit) (fun a v => ⟨[(1, hI p1), (2, hI p2), (3, .fptr [hI p0.1, hI p0.2.1, hI p0.2.2.1, slE (eSl eToWord) p0.2.2.2] 0)], []⟩) (fun a13 w14 h => ?_) (fun a9 w10 st11 h hr12=> ?_)
   ·exact to_L ⟨(), rfl⟩
   ·refine AW.rgs rfl fun K hK => bv rfl (v_fieldAddrF fo40_2 rfl) (bv rfl (v_loadF ty3 rfl (l_lit rfl rfl)) (mv rfl rfl ?_))
    obtain ⟨x15, h16, h⟩ := bS h
    refine b_op rfl (o_call rfl rfl rfl rfl (ACallD.pure0 (w_ref46_lists h16)) ?_)
    refine mv rfl rfl ?_
    refine bf hK ⟨[(1, hI p1), (2, hI p2), (3, .fptr [hI p0.1, hI p0.2.1, hI p0.2.2.1, slE (eSl eToWord) p0.2.2.2] 0), (10, slE (eSl eInt) x15)], []⟩ ?_
    refine AW.rgs rfl fun K hK => b_op rfl (o_bslM (fid := 19) 19055 rfl rfl rfl (as_of (cs := []) ty22 ty9 rfl rfl rfl rfl rfl) (fun v17 => ?_))
    refine mv rfl rfl ?_
    refine bf hK ⟨[(1, hI p1), (2, hI p2), (3, .fptr [hI p0.1, hI p0.2.1, hI p0.2.2.1, slE (eSl eToWord) p0.2.2.2] 0), (10, slE (eSl eInt) x15), (11, .ar 19055 v17 eStr.k 0 0)], [(19055, v17, .arr eStr.k 9 [])]⟩ ?_
    refine AW.seq ?_
    refine AW.rgs rfl fun K hK => mv rfl rfl ?_
    refine bf hK ⟨[(1, hI p1), (2, hI p2), (3, .fptr [hI p0.1, hI p0.2.1, hI p0.2.2.1, slE (eSl eToWord) p0.2.2.2] 0), (10, slE (eSl eInt) x15), (11, .ar 19055 v17 eStr.k 0 0), (12, hI 0)], [(19055, v17, .arr eStr.k 9 [])]⟩ ?_
    refine AW.lpX h (by first | exact up_then | exact up_to) (S := Int × (List (List UInt8))) (V := Nat) (fun a v => ⟨[(1, hI p1), (2, hI p2), (3, .fptr [hI p0.1, hI p0.2.1, hI p0.2.2.1, slE (eSl eToWord) p0.2.2.2] 0), (10, slE (eSl eInt) x15), (11, .ar 19055 v eStr.k 0 ((a.2).length)), (12, hI a.1)], [(19055, v, .arr eStr.k 9 (eStr.E a.2))]⟩) ?_ (X := (List (List UInt8))) (W := Nat) (fun a v => ⟨[(2, hI p2), (3, .fptr [hI p0.1, hI p0.2.1, hI p0.2.2.1, slE (eSl eToWord) p0.2.2.2] 0), (10, slE (eSl eInt) x15), (11, .ar 19055 v eStr.k 0 ((a).length))], [(19055, v, .arr eStr.k 9 (eStr.E a))]⟩) (fun a28 w29 h => ?_) (fun a18 w19 st20 h => ?_)
    ·exact to_L ⟨v17, rfl⟩
    ·refine AW.rgs rfl fun K hK => mv rfl rfl (bv rfl (v_fieldAddrF fo40_1 rfl) (bv rfl (v_loadF ty3 rfl (l_lit rfl rfl)) (bv rfl (v_bin rfl rfl b_mul) (mv rfl rfl ?_))))
     refine bf hK ⟨[(10, slE (eSl eInt) x15), (11, .ar 19055 w29 eStr.k 0 ((a28).length)), (16, hI (IntKind.wrap .i64 (p2 * p0.2.1)))], [(19055, w29, .arr eStr.k 9 (eStr.E a28))]⟩ ?_
     refine AW.seq ?_
     refine AW.rgs rfl fun K hK => mv rfl rfl ?_
     refine bf hK ⟨[(10, slE (eSl eInt) x15), (11, .ar 19055 w29 eStr.k 0 ((a28).length)), (16, hI (IntKind.wrap .i64 (p2 * p0.2.1))), (17, hI 0)], [(19055, w29, .arr eStr.k 9 (eStr.E a28))]⟩ ?_
     refine AW.lpX h (by first | exact up_then | exact up_to) (S := Int × Int) (V := Unit) (fun a v => ⟨[(10, slE (eSl eInt) x15), (11, .ar 19055 w29 eStr.k 0 ((a28).length)), (16, hI a.1), (17, hI a.2)], [(19055, w29, .arr eStr.k 9 (eStr.E a28))]⟩) ?_ (X := Int) (W := Unit) (fun a v => ⟨[(16, hI a)], []⟩) (fun a61 w62 h => ?_) (fun a30 w31 st32 h => ?_)
     ·exact to_L ⟨(), rfl⟩
     ·refine AW.rgs rfl fun K hK => mv rfl rfl (mv rfl rfl (mv rfl rfl ?_))
      refine bf hK ⟨[(6, hI a61), (7, hI 0)], []⟩ ?_
      refine AW.ret ?_
      have h := Option.some.inj h
      subst h
      exact ret_pure (hs := [hI a61, hI 0]) (.inr rfl) (resT rfl (resT rfl rfl)) rfl ⟨trivial, trivial, trivial⟩
     refine AW.seq ?_
     refine AW.rgs rfl fun K hK => mv rfl rfl (mv rfl rfl (bv rfl (v_lenF rfl rfl ty92 rfl) (bv rfl (v_bin rfl rfl b_lss) ?_)))
     refine bf hK ⟨[(10, slE (eSl eInt) x15), (11, .ar 19055 w29 eStr.k 0 ((a28).length)), (16, hI a30.1), (17, hI a30.2), (84, .bool (decide (a30.2 < ((x15).length : Int))))], [(19055, w29, .arr eStr.k 9 (eStr.E a28))]⟩ ?_
     refine AW.cond rfl (fun hc => ?_) (fun hc => ?_)
     ·obtain ⟨hc, h⟩ := cT hc h
      refine AW.skip ?_
      refine AW.seq (AW.block ?_)
      refine AW.rgs rfl fun K hK => mv rfl rfl ?_
      refine bf hK ⟨[(10, slE (eSl eInt) x15), (11, .ar 19055 w29 eStr.k 0 ((a28).length)), (16, hI a30.1), (17, hI a30.2), (18, hI 0)], [(19055, w29, .arr eStr.k 9 (eStr.E a28))]⟩ ?_
      refine AW.lpX h (by first | exact up_then | exact up_to) (S := Int × Int) (V := Unit) (fun a v => ⟨[(10, slE (eSl eInt) x15), (11, .ar 19055 w29 eStr.k 0 ((a28).length)), (16, hI a.1), (17, hI a30.2), (18, hI a.2)], [(19055, w29, .arr eStr.k 9 (eStr.E a28))]⟩) ?_ (X := Int) (W := Unit) (fun a v => ⟨[(10, slE (eSl eInt) x15), (11, .ar 19055 w29 eStr.k 0 ((a28).length)), (16, hI a), (17, hI a30.2)], [(19055, w29, .arr eStr.k 9 (eStr.E a28))]⟩) (fun a59 w60 h => ?_) (fun a34 w35 st36 h => ?_)
      ·exact to_L ⟨(), rfl⟩
      ·refine AW.rg rfl fun K hK => mv rfl rfl (bv rfl (v_bin rfl rfl b_add) (mv rfl rfl ?_))
       refine b_nil (hK _ ?_)
       exact to_L ⟨(a59, IntKind.wrap .i64 (a30.2 + 1)), (), h, rfl⟩
      refine AW.seq ?_
      refine AW.rgs rfl fun K hK => mv rfl rfl (mv rfl rfl (bv rfl (v_bin rfl rfl b_lss) ?_))
      refine bf hK ⟨[(10, slE (eSl eInt) x15), (11, .ar 19055 w29 eStr.k 0 ((a28).length)), (16, hI a34.1), (17, hI a30.2), (18, hI a34.2), (89, .bool (decide (a34.2 < a30.2)))], [(19055, w29, .arr eStr.k 9 (eStr.E a28))]⟩ ?_
      refine AW.cond rfl (fun hc => ?_) (fun hc => ?_)
      ·obtain ⟨hc, h⟩ := cT hc h
       refine AW.skip ?_
       refine AW.seqJ h (S := Int) (V := Unit) (fun a v => ⟨[(10, slE (eSl eInt) x15), (11, .ar 19055 w29 eStr.k 0 ((a28).length)), (16, hI a), (17, hI a30.2), (18, hI a34.2)], [(19055, w29, .arr eStr.k 9 (eStr.E a28))]⟩) (fun a38 w39 h => ?_) (fun k40 h => ?_)
       ·refine AW.rg rfl fun K hK => mv rfl rfl (bv rfl (v_bin rfl rfl b_add) (mv rfl rfl ?_))
        refine b_nil (hK _ ?_)
        exact to_L ⟨(a38, IntKind.wrap .i64 (a34.2 + 1)), (), h, rfl⟩
       refine AW.block ?_
       refine AW.dgs 13 follows rfl rfl fun K hK => ?_
       refine sm rfl rfl ?_
       refine sm rfl rfl ?_
       obtain ⟨x41, h42, h⟩ := bS h
       refine sv rfl (v_idxF ty92 es92 rfl rfl (idx_lt h42)) ?_
       refine sv rfl (v_loadF ty83 rfl (l_cell (eSl eInt) h42 (o := 0) rfl rfl)) ?_
       obtain ⟨x43, h44, h⟩ := bS h
       refine sv rfl (v_idxF ty83 es83 rfl rfl (idx_lt h44)) ?_
       refine sv rfl (v_loadF ty3 rfl (l_cell eInt h44 (o := 0) rfl rfl)) ?_
       refine sm rfl rfl ?_
       refine sm rfl rfl ?_
       obtain ⟨x45, h46, h⟩ := bS h
       refine sv rfl (v_idxF ty92 es92 rfl rfl (idx_lt h46)) ?_
       refine sv rfl (v_loadF ty83 rfl (l_cell (eSl eInt) h46 (o := 0) rfl rfl)) ?_
       obtain ⟨x47, h48, h⟩ := bS h
       refine sv rfl (v_idxF ty83 es83 rfl rfl (idx_lt h48)) ?_
       refine sv rfl (v_loadF ty3 rfl (l_cell eInt h48 (o := 0) rfl rfl)) ?_
       refine sv rfl (v_bin rfl rfl b_neq) ?_
       refine s_nil ?_
       refine bf hK ⟨[(10, slE (eSl eInt) x15), (11, .ar 19055 w29 eStr.k 0 ((a28).length)), (16, hI a34.1), (17, hI a30.2), (18, hI a34.2), (104, .bool (decide (x43 ≠ x47)))], [(19055, w29, .arr eStr.k 9 (eStr.E a28))]⟩ ?_
       refine AW.cond rfl (fun hc => ?_) (fun hc => ?_)
       ·obtain ⟨hc, h⟩ := cT hc h
        refine AW.dg 12 follows rfl rfl fun K hK => ?_
        refine sm rfl rfl ?_
        refine sm rfl rfl ?_
        refine sm rfl rfl ?_
        obtain ⟨x49, h50, h⟩ := bS h
        refine sv rfl (v_idxA ty22 es22 rfl rfl (idx_lt h50) rfl) ?_
        obtain ⟨x51, h52, h⟩ := bS h
        refine sv rfl (v_loadP ty9 rfl rfl (l_cell eStr h52 (o := 0) rfl rfl)) ?_
        refine sm rfl rfl ?_
        refine sm rfl rfl ?_
        obtain ⟨x53, h54, h⟩ := bS h
        refine sv rfl (v_idxA ty22 es22 rfl rfl (idx_lt h54) rfl) ?_
        obtain ⟨x55, h56, h⟩ := bS h
        refine sv rfl (v_loadP ty9 rfl rfl (l_cell eStr h56 (o := 0) rfl rfl)) ?_
        obtain ⟨x57, h58, h⟩ := bS h
        refine s_op rfl rfl (ops_call rfl rfl rfl rfl (ACallD.pure0 (w_ref46_hamming h58)) ?_)
        refine sv rfl (v_min rfl rfl rfl) ?_
        refine sm rfl rfl ?_
        refine s_nil ?_
        refine b_nil (hK _ ?_)
        exact to_L ⟨min a34.1 x57, (), h, rfl⟩
       obtain ⟨hc, h⟩ := cF hc h
       refine AW.skip ?_
       exact to_L ⟨a34.1, (), h, rfl⟩
      obtain ⟨hc, h⟩ := cF hc h
      refine AW.exit ?_
      exact to_L ⟨a34.1, (), h, rfl⟩
     obtain ⟨hc, h⟩ := cF hc h
     refine AW.exit ?_
     exact to_L ⟨a30.1, (), h, rfl⟩
    refine AW.seq ?_
    refine AW.rgs rfl fun K hK => mv rfl rfl (mv rfl rfl (bv rfl (v_lenF rfl rfl ty92 rfl) (bv rfl (v_bin rfl rfl b_lss) ?_)))
    refine bf hK ⟨[(1, hI p1), (2, hI p2), (3, .fptr [hI p0.1, hI p0.2.1, hI p0.2.2.1, slE (eSl eToWord) p0.2.2.2] 0), (10, slE (eSl eInt) x15), (11, .ar 19055 w19 eStr.k 0 ((a18.2).length)), (12, hI a18.1), (59, .bool (decide (a18.1 < ((x15).length : Int))))], [(19055, w19, .arr eStr.k 9 (eStr.E a18.2))]⟩ ?_
    refine AW.cond rfl (fun hc => ?_) (fun hc => ?_)
    ·obtain ⟨hc, h⟩ := cT hc h
     refine AW.skip ?_
     refine AW.seq (AW.block ?_)
     refine AW.dgs 14 follows rfl rfl fun K hK => ?_
     refine sv rfl (v_loadF ty40 rfl (l_litA rfl (lb rfl) rfl)) ?_
     refine sm rfl rfl ?_
     refine sm rfl rfl ?_
     refine sm rfl rfl ?_
     obtain ⟨x22, h23, h⟩ := bS h
     refine sv rfl (v_idxF ty92 es92 rfl rfl (idx_lt h23)) ?_
     refine sv rfl (v_loadF ty83 rfl (l_cell (eSl eInt) h23 (o := 0) rfl rfl)) ?_
     obtain ⟨x24, h25, h⟩ := bS h
     refine s_op rfl rfl (ops_call rfl rfl rfl rfl (ACallD.pure0 (w_ref25_Encode h25)) ?_)
     refine sm rfl rfl ?_
     refine sv rfl (v_extract rfl rfl) ?_
     refine sv rfl (v_extract rfl rfl) ?_
     refine sv rfl (v_extract rfl rfl) ?_
     refine sm rfl rfl ?_
     refine sm rfl rfl ?_
     refine sm rfl rfl ?_
     refine s_nil ?_
     refine bf hK ⟨[(1, hI p1), (2, hI p2), (3, .fptr [hI p0.1, hI p0.2.1, hI p0.2.2.1, slE (eSl eToWord) p0.2.2.2] 0), (10, slE (eSl eInt) x15), (11, .ar 19055 w19 eStr.k 0 ((a18.2).length)), (12, hI a18.1), (13, .str x24.1)], [(19055, w19, .arr eStr.k 9 (eStr.E a18.2))]⟩ ?_
     refine AW.rg rfl fun K hK => mv rfl rfl (mv rfl rfl ?_)
     refine b_op rfl (o_bsl rfl rfl (as_of (cs := [.str x24.1]) ty22 ty9 rfl rfl rfl rfl rfl) ?_)
     obtain ⟨h27, h⟩ := ifN h
     refine b_op rfl (o_appE eStr (l := a18.2) (m := [x24.1]) rfl rfl ty22 ty22 ty9 rfl rfl rfl rfl rfl h27 (fun v26 => ?_))
     refine mv rfl rfl ?_
     refine bf hK ⟨[(1, hI p1), (2, hI p2), (3, .fptr [hI p0.1, hI p0.2.1, hI p0.2.2.1, slE (eSl eToWord) p0.2.2.2] 0), (10, slE (eSl eInt) x15), (11, .ar 19055 v26 eStr.k 0 ((a18.2 ++ [x24.1]).length)), (12, hI a18.1)], [(19055, v26, .arr eStr.k 9 (eStr.E (a18.2 ++ [x24.1])))]⟩ ?_
     refine AW.rg rfl fun K hK => mv rfl rfl (bv rfl (v_bin rfl rfl b_add) (mv rfl rfl ?_))
     refine b_nil (hK _ ?_)
     exact to_L ⟨(IntKind.wrap .i64 (a18.1 + 1), a18.2 ++ [x24.1]), v26, h, rfl⟩
    obtain ⟨hc, h⟩ := cF hc h
    refine AW.exit ?_
    exact to_L ⟨a18.2, w19, h, rfl⟩
   refine AW.seq ?_
   refine AW.rgs rfl fun K hK => mv rfl rfl (mv rfl rfl (bv rfl (v_bin rfl rfl b_lss) ?_))
   refine bf hK ⟨[(1, hI p1), (2, hI p2), (3, .fptr [hI p0.1, hI p0.2.1, hI p0.2.2.1, slE (eSl eToWord) p0.2.2.2] 0), (8, hI a9.1), (9, hI a9.2), (42, .bool (decide (a9.2 < p2)))], []⟩ ?_
   refine AW.cond rfl (fun hc => ?_) (fun hc => ?_)
   ·obtain ⟨hc, h⟩ := cT hc h
    refine AW.skip ?_
    refine AW.seq (AW.block ?_)
    refine AW.rgs rfl fun K hK => mv rfl rfl (bv rfl (v_fieldAddrF fo40_2 rfl) (bv rfl (v_loadF ty3 rfl (l_lit rfl rfl)) (bv rfl (v_bin rfl rfl b_mul) (mv rfl rfl ?_))))
    refine bf hK ⟨[(1, hI p1), (2, hI p2), (3, .fptr [hI p0.1, hI p0.2.1, hI p0.2.2.1, slE (eSl eToWord) p0.2.2.2] 0), (8, hI (IntKind.wrap .i64 (a9.1 * p0.2.2.1))), (9, hI a9.2)], []⟩ ?_
    refine AW.rgs rfl fun K hK => mv rfl rfl (bv rfl (v_bin rfl rfl b_gtr) ?_)
    refine bf hK ⟨[(1, hI p1), (2, hI p2), (3, .fptr [hI p0.1, hI p0.2.1, hI p0.2.2.1, slE (eSl eToWord) p0.2.2.2] 0), (8, hI (IntKind.wrap .i64 (a9.1 * p0.2.2.1))), (9, hI a9.2), (50, .bool (decide (256 < (IntKind.wrap .i64 (a9.1 * p0.2.2.1)))))], []⟩ ?_
    refine AW.cond rfl (fun hc => ?_) (fun hc => ?_)
    ·obtain ⟨hc, h⟩ := cT hc h
     refine AW.rgs rfl fun K hK => mv rfl rfl (mv rfl rfl ?_)
     refine bf hK ⟨[(6, hI 0), (7, hI 4)], []⟩ ?_
     have h := hr12 _ h
     refine AW.ret ?_
     have h := Option.some.inj h
     subst h
     exact ret_pure (hs := [hI 0, hI 4]) (.inr rfl) (resT rfl (resT rfl rfl)) rfl ⟨trivial, trivial, trivial⟩
    obtain ⟨hc, h⟩ := cF hc h
    refine AW.skip ?_
    refine AW.rg rfl fun K hK => mv rfl rfl (bv rfl (v_bin rfl rfl b_add) (mv rfl rfl ?_))
    refine b_nil (hK _ ?_)
    exact to_L ⟨(IntKind.wrap .i64 (a9.1 * p0.2.2.1), IntKind.wrap .i64 (a9.2 + 1)), (), h, rfl⟩
   obtain ⟨hc, h⟩ := cF hc h
   refine AW.exit ?_
   exact to_L ⟨(), (), h, rfl⟩
  refine AW.rg rfl fun K hK => mv rfl rfl (bv rfl (v_bin rfl rfl b_lss) (mv rfl rfl ?_))
  by_cases hg63 : p2 < 1
  ·have h := ifT hg63 h
   refine b_F rfl rfl rfl rfl rfl (decide_eq_true hg63) ?_
   refine b_F rfl rfl rfl rfl rfl rfl ?_
   refine bv rfl (v_pickT rfl rfl rfl) ?_
   refine b_nil (hK _ ?_)
   exact to_L ⟨true, (), h, rfl⟩
  have h := ifF hg63 h
  refine b_T rfl rfl rfl rfl (decide_eq_false hg63) (o_val rfl (mv_val rfl rfl).2 ?_)
  refine b_T rfl rfl rfl rfl rfl (o_val rfl (v_bin rfl rfl b_gtr) ?_)
  refine bv rfl (v_pickF rfl rfl rfl) ?_
  refine b_nil (hK _ ?_)
  exact to_L ⟨decide (16 < p2), (), h, rfl⟩
 refine AW.rg rfl fun K hK => mv rfl rfl (bv rfl (v_bin rfl rfl b_lss) (mv rfl rfl ?_))
 by_cases hg64 : p1 < 0
 ·have h := ifT hg64 h
  refine b_F rfl rfl rfl rfl rfl (decide_eq_true hg64) ?_
  refine b_F rfl rfl rfl rfl rfl rfl ?_
  refine b_F rfl rfl rfl rfl rfl rfl ?_
  refine b_F rfl rfl rfl rfl rfl rfl ?_
  refine b_F rfl rfl rfl rfl rfl rfl ?_
  refine bv rfl (v_pickT rfl rfl rfl) ?_
  refine b_nil (hK _ ?_)
  exact to_L ⟨true, (), h, rfl⟩
 have h := ifF hg64 h
 refine b_T rfl rfl rfl rfl (decide_eq_false hg64) (o_val rfl (mv_val rfl rfl).2 ?_)
 refine b_T rfl rfl rfl rfl rfl (o_val rfl (v_fieldAddrF fo40_3 rfl) ?_)
 refine b_T rfl rfl rfl rfl rfl (o_val rfl (v_loadF ty38 rfl (l_lit rfl rfl)) ?_)
 refine b_T rfl rfl rfl rfl rfl (o_val rfl (v_lenF rfl rfl ty38 rfl) ?_)
 refine b_T rfl rfl rfl rfl rfl (o_val rfl (v_bin rfl rfl b_geq) ?_)
 refine bv rfl (v_pickF rfl rfl rfl) ?_
 refine b_nil (hK _ ?_)
 exact to_L ⟨decide (((p0.2.2.2).length : Int) ≤ p1), (), h, rfl⟩
theorem w_law46_DistanceFree {p0 : TLettersBlockInputsRows} {p1 : Int} {p2 : Int} {r : Bool} (h : m_law46_DistanceFree p0 p1 p2 = some r) : Pure Try.prog 4 [.agg [hI p0.1, hI p0.2.1, hI p0.2.2.1, slE (eSl eToWord) p0.2.2.2], hI p1, hI p2] (· = HV.bool r) := by
 unfold m_law46_DistanceFree at h
 refine Pure.of_body Try.func4 rfl rfl (lb rfl) fun hf => ?_
 unfold Try.f4
 dsimp only [enumS, Nat.reduceAdd]
 refine AW.rgs rfl fun K hK => b_op rfl (o_box rfl rfl rfl ?_)
 refine mv rfl rfl ?_
 refine bf hK ⟨[(1, hI p1), (2, hI p2), (3, .fptr [hI p0.1, hI p0.2.1, hI p0.2.2.1, slE (eSl eToWord) p0.2.2.2] 0)], []⟩ ?_
 refine AW.seq ?_
 refine AW.seqJ h (S := Bool) (V := Unit) (fun a v => ⟨[(1, hI p1), (2, hI p2), (3, .fptr [hI p0.1, hI p0.2.1, hI p0.2.2.1, slE (eSl eToWord) p0.2.2.2] 0), (44, .bool a)], []⟩) (fun a1 w2 h => ?_) (fun k3 h => ?_)
 ·refine AW.cond rfl (fun hc => ?_) (fun hc => ?_)
  ·have h := ifT hc h
   refine AW.rgs rfl fun K hK => ?_
   obtain ⟨x4, h5, h⟩ := bS h
   refine b_op rfl (o_call rfl rfl rfl rfl (ACallD.pure0 (w_law46_awake h5)) ?_)
   refine mv rfl rfl ?_
   refine bf hK ⟨[(6, .bool x4)], []⟩ ?_
   refine AW.ret ?_
   have h := Option.some.inj h
   subst h
   exact ret_pure (hs := [.bool x4]) (.inr rfl) (resT rfl rfl) rfl trivial
  have h := ifF (bF' hc) h
  refine AW.skip ?_
  refine AW.seq ?_
  refine AW.rgs rfl fun K hK => bv rfl (v_fieldAddrF fo40_3 rfl) (bv rfl (v_loadF ty38 rfl (l_lit rfl rfl)) ?_)
  obtain ⟨x6, h7, h⟩ := bS h
  refine b_op rfl (o_call rfl rfl rfl rfl (ACallD.pure0 (w_slices_ContainsFunc_LLapi_Cell_Lapi_Cell h7)) ?_)
  refine bf hK ⟨[(1, hI p1), (2, hI p2), (3, .fptr [hI p0.1, hI p0.2.1, hI p0.2.2.1, slE (eSl eToWord) p0.2.2.2] 0), (48, .bool x6)], []⟩ ?_
  refine AW.cond rfl (fun hc => ?_) (fun hc => ?_)
  ·have h := ifT hc h
   refine AW.rgs rfl fun K hK => ?_
   obtain ⟨x8, h9, h⟩ := bS h
   refine b_op rfl (o_call rfl rfl rfl rfl (ACallD.pure0 (w_law46_awake h9)) ?_)
   refine mv rfl rfl ?_
   refine bf hK ⟨[(6, .bool x8)], []⟩ ?_
   refine AW.ret ?_
   have h := Option.some.inj h
   subst h
   exact ret_pure (hs := [.bool x8]) (.inr rfl) (resT rfl rfl) rfl trivial
  have h := ifF (bF' hc) h
  refine AW.skip ?_
  refine AW.rgs rfl fun K hK => bv rfl (v_loadF ty40 rfl (l_litA rfl (lb rfl) rfl)) (mv rfl rfl (mv rfl rfl ?_))
  obtain ⟨x10, h11, h⟩ := bS h
  refine b_op rfl (o_call rfl rfl rfl rfl (ACallD.pure0 (w_distance_Free h11)) ?_)
  refine mv rfl rfl (bv rfl (v_extract rfl rfl) (bv rfl (v_extract rfl rfl) (mv rfl rfl (mv rfl rfl ?_))))
  refine bf hK ⟨[(1, hI p1), (2, hI p2), (3, .fptr [hI p0.1, hI p0.2.1, hI p0.2.2.1, slE (eSl eToWord) p0.2.2.2] 0), (7, hI x10.1), (8, hI x10.2)], []⟩ ?_
  refine AW.rgs rfl fun K hK => bv rfl (v_loadF ty40 rfl (l_litA rfl (lb rfl) rfl)) (mv rfl rfl (mv rfl rfl ?_))
  obtain ⟨x12, h13, h⟩ := bS h
  refine b_op rfl (o_call rfl rfl rfl rfl (ACallD.pure0 (w_ref46_Free h13)) ?_)
  refine mv rfl rfl (bv rfl (v_extract rfl rfl) (bv rfl (v_extract rfl rfl) (mv rfl rfl (mv rfl rfl ?_))))
  refine bf hK ⟨[(1, hI p1), (2, hI p2), (3, .fptr [hI p0.1, hI p0.2.1, hI p0.2.2.1, slE (eSl eToWord) p0.2.2.2] 0), (7, hI x10.1), (8, hI x10.2), (9, hI x12.1), (10, hI x12.2)], []⟩ ?_
  refine AW.seq ?_
  refine AW.seqJ h (S := Bool) (V := Unit) (fun a v => ⟨[(1, hI p1), (2, hI p2), (3, .fptr [hI p0.1, hI p0.2.1, hI p0.2.2.1, slE (eSl eToWord) p0.2.2.2] 0), (7, hI x10.1), (8, hI x10.2), (71, .bool a)], []⟩) (fun a14 w15 h => ?_) (fun k16 h => ?_)
  ·refine AW.cond rfl (fun hc => ?_) (fun hc => ?_)
   ·have h := ifT hc h
    refine AW.rgs rfl fun K hK => mv rfl rfl ?_
    refine bf hK ⟨[(6, .bool false)], []⟩ ?_
    refine AW.ret ?_
    have h := Option.some.inj h
    subst h
    exact ret_pure (hs := [.bool false]) (.inr rfl) (resT rfl rfl) rfl trivial
   have h := ifF (bF' hc) h
   refine AW.skip ?_
   refine AW.seq ?_
   refine AW.seqJ h (S := Bool) (V := Unit) (fun a v => ⟨[(1, hI p1), (2, hI p2), (3, .fptr [hI p0.1, hI p0.2.1, hI p0.2.2.1, slE (eSl eToWord) p0.2.2.2] 0), (7, hI x10.1), (77, .bool a)], []⟩) (fun a17 w18 h => ?_) (fun k19 h => ?_)
   ·refine AW.cond rfl (fun hc => ?_) (fun hc => ?_)
    ·have h := ifT hc h
     refine AW.rgs rfl fun K hK => ?_
     obtain ⟨x20, h21, h⟩ := bS h
     refine b_op rfl (o_call rfl rfl rfl rfl (ACallD.pure0 (w_law46_awake h21)) ?_)
     refine mv rfl rfl ?_
     refine bf hK ⟨[(6, .bool x20)], []⟩ ?_
     refine AW.ret ?_
     have h := Option.some.inj h
     subst h
     exact ret_pure (hs := [.bool x20]) (.inr rfl) (resT rfl rfl) rfl trivial
    have h := ifF (bF' hc) h
    refine AW.skip ?_
    refine AW.rgs rfl fun K hK => bv rfl (v_loadF ty40 rfl (l_litA rfl (lb rfl) rfl)) (mv rfl rfl (mv rfl rfl (bv rfl (v_bin rfl rfl b_sub) ?_)))
    obtain ⟨x22, h23, h⟩ := bS h
    refine b_op rfl (o_call rfl rfl rfl rfl (ACallD.pure0 (w_distance_Free h23)) ?_)
    refine mv rfl rfl (bv rfl (v_extract rfl rfl) (bv rfl (v_extract rfl rfl) (mv rfl rfl (mv rfl rfl ?_))))
    refine bf hK ⟨[(3, .fptr [hI p0.1, hI p0.2.1, hI p0.2.2.1, slE (eSl eToWord) p0.2.2.2] 0), (7, hI x10.1), (11, hI x22.1), (12, hI x22.2)], []⟩ ?_
    refine AW.seqJ h (S := Bool) (V := Unit) (fun a v => ⟨[(6, .bool a)], []⟩) (fun a24 w25 h => ?_) (fun k26 h => ?_)
    ·refine AW.ret ?_
     have h := Option.some.inj h
     subst h
     exact ret_pure (hs := [.bool a24]) (.inr rfl) (resT rfl rfl) rfl trivial
    refine AW.rg rfl fun K hK => mv rfl rfl (bv rfl (v_bin rfl rfl b_eql) (mv rfl rfl ?_))
    by_cases hg33 : x22.2 = 0
    ·have h := ifT hg33 h
     refine b_T rfl rfl rfl rfl (decide_eq_true hg33) (o_val rfl (mv_val rfl rfl).2 ?_)
     refine b_T rfl rfl rfl rfl rfl (o_val rfl (mv_val rfl rfl).2 ?_)
     refine b_T rfl rfl rfl rfl rfl (o_val rfl (v_bin rfl rfl b_leq) ?_)
     refine bv rfl (v_pickT rfl rfl rfl) (mv rfl rfl ?_)
     by_cases hg32 : x22.1 ≤ x10.1
     ·have h := ifT hg32 h
      refine b_T rfl rfl rfl rfl (decide_eq_true hg32) (o_val rfl (v_loadF ty40 rfl (l_litA rfl (lb rfl) rfl)) ?_)
      obtain ⟨x27, h28, h⟩ := bS h
      refine b_T rfl rfl rfl rfl rfl (o_call rfl rfl rfl rfl (ACallD.pure0 (w_ref25_Check h28)) ?_)
      refine b_T rfl rfl rfl rfl rfl (o_val rfl (v_bin rfl rfl b_eql) ?_)
      refine bv rfl (v_pickT rfl rfl rfl) (mv rfl rfl ?_)
      by_cases hg31 : x27 = 0
      ·have h := ifT hg31 h
       obtain ⟨x29, h30, h⟩ := bS h
       refine b_T rfl rfl rfl rfl (decide_eq_true hg31) (o_call rfl rfl rfl rfl (ACallD.pure0 (w_law46_awake h30)) ?_)
       refine bv rfl (v_pickT rfl rfl rfl) (mv rfl rfl ?_)
       refine b_nil (hK _ ?_)
       exact to_L ⟨x29, (), h, rfl⟩
      have h := ifF hg31 h
      refine b_F rfl rfl rfl rfl rfl (decide_eq_false hg31) ?_
      refine bv rfl (v_pickF rfl rfl rfl) (mv rfl rfl ?_)
      refine b_nil (hK _ ?_)
      exact to_L ⟨false, (), h, rfl⟩
     have h := ifF hg32 h
     refine b_F rfl rfl rfl rfl rfl (decide_eq_false hg32) ?_
     refine b_F rfl rfl rfl rfl rfl rfl ?_
     refine b_F rfl rfl rfl rfl rfl rfl ?_
     refine bv rfl (v_pickF rfl rfl rfl) (mv rfl rfl ?_)
     refine b_F rfl rfl rfl rfl rfl rfl ?_
     refine bv rfl (v_pickF rfl rfl rfl) (mv rfl rfl ?_)
     refine b_nil (hK _ ?_)
     exact to_L ⟨false, (), h, rfl⟩
    have h := ifF hg33 h
    refine b_F rfl rfl rfl rfl rfl (decide_eq_false hg33) ?_
    refine b_F rfl rfl rfl rfl rfl rfl ?_
    refine b_F rfl rfl rfl rfl rfl rfl ?_
    refine bv rfl (v_pickF rfl rfl rfl) (mv rfl rfl ?_)
    refine b_F rfl rfl rfl rfl rfl rfl ?_
    refine b_F rfl rfl rfl rfl rfl rfl ?_
    refine b_F rfl rfl rfl rfl rfl rfl ?_
    refine bv rfl (v_pickF rfl rfl rfl) (mv rfl rfl ?_)
    refine b_F rfl rfl rfl rfl rfl rfl ?_
    refine bv rfl (v_pickF rfl rfl rfl) (mv rfl rfl ?_)
    refine b_nil (hK _ ?_)
    exact to_L ⟨false, (), h, rfl⟩
   refine AW.rg rfl fun K hK => mv rfl rfl (bv rfl (v_bin rfl rfl b_neq) (mv rfl rfl ?_))
   by_cases hg34 : x10.2 ≠ 0
   ·have h := ifT hg34 h
    refine b_F rfl rfl rfl rfl rfl (decide_eq_true hg34) ?_
    refine b_F rfl rfl rfl rfl rfl rfl ?_
    refine bv rfl (v_pickT rfl rfl rfl) ?_
    refine b_nil (hK _ ?_)
    exact to_L ⟨true, (), h, rfl⟩
   have h := ifF hg34 h
   refine b_T rfl rfl rfl rfl (decide_eq_false hg34) (o_val rfl (mv_val rfl rfl).2 ?_)
   refine b_T rfl rfl rfl rfl rfl (o_val rfl (v_bin rfl rfl b_lss) ?_)
   refine bv rfl (v_pickF rfl rfl rfl) ?_
   refine b_nil (hK _ ?_)
   exact to_L ⟨decide (p2 < 2), (), h, rfl⟩
  refine AW.rg rfl fun K hK => mv rfl rfl (mv rfl rfl (bv rfl (v_bin rfl rfl b_neq) (mv rfl rfl ?_)))
  by_cases hg35 : x10.1 ≠ x12.1
  ·have h := ifT hg35 h
   refine b_F rfl rfl rfl rfl rfl (decide_eq_true hg35) ?_
   refine b_F rfl rfl rfl rfl rfl rfl ?_
   refine b_F rfl rfl rfl rfl rfl rfl ?_
   refine bv rfl (v_pickT rfl rfl rfl) ?_
   refine b_nil (hK _ ?_)
   exact to_L ⟨true, (), h, rfl⟩
  have h := ifF hg35 h
  refine b_T rfl rfl rfl rfl (decide_eq_false hg35) (o_val rfl (mv_val rfl rfl).2 ?_)
  refine b_T rfl rfl rfl rfl rfl (o_val rfl (mv_val rfl rfl).2 ?_)
  refine b_T rfl rfl rfl rfl rfl (o_val rfl (v_bin rfl rfl b_neq) ?_)
  refine bv rfl (v_pickF rfl rfl rfl) ?_
  refine b_nil (hK _ ?_)
  exact to_L ⟨decide (x10.2 ≠ x12.2), (), h, rfl⟩
 refine AW.rg rfl fun K hK => bv rfl (v_fieldAddrF fo40_3 rfl) (bv rfl (v_loadF ty38 rfl (l_lit rfl rfl)) (bv rfl (v_lenF rfl rfl ty38 rfl) (bv rfl (v_bin rfl rfl b_gtr) (mv rfl rfl ?_))))
 by_cases hg46 : 6 < ((p0.2.2.2).length : Int)
 ·have h := ifT hg46 h
  refine b_F rfl rfl rfl rfl rfl (decide_eq_true hg46) ?_
  refine b_F rfl rfl rfl rfl rfl rfl ?_
  refine b_F rfl rfl rfl rfl rfl rfl ?_
  refine b_F rfl rfl rfl rfl rfl rfl ?_
  refine b_U rfl rfl rfl rfl rfl ?_
  refine b_U rfl rfl rfl rfl rfl ?_
  refine b_U rfl rfl rfl rfl rfl ?_
  refine b_F rfl rfl rfl rfl rfl rfl ?_
  refine bv rfl (v_pickT rfl rfl rfl) (mv rfl rfl ?_)
  refine b_F rfl rfl rfl rfl rfl rfl ?_
  refine b_F rfl rfl rfl rfl rfl rfl ?_
  refine b_F rfl rfl rfl rfl rfl rfl ?_
  refine b_F rfl rfl rfl rfl rfl rfl ?_
  refine b_U rfl rfl rfl rfl rfl ?_
  refine b_U rfl rfl rfl rfl rfl ?_
  refine b_U rfl rfl rfl rfl rfl ?_
  refine b_F rfl rfl rfl rfl rfl rfl ?_
  refine bv rfl (v_pickT rfl rfl rfl) (mv rfl rfl ?_)
  refine b_F rfl rfl rfl rfl rfl rfl ?_
  refine b_F rfl rfl rfl rfl rfl rfl ?_
  refine b_F rfl rfl rfl rfl rfl rfl ?_
  refine b_U rfl rfl rfl rfl rfl ?_
  refine b_U rfl rfl rfl rfl rfl ?_
  refine b_F rfl rfl rfl rfl rfl rfl ?_
  refine bv rfl (v_pickT rfl rfl rfl) ?_
  refine b_nil (hK _ ?_)
  exact to_L ⟨true, (), h, rfl⟩
 have h := ifF hg46 h
 refine b_T rfl rfl rfl rfl (decide_eq_false hg46) (o_val rfl (v_fieldAddrF fo40_2 rfl) ?_)
 refine b_T rfl rfl rfl rfl rfl (o_val rfl (v_loadF ty3 rfl (l_lit rfl rfl)) ?_)
 refine b_T rfl rfl rfl rfl rfl (o_val rfl (v_bin rfl rfl b_gtr) ?_)
 refine b_T rfl rfl rfl rfl rfl (o_val rfl (mv_val rfl rfl).2 ?_)
 by_cases hg45 : 4 < p0.2.2.1
 ·have h := ifT hg45 h
  refine b_T rfl rfl rfl rfl (decide_eq_true hg45) (o_val rfl (v_fieldAddrF fo40_2 rfl) ?_)
  refine b_T rfl rfl rfl rfl rfl (o_val rfl (v_loadF ty3 rfl (l_lit rfl rfl)) ?_)
  refine b_T rfl rfl rfl rfl rfl (o_val rfl (v_bin rfl rfl b_leq) ?_)
  refine b_T rfl rfl rfl rfl rfl (o_val rfl (v_pickT rfl rfl rfl) ?_)
  refine bv rfl (v_pickF rfl rfl rfl) (mv rfl rfl ?_)
  by_cases hg40 : p0.2.2.1 ≤ 256
  ·have h := ifT hg40 h
   refine b_F rfl rfl rfl rfl rfl (decide_eq_true hg40) ?_
   refine b_F rfl rfl rfl rfl rfl rfl ?_
   refine b_F rfl rfl rfl rfl rfl rfl ?_
   refine b_F rfl rfl rfl rfl rfl rfl ?_
   refine b_U rfl rfl rfl rfl rfl ?_
   refine b_U rfl rfl rfl rfl rfl ?_
   refine b_U rfl rfl rfl rfl rfl ?_
   refine b_F rfl rfl rfl rfl rfl rfl ?_
   refine bv rfl (v_pickT rfl rfl rfl) (mv rfl rfl ?_)
   refine b_F rfl rfl rfl rfl rfl rfl ?_
   refine b_F rfl rfl rfl rfl rfl rfl ?_
   refine b_F rfl rfl rfl rfl rfl rfl ?_
   refine b_U rfl rfl rfl rfl rfl ?_
   refine b_U rfl rfl rfl rfl rfl ?_
   refine b_F rfl rfl rfl rfl rfl rfl ?_
   refine bv rfl (v_pickT rfl rfl rfl) ?_
   refine b_nil (hK _ ?_)
   exact to_L ⟨true, (), h, rfl⟩
  have h := ifF hg40 h
  refine b_T rfl rfl rfl rfl (decide_eq_false hg40) (o_val rfl (v_fieldAddrF fo40_1 rfl) ?_)
  refine b_T rfl rfl rfl rfl rfl (o_val rfl (v_loadF ty3 rfl (l_lit rfl rfl)) ?_)
  refine b_T rfl rfl rfl rfl rfl (o_val rfl (v_bin rfl rfl b_gtr) ?_)
  refine b_T rfl rfl rfl rfl rfl (o_val rfl (mv_val rfl rfl).2 ?_)
  by_cases hg39 : 4 < p0.2.1
  ·have h := ifT hg39 h
   refine b_T rfl rfl rfl rfl (decide_eq_true hg39) (o_val rfl (v_fieldAddrF fo40_1 rfl) ?_)
   refine b_T rfl rfl rfl rfl rfl (o_val rfl (v_loadF ty3 rfl (l_lit rfl rfl)) ?_)
   refine b_T rfl rfl rfl rfl rfl (o_val rfl (v_bin rfl rfl b_leq) ?_)
   refine b_T rfl rfl rfl rfl rfl (o_val rfl (v_pickT rfl rfl rfl) ?_)
   refine bv rfl (v_pickF rfl rfl rfl) (mv rfl rfl ?_)
   by_cases hg37 : p0.2.1 ≤ 16
   ·have h := ifT hg37 h
    refine b_F rfl rfl rfl rfl rfl (decide_eq_true hg37) ?_
    refine b_F rfl rfl rfl rfl rfl rfl ?_
    refine b_F rfl rfl rfl rfl rfl rfl ?_
    refine b_U rfl rfl rfl rfl rfl ?_
    refine b_U rfl rfl rfl rfl rfl ?_
    refine b_F rfl rfl rfl rfl rfl rfl ?_
    refine bv rfl (v_pickT rfl rfl rfl) ?_
    refine b_nil (hK _ ?_)
    exact to_L ⟨true, (), h, rfl⟩
   have h := ifF hg37 h
   refine b_T rfl rfl rfl rfl (decide_eq_false hg37) (o_val rfl (mv_val rfl rfl).2 ?_)
   refine b_T rfl rfl rfl rfl rfl (o_val rfl (v_bin rfl rfl b_gtr) ?_)
   refine b_T rfl rfl rfl rfl rfl (o_val rfl (mv_val rfl rfl).2 ?_)
   by_cases hg36 : 3 < p2
   ·have h := ifT hg36 h
    refine b_T rfl rfl rfl rfl (decide_eq_true hg36) (o_val rfl (mv_val rfl rfl).2 ?_)
    refine b_T rfl rfl rfl rfl rfl (o_val rfl (v_bin rfl rfl b_leq) ?_)
    refine b_T rfl rfl rfl rfl rfl (o_val rfl (v_pickT rfl rfl rfl) ?_)
    refine bv rfl (v_pickF rfl rfl rfl) ?_
    refine b_nil (hK _ ?_)
    exact to_L ⟨decide (p2 ≤ 16), (), h, rfl⟩
   have h := ifF hg36 h
   refine b_F rfl rfl rfl rfl rfl (decide_eq_false hg36) ?_
   refine b_F rfl rfl rfl rfl rfl rfl ?_
   refine b_T rfl rfl rfl rfl rfl (o_val rfl (v_pickF rfl rfl rfl) ?_)
   refine bv rfl (v_pickF rfl rfl rfl) ?_
   refine b_nil (hK _ ?_)
   exact to_L ⟨false, (), h, rfl⟩
  have h := ifF hg39 h
  refine b_F rfl rfl rfl rfl rfl (decide_eq_false hg39) ?_
  refine b_F rfl rfl rfl rfl rfl rfl ?_
  refine b_F rfl rfl rfl rfl rfl rfl ?_
  refine b_T rfl rfl rfl rfl rfl (o_val rfl (v_pickF rfl rfl rfl) ?_)
  refine bv rfl (v_pickF rfl rfl rfl) (mv rfl rfl ?_)
  refine b_T rfl rfl rfl rfl rfl (o_val rfl (mv_val rfl rfl).2 ?_)
  refine b_T rfl rfl rfl rfl rfl (o_val rfl (v_bin rfl rfl b_gtr) ?_)
  refine b_T rfl rfl rfl rfl rfl (o_val rfl (mv_val rfl rfl).2 ?_)
  by_cases hg38 : 3 < p2
  ·have h := ifT hg38 h
   refine b_T rfl rfl rfl rfl (decide_eq_true hg38) (o_val rfl (mv_val rfl rfl).2 ?_)
   refine b_T rfl rfl rfl rfl rfl (o_val rfl (v_bin rfl rfl b_leq) ?_)
   refine b_T rfl rfl rfl rfl rfl (o_val rfl (v_pickT rfl rfl rfl) ?_)
   refine bv rfl (v_pickF rfl rfl rfl) ?_
   refine b_nil (hK _ ?_)
   exact to_L ⟨decide (p2 ≤ 16), (), h, rfl⟩
  have h := ifF hg38 h
  refine b_F rfl rfl rfl rfl rfl (decide_eq_false hg38) ?_
  refine b_F rfl rfl rfl rfl rfl rfl ?_
  refine b_T rfl rfl rfl rfl rfl (o_val rfl (v_pickF rfl rfl rfl) ?_)
  refine bv rfl (v_pickF rfl rfl rfl) ?_
  refine b_nil (hK _ ?_)
  exact to_L ⟨false, (), h, rfl⟩
 have h := ifF hg45 h
 refine b_F rfl rfl rfl rfl rfl (decide_eq_false hg45) ?_
 refine b_F rfl rfl rfl rfl rfl rfl ?_
 refine b_F rfl rfl rfl rfl rfl rfl ?_
 refine b_T rfl rfl rfl rfl rfl (o_val rfl (v_pickF rfl rfl rfl) ?_)
 refine bv rfl (v_pickF rfl rfl rfl) (mv rfl rfl ?_)
 refine b_T rfl rfl rfl rfl rfl (o_val rfl (v_fieldAddrF fo40_1 rfl) ?_)
 refine b_T rfl rfl rfl rfl rfl (o_val rfl (v_loadF ty3 rfl (l_lit rfl rfl)) ?_)
 refine b_T rfl rfl rfl rfl rfl (o_val rfl (v_bin rfl rfl b_gtr) ?_)
 refine b_T rfl rfl rfl rfl rfl (o_val rfl (mv_val rfl rfl).2 ?_)
 by_cases hg44 : 4 < p0.2.1
 ·have h := ifT hg44 h
  refine b_T rfl rfl rfl rfl (decide_eq_true hg44) (o_val rfl (v_fieldAddrF fo40_1 rfl) ?_)
  refine b_T rfl rfl rfl rfl rfl (o_val rfl (v_loadF ty3 rfl (l_lit rfl rfl)) ?_)
  refine b_T rfl rfl rfl rfl rfl (o_val rfl (v_bin rfl rfl b_leq) ?_)
  refine b_T rfl rfl rfl rfl rfl (o_val rfl (v_pickT rfl rfl rfl) ?_)
  refine bv rfl (v_pickF rfl rfl rfl) (mv rfl rfl ?_)
  by_cases hg42 : p0.2.1 ≤ 16
  ·have h := ifT hg42 h
   refine b_F rfl rfl rfl rfl rfl (decide_eq_true hg42) ?_
   refine b_F rfl rfl rfl rfl rfl rfl ?_
   refine b_F rfl rfl rfl rfl rfl rfl ?_
   refine b_U rfl rfl rfl rfl rfl ?_
   refine b_U rfl rfl rfl rfl rfl ?_
   refine b_F rfl rfl rfl rfl rfl rfl ?_
   refine bv rfl (v_pickT rfl rfl rfl) ?_
   refine b_nil (hK _ ?_)
   exact to_L ⟨true, (), h, rfl⟩
  have h := ifF hg42 h
  refine b_T rfl rfl rfl rfl (decide_eq_false hg42) (o_val rfl (mv_val rfl rfl).2 ?_)
  refine b_T rfl rfl rfl rfl rfl (o_val rfl (v_bin rfl rfl b_gtr) ?_)
  refine b_T rfl rfl rfl rfl rfl (o_val rfl (mv_val rfl rfl).2 ?_)
  by_cases hg41 : 3 < p2
  ·have h := ifT hg41 h
   refine b_T rfl rfl rfl rfl (decide_eq_true hg41) (o_val rfl (mv_val rfl rfl).2 ?_)
   refine b_T rfl rfl rfl rfl rfl (o_val rfl (v_bin rfl rfl b_leq) ?_)
   refine b_T rfl rfl rfl rfl rfl (o_val rfl (v_pickT rfl rfl rfl) ?_)
   refine bv rfl (v_pickF rfl rfl rfl) ?_
   refine b_nil (hK _ ?_)
   exact to_L ⟨decide (p2 ≤ 16), (), h, rfl⟩
  have h := ifF hg41 h
  refine b_F rfl rfl rfl rfl rfl (decide_eq_false hg41) ?_
  refine b_F rfl rfl rfl rfl rfl rfl ?_
  refine b_T rfl rfl rfl rfl rfl (o_val rfl (v_pickF rfl rfl rfl) ?_)
  refine bv rfl (v_pickF rfl rfl rfl) ?_
  refine b_nil (hK _ ?_)
  exact to_L ⟨false, (), h, rfl⟩
 have h := ifF hg44 h
 refine b_F rfl rfl rfl rfl rfl (decide_eq_false hg44) ?_
 refine b_F rfl rfl rfl rfl rfl rfl ?_
 refine b_F rfl rfl rfl rfl rfl rfl ?_
 refine b_T rfl rfl rfl rfl rfl (o_val rfl (v_pickF rfl rfl rfl) ?_)
 refine bv rfl (v_pickF rfl rfl rfl) (mv rfl rfl ?_)
 refine b_T rfl rfl rfl rfl rfl (o_val rfl (mv_val rfl rfl).2 ?_)
 refine b_T rfl rfl rfl rfl rfl (o_val rfl (v_bin rfl rfl b_gtr) ?_)
 refine b_T rfl rfl rfl rfl rfl (o_val rfl (mv_val rfl rfl).2 ?_)
 by_cases hg43 : 3 < p2
 ·have h := ifT hg43 h
  refine b_T rfl rfl rfl rfl (decide_eq_true hg43) (o_val rfl (mv_val rfl rfl).2 ?_)
  refine b_T rfl rfl rfl rfl rfl (o_val rfl (v_bin rfl rfl b_leq) ?_)
  refine b_T rfl rfl rfl rfl rfl (o_val rfl (v_pickT rfl rfl rfl) ?_)
  refine bv rfl (v_pickF rfl rfl rfl) ?_
  refine b_nil (hK _ ?_)
  exact to_L ⟨decide (p2 ≤ 16), (), h, rfl⟩
 have h := ifF hg43 h
 refine b_F rfl rfl rfl rfl rfl (decide_eq_false hg43) ?_
 refine b_F rfl rfl rfl rfl rfl rfl ?_
 refine b_T rfl rfl rfl rfl rfl (o_val rfl (v_pickF rfl rfl rfl) ?_)
 refine bv rfl (v_pickF rfl rfl rfl) ?_
 refine b_nil (hK _ ?_)
 exact to_L ⟨false, (), h, rfl⟩
end Go.AW

namespace Go.AW
open Go
set_option linter.unusedSimpArgs false
set_option linter.unusedVariables false
abbrev Gr := TLabelsStatesEdges
abbrev Ed := TFromLabelTo
def cmp3 (x y : Ed) : Int := if x.1 < y.1 then -1 else if y.1 < x.1 then 1 else if x.2.1 < y.2.1 then -1 else if y.2.1 < x.2.1 then 1 else if x.2.2 < y.2.2 then -1 else if y.2.2 < x.2.2 then 1 else 0
structure VG (g : Gr) : Prop where
 l1 : 1 ≤ g.1
 l2 : g.1 ≤ 256
 s0 : 0 ≤ g.2.1
 s1 : g.2.1 ≤ 64
 el : g.2.2.length ≤ 1024
 ed : ∀ x ∈ g.2.2, 0 ≤ x.1 ∧ x.1 < g.2.1 ∧ 0 ≤ x.2.2 ∧ x.2.2 < g.2.1 ∧ 0 ≤ x.2.1 ∧ x.2.1 < g.1
 ord : ∀ (i : Nat) (h : i + 1 < g.2.2.length), cmp3 (g.2.2[i]'(by omega)) g.2.2[i + 1] < 0
def upto (n : Int) : List Int := (List.range n.toNat).map Int.ofNat
theorem fits_le {k n : Nat} (h : n * k ≤ 140737488355328) (h2 : n ≤ 1048576) : fits k n := ⟨h, by simp only [maxLen]; omega⟩
theorem idx_letter {i : Nat} (h : i < letters.length) : Lib.indexByte letters letters[i] = (i : Int) := by
 have : ∀ j : Fin 16, Lib.indexByte letters (letters[j.1]'j.2) = (j.1 : Int) := by decide
 exact this ⟨i, h⟩
theorem byte_back (c : UInt8) : ((c.toNat : Int).toNat.toUInt8) = c := by simp
def lets (g : Gr) : List UInt8 := letters.take g.1.toNat
section
variable {g : Gr}
end
end Go.AW
namespace Go.AW
open Go
set_option linter.unusedSimpArgs false
set_option linter.unusedVariables false
def lab (c : UInt8) : Int := Lib.indexByte letters c
theorem idxB_neg : ∀ {l : List UInt8} {c : UInt8}, Lib.indexByte l c < 0 ↔ c ∉ l
 | [], c => by simp [Lib.indexByte]
 | b :: l, c => by
  have h := @idxB_neg l c
  have hg := Lib.indexByte_ge l c
  simp only [Lib.indexByte, List.mem_cons, not_or]
  by_cases e : b = c
  ·subst e; simp
  ·have e1 : (b == c) = false := by simpa using e
   simp only [e1, Bool.false_eq_true, if_false]
   by_cases e2 : Lib.indexByte l c = -1
   ·have := h.1 (by omega)
    simp only [e2, beq_self_eq_true, if_true]
    exact ⟨fun _ => ⟨fun e' => e e'.symm, this⟩, fun _ => by decide⟩
   ·have e3 : (Lib.indexByte l c == -1) = false := by simpa using e2
    simp only [e3, Bool.false_eq_true, if_false]
    exact ⟨fun h' => by omega, fun h' => by have := h.2 h'.2; omega⟩
theorem known_eq (L : Int) : m_word_known L = some (decide (1 ≤ L ∧ L ≤ 16)) := by
 unfold m_word_known
 simp only [jp]
 by_cases h1 : 1 ≤ L
 ·rw [if_pos h1]; simp [h1]
 ·rw [if_neg h1]; simp [h1]
theorem wcheck (L : Int) (w : List UInt8) : ∃ e, m_word_Check L w = some e ∧ (e = 0 ↔ (1 ≤ L ∧ L ≤ 16) ∧ w.length ≤ 65536 ∧ ∀ c ∈ w, c ∈ letters.take L.toNat) := by
  unfold m_word_Check
  rw [known_eq]
  simp only [Option.bind_some]
  by_cases h1 : 1 ≤ L ∧ L ≤ 16
  case neg =>
    rw [if_pos (by rw [decide_eq_false h1]; rfl)]
    exact ⟨12, rfl, by simp [h1]⟩
  rw [if_neg (by rw [decide_eq_true h1]; decide)]
  by_cases h2 : 65536 < (w.length : Int)
  · rw [if_pos h2]
    exact ⟨4, rfl, by simp; omega⟩
  rw [if_neg h2]
  have hx : ∀ c : UInt8, m_strings_IndexByte ((([48, 49, 50, 51, 52, 53, 54, 55, 56, 57, 97, 98, 99, 100, 101, 102] : List UInt8).take L.toNat).drop (0 : Int).toNat) (c.toNat : Int) = some (Lib.indexByte (letters.take L.toNat) c) := fun c => by
    unfold m_strings_IndexByte
    rw [byte_back]
    rfl
  have hl := loop_any (body := fun a3 => if a3 < ((w).length : Int) then
            if 0 ≤ (0 : Int) ∧ (0 : Int) ≤ L ∧ L ≤ (([48, 49, 50, 51, 52, 53, 54, 55, 56, 57, 97, 98, 99, 100, 101, 102] : List UInt8).length : Int) then
              (idx w a3).bind fun x8 =>
              (m_strings_IndexByte ((([48, 49, 50, 51, 52, 53, 54, 55, 56, 57, 97, 98, 99, 100, 101, 102] : List UInt8).take (L).toNat).drop (0 : Int).toNat) (x8.toNat : Int)).bind fun x10 =>
              if x10 < 0 then
                some (Stp.exit (Ou.ret 13))
              else
                some (Stp.next (IntKind.wrap .i64 (a3 + 1)))
            else none
          else
            some (Stp.exit (Ou.go ()))) (fun i => (i : Int)) w.length (fun i => decide (Lib.indexByte (letters.take L.toNat) (w.getD i 0) < 0)) (Ou.ret (13 : Int)) (Ou.go ()) (fun i hi => by
      have e1 : w.getD i 0 = w[i] := by simp [List.getD, hi]
      rw [if_pos (lt_int hi), if_pos ⟨by decide, by omega, by show L ≤ (16 : Int); omega⟩, ix hi]
      simp only [Option.bind_some, hx, nx (by omega : w.length ≤ _) hi, e1, decide_eq_true_eq]) (by rw [if_neg (not_lt_int _)]) (s0 := (0 : Int)) rfl
  rw [hl]
  by_cases hw : ∀ c ∈ w, c ∈ letters.take L.toNat
  · rw [if_neg]
    · exact ⟨0, rfl, by simp only [true_iff]; exact ⟨h1, by omega, hw⟩⟩
    · intro ha
      obtain ⟨i, hi, hp⟩ := List.any_eq_true.1 ha
      have hi := List.mem_range.1 hi
      have e1 : w.getD i 0 = w[i] := by simp [List.getD, hi]
      rw [e1] at hp
      exact idxB_neg.1 (of_decide_eq_true hp) (hw _ (List.getElem_mem hi))
  · rw [if_pos]
    · exact ⟨13, rfl, by simp only [show ¬ (13 : Int) = 0 by decide, false_iff]; exact fun h => hw h.2.2⟩
    · apply Classical.byContradiction
      intro hno
      refine hw fun c hc => ?_
      obtain ⟨i, hi, rfl⟩ := List.getElem_of_mem hc
      apply Classical.byContradiction
      intro hn
      refine hno (List.any_eq_true.2 ⟨i, List.mem_range.2 hi, ?_⟩)
      have e1 : w.getD i 0 = w[i] := by simp [List.getD, hi]
      rw [e1]
      exact decide_eq_true (idxB_neg.2 hn)
def WOk (g : Gr) (w : List UInt8) : Prop := w.length ≤ 65536 ∧ ∀ c ∈ w, c ∈ lets g
section
variable {g : Gr}
end
theorem WOk.sub {g : Gr} {w u : List UInt8} (h : WOk g w) (hl : u.length ≤ w.length) (hs : ∀ c ∈ u, c ∈ w) : WOk g u := ⟨Nat.le_trans hl h.1, fun c hc => h.2 c (hs c hc)⟩
end Go.AW
namespace Go.AW
open Go
set_option linter.unusedSimpArgs false
set_option linter.unusedVariables false
section
variable {g : Gr}
def canB (g : Gr) : List UInt8 → List Bool
 | [] => List.replicate g.2.1.toNat true
 | c :: w => (upto g.2.1).map fun s => g.2.2.any fun x => decide (x.1 = s ∧ x.2.1 = lab c) && (canB g w).getD x.2.2.toNat false
def okE (g : Gr) (w : List UInt8) (c : UInt8) (prev : Option Int) (x : Ed) : Bool := decide (x.2.1 = lab c) && (canB g w).getD x.2.2.toNat false && (match prev with
 | none => true
 | some s => decide (x.1 = s))
def pick (g : Gr) (w : List UInt8) (c : UInt8) (prev : Option Int) : Nat := g.2.2.findIdx (okE g w c prev)
end
end Go.AW
namespace Go.AW
open Go
set_option linter.unusedSimpArgs false
set_option linter.unusedVariables false
section
variable {g : Gr}
end
end Go.AW
namespace Go.AW
open Go
set_option linter.unusedSimpArgs false
set_option linter.unusedVariables false
section
variable {g : Gr}
theorem loopN_eq {S X : Type} {body : S → Option (Stp S X)} (x0 : X) (n : Nat) (I : Nat → S → Prop)
  (step : ∀ i s, i < n → I i s → (∃ s', body s = some (.next s') ∧ I (i + 1) s') ∨ ∃ x, body s = some (.exit x) ∧ x = x0) (fin : ∀ s, I n s → ∃ x, body s = some (.exit x) ∧ x = x0) {s0 : S} (h : I 0 s0) : loopW body s0 = some x0 := by
 obtain ⟨x, hx, rfl⟩ := loopN n I step fin 0 s0 (Nat.zero_le _) h
 exact hx
end
end Go.AW
namespace Go.AW
open Go
set_option linter.unusedSimpArgs false
set_option linter.unusedVariables false
section
variable {g : Gr}
end
end Go.AW
namespace Go.AW
open Go
set_option linter.unusedSimpArgs false
set_option linter.unusedVariables false
section
variable {β : Type}
end
section
variable {g : Gr}
end
end Go.AW
namespace Go.AW
open Go
set_option linter.unusedSimpArgs false
set_option linter.unusedVariables false
section
variable {g : Gr}
end
end Go.AW
namespace Go.AW
open Go
set_option linter.unusedSimpArgs false
set_option linter.unusedVariables false
section
variable {g : Gr}
end
end Go.AW
namespace Go.AW
open Go
set_option linter.unusedSimpArgs false
set_option linter.unusedVariables false
section
variable {g : Gr}
end
end Go.AW
namespace Go.AW
open Go
set_option linter.unusedSimpArgs false
set_option linter.unusedVariables false
theorem u8_int {a b : UInt8} : ((a.toNat : Int) = (b.toNat : Int)) ↔ a = b := by
 constructor
 ·intro h
  exact UInt8.toNat_inj.1 (by omega)
 ·rintro rfl; rfl
theorem lab_none {c : UInt8} (h : c ∉ letters) : lab c = -1 := by
 have h1 : lab c < 0 := idxB_neg.2 h
 have h2 := Lib.indexByte_ge letters c
 show Lib.indexByte letters c = -1
 have h1 : Lib.indexByte letters c < 0 := h1
 omega
theorem digit_eq (c : UInt8) : m_ref07_Digit (c.toNat : Int) = some (lab c) := by
 unfold m_ref07_Digit
 refine lpL (loopN_eq (if c ∈ letters then .ret (lab c) else .go ()) 16 (fun i s => s = (i : Int) ∧ ∀ j (_ : j < i) (h : j < letters.length), letters[j] ≠ c) ?_ ?_ ⟨rfl, fun j hj => by omega⟩) ?_
 ·rintro i s hi ⟨rfl, hne⟩
  have hil : i < letters.length := hi
  have hx : idx ([48, 49, 50, 51, 52, 53, 54, 55, 56, 57, 97, 98, 99, 100, 101, 102] : List UInt8) (i : Int) = some letters[i] := ix (l := letters) hil
  rw [if_pos (by omega), hx]
  simp only [Option.bind_some, u8_int]
  by_cases e : letters[i] = c
  ·rw [if_pos e]
   refine .inr ⟨_, rfl, ?_⟩
   rw [if_pos (by rw [← e]; exact List.getElem_mem hil)]
   congr 1
   rw [← e]
   exact (idx_letter hil).symm
  ·rw [if_neg e]
   refine .inl ⟨_, rfl, nx (by omega : (16 : Nat) ≤ _) hi, fun j hj h => ?_⟩
   by_cases hji : j = i
   ·subst hji; exact e
   ·exact hne j (by omega) h
 ·rintro s ⟨rfl, hne⟩
  rw [if_neg (by omega)]
  refine ⟨_, rfl, ?_⟩
  rw [if_neg]
  intro hm
  obtain ⟨j, hj, e⟩ := List.getElem_of_mem hm
  exact hne j hj hj e
 ·by_cases h : c ∈ letters
  ·rw [if_pos h]; rfl
  ·rw [if_neg h, lab_none h]; rfl
theorem lab_take {L : Int} (h1 : 1 ≤ L) (h16 : L ≤ 16) (c : UInt8) : (c ∉ letters.take L.toNat) ↔ lab c < 0 ∨ L ≤ lab c := by
 by_cases h : c ∈ letters
 ·obtain ⟨i, hi, rfl⟩ := List.getElem_of_mem h
  have e : lab letters[i] = (i : Int) := idx_letter hi
  rw [e]
  constructor
  ·intro hn
   right
   apply Classical.byContradiction
   intro hlt
   exact hn (List.mem_take_iff_getElem.2 ⟨i, by omega, rfl⟩)
  ·rintro (h0 | h0) hm
   ·omega
   ·obtain ⟨j, hj, e2⟩ := List.mem_take_iff_getElem.1 hm
    have := (List.getElem_inj (h₀ := by omega) (h₁ := hi) letters_nodup).1 e2
    omega
 ·rw [lab_none h]
  exact ⟨fun _ => .inl (by omega), fun _ hm => h (List.mem_of_mem_take hm)⟩
theorem rcheck (L : Int) (w : List UInt8) : m_ref07_Check L w = m_word_Check L w := by
 unfold m_ref07_Check m_word_Check
 rw [known_eq]
 simp only [jp, Option.bind_some]
 by_cases h1 : 1 ≤ L ∧ L ≤ 16
 case neg =>
  rw [if_pos (show (!decide (1 ≤ L ∧ L ≤ 16)) = true by rw [decide_eq_false h1]; rfl)]
  by_cases h0 : L < 1
  ·rw [if_pos h0]; rfl
  ·rw [if_neg h0, if_pos (decide_eq_true (by omega))]
 rw [if_neg (show ¬ (!decide (1 ≤ L ∧ L ≤ 16)) = true by rw [decide_eq_true h1]; decide), if_neg (by omega : ¬ L < 1), if_neg (show ¬ decide (16 < L) = true by simp; omega)]
 by_cases h2 : 65536 < (w.length : Int)
 ·rw [if_pos h2, if_pos h2]
 rw [if_neg h2, if_neg h2]
 congr 2
 funext a
 by_cases ha : a < (w.length : Int)
 case neg => rw [if_neg ha, if_neg ha]
 have hc0 : 0 ≤ (0 : Int) ∧ (0 : Int) ≤ L ∧ L ≤ (([48, 49, 50, 51, 52, 53, 54, 55, 56, 57, 97, 98, 99, 100, 101, 102] : List UInt8).length : Int) := ⟨by decide, by omega, by show L ≤ (16 : Int); omega⟩
 rw [if_pos ha, if_pos ha, if_pos hc0]
 cases hx : idx w a with
 | none => rfl
 | some c =>
  simp only [Option.bind_some, digit_eq]
  have hs : m_strings_IndexByte ((([48, 49, 50, 51, 52, 53, 54, 55, 56, 57, 97, 98, 99, 100, 101, 102] : List UInt8).take L.toNat).drop (0 : Int).toNat) (c.toNat : Int) = some (Lib.indexByte (letters.take L.toNat) c) := by
   unfold m_strings_IndexByte
   rw [byte_back]
   rfl
  rw [hs]
  simp only [Option.bind_some]
  have hiff := (idxB_neg (l := letters.take L.toNat) (c := c)).trans (lab_take h1.1 h1.2 c)
  by_cases h3 : lab c < 0
  ·rw [if_pos h3, if_pos (hiff.2 (.inl h3))]; rfl
  ·rw [if_neg h3]
   by_cases h4 : L ≤ lab c
   ·rw [if_pos (decide_eq_true h4), if_pos (hiff.2 (.inr h4))]
   ·rw [if_neg (by simp; omega), if_neg (fun h => by rcases hiff.1 h with h | h <;> omega)]
section
variable {g : Gr}
end
end Go.AW
namespace Go.AW
open Go
set_option linter.unusedSimpArgs false
set_option linter.unusedVariables false
abbrev En := TLettersBlockInputsRows
theorem body_eq (p0 : En) : (show Int → Option (Stp Int (Ou Unit Int)) from (fun a7 =>
             if a7 < ((p0.2.2.2).length : Int) then
              (idx p0.2.2.2 a7).bind fun x11 =>
              if ((x11).length : Int) ≠ p0.2.2.1 then
               some (Stp.exit (Ou.ret 11))
              else
               lpO (loopW (S := Int) (X := Ou (Unit) (Int)) (fun a13 =>
                   if a13 < ((x11).length : Int) then
                    (idx x11 a13).bind fun x17 =>
                    jp (fun (a20 : Bool) =>
                      if a20 = true then
                       some (Stp.exit (Ou.ret 25))
                      else
                       jp (fun (a23 : Bool) =>
                         if a23 = true then
                          some (Stp.exit (Ou.ret 13))
                         else
                          some (Stp.next (IntKind.wrap .i64 (a13 + 1))))
                         fun k25 =>
                        if ((x17.2).length : Int) ≠ p0.2.1 then
                         k25 true
                        else
                         (m_word_Check p0.1 x17.2).bind fun x26 =>
                         k25 (decide (x26 ≠ 0)))
                      fun k22 =>
                     if x17.1 < 0 then
                      k22 true
                     else
                      k22 (decide (((p0.2.2.2).length : Int) ≤ x17.1))
                   else
                    some (Stp.exit (Ou.go ()))) 0) (fun a30 =>
                   some (Stp.next (IntKind.wrap .i64 (a7 + 1)))) (fun r => some (Stp.exit (Ou.ret r)))
             else
              some (Stp.exit (Ou.go ())))) = (show Int → Option (Stp Int (Ou Unit Int)) from (fun a7 =>
             if a7 < ((p0.2.2.2).length : Int) then
              (idx p0.2.2.2 a7).bind fun x11 =>
              if ((x11).length : Int) ≠ p0.2.2.1 then
               some (Stp.exit (Ou.ret 11))
              else
               lpO (loopW (S := Int) (X := Ou (Unit) (Int)) (fun a13 =>
                   (idx p0.2.2.2 a7).bind fun x17 =>
                   if a13 < ((x17).length : Int) then
                    (idx p0.2.2.2 a7).bind fun x19 =>
                    (idx x19 a13).bind fun x21 =>
                    jp (fun (a24 : Bool) =>
                      if a24 = true then
                       some (Stp.exit (Ou.ret 25))
                      else
                       jp (fun (a27 : Bool) =>
                         if a27 = true then
                          some (Stp.exit (Ou.ret 13))
                         else
                          some (Stp.next (IntKind.wrap .i64 (a13 + 1))))
                         fun k29 =>
                        if ((x21.2).length : Int) ≠ p0.2.1 then
                         k29 true
                        else
                         (m_word_Check p0.1 x21.2).bind fun x30 =>
                         k29 (decide (x30 ≠ 0)))
                      fun k26 =>
                     if x21.1 < 0 then
                      k26 true
                     else
                      k26 (decide (((p0.2.2.2).length : Int) ≤ x21.1))
                   else
                    some (Stp.exit (Ou.go ()))) 0) (fun a34 =>
                   some (Stp.next (IntKind.wrap .i64 (a7 + 1)))) (fun r => some (Stp.exit (Ou.ret r)))
             else
              some (Stp.exit (Ou.go ())))) := by
  funext a7
  by_cases h : a7 < (p0.2.2.2.length : Int)
  case neg => rw [if_neg h, if_neg h]
  rw [if_pos h, if_pos h]
  cases hx : idx p0.2.2.2 a7 with
  | none => rfl
  | some x11 => simp only [Option.bind_some]
theorem encCheck_eq (p0 : En) : m_encoder_Check p0 = m_ref25_Check p0 := by
 unfold m_encoder_Check m_ref25_Check
 simp only [rcheck]
 rw [body_eq p0]
def ham : List UInt8 → List UInt8 → Nat
 | a :: u, b :: v => (if a = b then 0 else 1) + ham u v
 | _, _ => 0
theorem ham_take : ∀ (u v : List UInt8) (i : Nat) (h : i < u.length) (h' : i < v.length), ham (u.take (i + 1)) (v.take (i + 1)) = ham (u.take i) (v.take i) + (if u[i] = v[i] then 0 else 1)
 | a :: u, b :: v, 0, _, _ => by simp [ham]
 | a :: u, b :: v, i + 1, h, h' => by
  have := ham_take u v i (by simpa using h) (by simpa using h')
  simp only [List.take_succ_cons, ham, List.getElem_cons_succ]
  omega
theorem ham_le : ∀ (u v : List UInt8), ham u v ≤ u.length
 | [], _ => Nat.zero_le _
 | a :: u, [] => Nat.zero_le _
 | a :: u, b :: v => by have := ham_le u v; simp only [ham, List.length_cons]; split <;> omega
theorem ham_take_left : ∀ (u v : List UInt8), ham u (v.take u.length) = ham u v
 | [], _ => rfl
 | a :: u, [] => rfl
 | a :: u, b :: v => by simp [ham, ham_take_left u v]
theorem toNat_ne {a b : UInt8} : ((a.toNat : Int) ≠ (b.toNat : Int)) ↔ a ≠ b := by
 rw [ne_eq, ne_eq, Int.ofNat_inj, UInt8.toNat_inj]
theorem hamming_eq {u v : List UInt8} (hl : u.length ≤ v.length) (hm : u.length ≤ 9223372036854775807) : m_distance_hamming u v = some (ham u v : Int) := by
 unfold m_distance_hamming
 refine bindL (loop_is (fun i => ((ham (u.take i) (v.take i) : Int), (i : Int))) u.length (ham u v : Int) (fun i hi => ?_) ?_ (by simp [ham])) rfl
 ·have hi2 : i < v.length := by omega
  dsimp only
  rw [if_pos (lt_int hi), ix hi, ix hi2]
  simp only [jp, Option.bind_some, nx hm hi, ham_take u v i hi hi2]
  have hle := ham_le (u.take i) (v.take i)
  rw [List.length_take] at hle
  by_cases he : u[i] = v[i]
  ·rw [if_neg (by rw [toNat_ne]; exact fun h => h he), if_pos he]
   rfl
  ·rw [if_pos (toNat_ne.2 he), if_neg he, w64 (by omega) (by omega)]
   rfl
 ·dsimp only
  rw [if_neg (not_lt_int _), List.take_length, ham_take_left]
theorem scan_loop {n : Nat} {body : Int → Option (Stp Int (Ou Unit Int))} (P : Nat → Prop) (h : ∀ i, i < n → (body (i : Int) = some (.next ((i + 1 : Nat) : Int)) ∧ P i) ∨ ∃ c, c ≠ 0 ∧ body (i : Int) = some (.exit (Ou.ret c))) (hf : body (n : Int) = some (.exit (Ou.go ()))) :
  ∃ x, loopW body (0 : Int) = some x ∧ ((x = Ou.go () ∧ ∀ i, i < n → P i) ∨ ∃ c, c ≠ 0 ∧ x = Ou.ret c) :=
 loopN n (fun i s => s = (i : Int) ∧ ∀ j, j < i → P j) (fun i s hi ⟨hs, hp⟩ => by
  subst hs
  rcases h i hi with ⟨h1, h2⟩ | ⟨c, h1, h2⟩
  ·refine .inl ⟨_, h1, rfl, fun j hj => ?_⟩
   by_cases e : j = i
   ·subst e; exact h2
   ·exact hp j (by omega)
  ·exact .inr ⟨_, h2, .inr ⟨c, h1, rfl⟩⟩) (fun s ⟨hs, hp⟩ => by subst hs; exact ⟨_, hf, .inl ⟨rfl, hp⟩⟩) 0 0 (Nat.zero_le _) ⟨rfl, fun j hj => by omega⟩
structure VE (e : En) : Prop where
 l1 : 1 ≤ e.1 ∧ e.1 ≤ 16
 b1 : 1 ≤ e.2.1 ∧ e.2.1 ≤ 16
 i1 : 1 ≤ e.2.2.1 ∧ e.2.2.1 ≤ 256
 r1 : 1 ≤ e.2.2.2.length ∧ e.2.2.2.length ≤ 64
 row : ∀ r ∈ e.2.2.2, (r.length : Int) = e.2.2.1 ∧ ∀ x ∈ r, (0 ≤ x.1 ∧ x.1 < (e.2.2.2.length : Int)) ∧ (x.2.length : Int) = e.2.1
theorem encCheck_tot (e : En) : ∃ c, m_encoder_Check e = some c ∧ (c = 0 → VE e) := by
  unfold m_encoder_Check
  simp only [jp]
  by_cases l1 : e.1 < 1
  · rw [if_pos l1]; exact ⟨_, rfl, fun h => by cases h⟩
  rw [if_neg l1]
  by_cases l2 : 16 < e.1
  · rw [if_pos (decide_eq_true l2)]; exact ⟨_, rfl, fun h => by cases h⟩
  rw [if_neg (by simpa using l2)]
  by_cases b1 : e.2.1 < 1
  · rw [if_pos b1, if_pos trivial]; exact ⟨_, rfl, fun h => by cases h⟩
  rw [if_neg b1]
  by_cases b2 : 16 < e.2.1
  · rw [if_pos b2, if_pos trivial]; exact ⟨_, rfl, fun h => by cases h⟩
  rw [if_neg b2]
  by_cases i1 : e.2.2.1 < 1
  · rw [if_pos i1, if_pos trivial]; exact ⟨_, rfl, fun h => by cases h⟩
  rw [if_neg i1]
  by_cases i2 : 256 < e.2.2.1
  · rw [if_pos (decide_eq_true i2)]; exact ⟨_, rfl, fun h => by cases h⟩
  rw [if_neg (by simpa using i2)]
  by_cases r1 : (e.2.2.2.length : Int) = 0
  · rw [if_pos r1]; exact ⟨_, rfl, fun h => by cases h⟩
  rw [if_neg r1]
  by_cases r2 : 64 < (e.2.2.2.length : Int)
  · rw [if_pos r2]; exact ⟨_, rfl, fun h => by cases h⟩
  rw [if_neg r2]
  have good : ∀ w : List UInt8, ∃ c, m_word_Check e.1 w = some c := fun w => by
    obtain ⟨c, hc, _⟩ := wcheck e.1 w
    exact ⟨c, hc⟩
  have key := scan_loop (n := e.2.2.2.length) (body := fun a7 =>
             if a7 < ((e.2.2.2).length : Int) then
              (idx e.2.2.2 a7).bind fun x11 =>
              if ((x11).length : Int) ≠ e.2.2.1 then
               some (Stp.exit (Ou.ret 11))
              else
               lpO (loopW (S := Int) (X := Ou (Unit) (Int)) (fun a13 =>
                   if a13 < ((x11).length : Int) then
                    (idx x11 a13).bind fun x17 =>
                    (if x17.1 < 0 then
                      (if true = true then
                       some (Stp.exit (Ou.ret 25))
                      else
                       (if ((x17.2).length : Int) ≠ e.2.1 then
                         (if true = true then some (Stp.exit (Ou.ret 13)) else some (Stp.next (IntKind.wrap .i64 (a13 + 1))))
                        else
                         (m_word_Check e.1 x17.2).bind fun x26 =>
                         if decide (x26 ≠ 0) = true then some (Stp.exit (Ou.ret 13)) else some (Stp.next (IntKind.wrap .i64 (a13 + 1)))))
                     else
                      (if decide (((e.2.2.2).length : Int) ≤ x17.1) = true then
                       some (Stp.exit (Ou.ret 25))
                      else
                       (if ((x17.2).length : Int) ≠ e.2.1 then
                         (if true = true then some (Stp.exit (Ou.ret 13)) else some (Stp.next (IntKind.wrap .i64 (a13 + 1))))
                        else
                         (m_word_Check e.1 x17.2).bind fun x26 =>
                         if decide (x26 ≠ 0) = true then some (Stp.exit (Ou.ret 13)) else some (Stp.next (IntKind.wrap .i64 (a13 + 1))))))
                   else
                    some (Stp.exit (Ou.go ()))) 0) (fun a30 =>
                   some (Stp.next (IntKind.wrap .i64 (a7 + 1)))) (fun r => some (Stp.exit (Ou.ret r)))
             else
              some (Stp.exit (Ou.go ()))) (fun i => ∀ (h : i < e.2.2.2.length), (e.2.2.2[i].length : Int) = e.2.2.1 ∧ ∀ x ∈ e.2.2.2[i], (0 ≤ x.1 ∧ x.1 < (e.2.2.2.length : Int)) ∧ (x.2.length : Int) = e.2.1) (fun i hi => ?_) (by rw [if_neg (not_lt_int _)])
  · obtain ⟨x, hx, hx2⟩ := key
    skip
    have hx3 := hx
    refine ⟨match x with | .go _ => 0 | .ret c => c, lpL hx ?_, ?_⟩
    · cases x <;> rfl
    · intro h0
      rcases hx2 with ⟨rfl, hall⟩ | ⟨c, hc, rfl⟩
      · refine ⟨by omega, by omega, by omega, by omega, fun r hr => ?_⟩
        obtain ⟨i, hi, rfl⟩ := List.getElem_of_mem hr
        exact hall i hi hi
      · exact absurd h0 hc
  · skip
    rw [if_pos (lt_int hi), ix hi, Option.bind_some]
    obtain ⟨row, hrow⟩ : ∃ row, e.2.2.2[i] = row := ⟨_, rfl⟩
    rw [hrow]
    by_cases hl : (row.length : Int) ≠ e.2.2.1
    · rw [if_pos hl]; exact .inr ⟨11, by decide, rfl⟩
    rw [if_neg hl]
    have hl' : (row.length : Int) = e.2.2.1 := Classical.not_not.1 hl
    have inner := scan_loop (n := row.length) (body := fun a13 =>
                   if a13 < ((row).length : Int) then
                    (idx row a13).bind fun x17 =>
                    (if x17.1 < 0 then
                      (if true = true then
                       some (Stp.exit (Ou.ret 25))
                      else
                       (if ((x17.2).length : Int) ≠ e.2.1 then
                         (if true = true then some (Stp.exit (Ou.ret 13)) else some (Stp.next (IntKind.wrap .i64 (a13 + 1))))
                        else
                         (m_word_Check e.1 x17.2).bind fun x26 =>
                         if decide (x26 ≠ 0) = true then some (Stp.exit (Ou.ret 13)) else some (Stp.next (IntKind.wrap .i64 (a13 + 1)))))
                     else
                      (if decide (((e.2.2.2).length : Int) ≤ x17.1) = true then
                       some (Stp.exit (Ou.ret 25))
                      else
                       (if ((x17.2).length : Int) ≠ e.2.1 then
                         (if true = true then some (Stp.exit (Ou.ret 13)) else some (Stp.next (IntKind.wrap .i64 (a13 + 1))))
                        else
                         (m_word_Check e.1 x17.2).bind fun x26 =>
                         if decide (x26 ≠ 0) = true then some (Stp.exit (Ou.ret 13)) else some (Stp.next (IntKind.wrap .i64 (a13 + 1))))))
                   else
                    some (Stp.exit (Ou.go ()))) (fun j => ∀ h : j < row.length, (0 ≤ row[j].1 ∧ row[j].1 < (e.2.2.2.length : Int)) ∧ (row[j].2.length : Int) = e.2.1) (fun j hj => ?_) (by rw [if_neg (not_lt_int _)])
    · obtain ⟨x, hx, hx2⟩ := inner
      skip
      rcases hx2 with ⟨rfl, hall⟩ | ⟨c, hc, rfl⟩
      · refine .inl ⟨lpL hx ?_, fun _ => ?_⟩
        · show some (Stp.next (IntKind.wrap .i64 ((i : Int) + 1))) = _
          rw [nx (by omega : e.2.2.2.length ≤ _) hi]
        · rw [hrow]
          refine ⟨hl', fun y hy => ?_⟩
          obtain ⟨j, hj, rfl⟩ := List.getElem_of_mem hy
          exact hall j hj hj
      · exact .inr ⟨c, hc, lpL hx rfl⟩
    · skip
      rw [if_pos (lt_int hj), ix hj, Option.bind_some]
      obtain ⟨x, hxj⟩ : ∃ x, row[j] = x := ⟨_, rfl⟩
      rw [hxj]
      by_cases c1 : x.1 < 0
      · rw [if_pos c1, if_pos rfl]; exact .inr ⟨25, by decide, rfl⟩
      rw [if_neg c1]
      by_cases c2 : (e.2.2.2.length : Int) ≤ x.1
      · rw [if_pos (decide_eq_true c2)]; exact .inr ⟨25, by decide, rfl⟩
      rw [if_neg (by simpa using c2)]
      by_cases c3 : (x.2.length : Int) ≠ e.2.1
      · rw [if_pos c3, if_pos rfl]; exact .inr ⟨13, by decide, rfl⟩
      rw [if_neg c3]
      obtain ⟨c, hc⟩ := good x.2
      rw [hc, Option.bind_some]
      by_cases c4 : c ≠ 0
      · rw [if_pos (decide_eq_true c4)]; exact .inr ⟨13, by decide, rfl⟩
      · rw [if_neg (by simpa using c4)]
        refine .inl ⟨?_, fun _ => by rw [hxj]; exact ⟨⟨by omega, by omega⟩, Classical.not_not.1 c3⟩⟩
        rw [nx (by omega : row.length ≤ 9223372036854775807) hj]
def IsMin (d : Int) (S : Int → Prop) (r : Int) : Prop := (r = d ∨ S r) ∧ r ≤ d ∧ ∀ v, S v → r ≤ v
theorem IsMin.none (d : Int) : IsMin d (fun _ => False) d := ⟨.inl rfl, Int.le_refl _, fun _ h => h.elim⟩
theorem IsMin.step {d r : Int} {S S' : Int → Prop} (h : IsMin d S r) (v : Int) (hS : ∀ x, S' x ↔ S x ∨ x = v) : IsMin d S' (min r v) := by
 obtain ⟨h1, h2, h3⟩ := h
 refine ⟨?_, by omega, fun x hx => ?_⟩
 ·by_cases c : r ≤ v
  ·rw [Int.min_eq_left c]
   exact h1.imp id fun h => (hS r).2 (.inl h)
  ·rw [Int.min_eq_right (by omega)]
   exact .inr ((hS v).2 (.inr rfl))
 ·rcases (hS x).1 hx with h | rfl
  ·have := h3 x h; omega
  ·omega
theorem IsMin.eqv {d r : Int} {S S' : Int → Prop} (h : IsMin d S r) (hS : ∀ x, S' x ↔ S x) : IsMin d S' r := ⟨h.1.imp id (hS r).2, h.2.1, fun v hv => h.2.2 v ((hS v).1 hv)⟩
theorem IsMin.uniq {d r r' : Int} {S S' : Int → Prop} (h : IsMin d S r) (h' : IsMin d S' r') (hS : ∀ x, S x ↔ S' x) : r = r' := by
 have a : r ≤ r' := by
  rcases h'.1 with e | e
  ·rw [e]; exact h.2.1
  ·exact h.2.2 _ ((hS _).2 e)
 have b : r' ≤ r := by
  rcases h.1 with e | e
  ·rw [e]; exact h'.2.1
  ·exact h'.2.2 _ ((hS _).1 e)
 omega
theorem loop_min {d : Int} {n : Nat} {body : Int × Int → Option (Stp (Int × Int) Int)} (S : Nat → Int → Prop) (h : ∀ i r, i < n → IsMin d (S i) r → ∃ r', body (r, (i : Int)) = some (.next (r', ((i + 1 : Nat) : Int))) ∧ IsMin d (S (i + 1)) r') (hf : ∀ r, body (r, (n : Int)) = some (.exit r)) {r0 : Int} (h0 : IsMin d (S 0) r0) :
  ∃ r, loopW body (r0, (0 : Int)) = some r ∧ IsMin d (S n) r :=
 loopN n (fun i s => s.2 = (i : Int) ∧ IsMin d (S i) s.1) (fun i s hi ⟨h1, h2⟩ => by
  obtain ⟨a, b⟩ := s
  dsimp only at h1 h2
  subst h1
  obtain ⟨r', h3, h4⟩ := h i a hi h2
  exact .inl ⟨_, h3, rfl, h4⟩) (fun s ⟨h1, h2⟩ => by
  obtain ⟨a, b⟩ := s
  dsimp only at h1 h2
  subst h1
  exact ⟨_, hf a, h2⟩) 0 (r0, 0) (Nat.zero_le _) ⟨rfl, h0⟩
def PairsP (L : List (List (List UInt8))) (x : Int) : Prop := ∃ i k, k < i ∧ i < L.length ∧ ∃ u ∈ L.getD i [], ∃ v ∈ L.getD k [], x = (ham u v : Int)
theorem lt_succ_or {k i : Nat} : k < i + 1 ↔ k < i ∨ k = i := by omega
theorem tail_min {L : List (List (List UInt8))} {e : En} {n : Int} (hL : L.length ≤ 1000000) (hl : ∀ l ∈ L, l.length ≤ 1000000) {m : Nat} (hm : ∀ l ∈ L, ∀ u ∈ l, u.length = m) (hmb : m ≤ 1000000) :
    ∃ r, m_free_tail L e n = some (r, 0) ∧ IsMin (IntKind.wrap .i64 (n * e.2.1)) (PairsP L) r := by
  unfold m_free_tail
  generalize IntKind.wrap .i64 (n * e.2.1) = d
  have key := loop_min (d := d) (n := L.length) (body := (fun a1 =>
     if a1.2 < ((L).length : Int) then
      (idx L a1.2).bind fun x5 =>
      if 0 ≤ (0 : Int) ∧ (0 : Int) ≤ a1.2 ∧ a1.2 ≤ (L.length : Int) then
       (loopW (S := Int × Int) (X := Int) (fun a8 =>
           if a8.2 < (((L.take (a1.2).toNat).drop (0 : Int).toNat).length : Int) then
            (idx ((L.take (a1.2).toNat).drop (0 : Int).toNat) a8.2).bind fun x12 =>
            (loopW (S := Int × Int) (X := Int) (fun a14 =>
                if a14.2 < ((x5).length : Int) then
                 (idx x5 a14.2).bind fun x18 =>
                 (loopW (S := Int × Int) (X := Int) (fun a20 =>
                     if a20.2 < ((x12).length : Int) then
                      (idx x12 a20.2).bind fun x24 =>
                      (m_distance_hamming x18 x24).bind fun x26 =>
                      some (Stp.next (min a20.1 x26, IntKind.wrap .i64 (a20.2 + 1)))
                     else
                      some (Stp.exit a20.1)) (a14.1, 0)).bind fun a28 =>
                 some (Stp.next (a28, IntKind.wrap .i64 (a14.2 + 1)))
                else
                 some (Stp.exit a14.1)) (a8.1, 0)).bind fun a30 =>
            some (Stp.next (a30, IntKind.wrap .i64 (a8.2 + 1)))
           else
            some (Stp.exit a8.1)) (a1.1, 0)).bind fun a32 =>
       some (Stp.next (a32, IntKind.wrap .i64 (a1.2 + 1)))
      else none
     else
      some (Stp.exit a1.1))) (fun c x => ∃ i k, k < i ∧ i < c ∧ ∃ u ∈ L.getD i [], ∃ v ∈ L.getD k [], x = (ham u v : Int)) (fun i r hi hr => ?_) (fun r => by dsimp only; rw [if_neg (not_lt_int _)]) (r0 := d) ?_
  · obtain ⟨r, h1, h2⟩ := key
    refine ⟨r, bindL h1 rfl, h2⟩
  · dsimp only
    have hgi : L.getD i [] = L[i] := by rw [List.getD_eq_getElem?_getD, List.getElem?_eq_getElem hi]; rfl
    have hli := hl _ (List.getElem_mem hi)
    have hmi := hm _ (List.getElem_mem hi)
    have htk : ((L.take ((i : Int)).toNat).drop (0 : Int).toNat) = L.take i := by rw [Int.toNat_natCast]; rfl
    have hlt : (L.take i).length = i := by rw [List.length_take]; omega
    rw [if_pos (lt_int hi), ix hi, Option.bind_some, if_pos (by omega), htk]
    have key2 := loop_min (d := d) (n := (L.take i).length) (body := (fun a8 =>
           if a8.2 < ((L.take i).length : Int) then
            (idx (L.take i) a8.2).bind fun x12 =>
            (loopW (S := Int × Int) (X := Int) (fun a14 =>
                if a14.2 < ((L[i]).length : Int) then
                 (idx L[i] a14.2).bind fun x18 =>
                 (loopW (S := Int × Int) (X := Int) (fun a20 =>
                     if a20.2 < ((x12).length : Int) then
                      (idx x12 a20.2).bind fun x24 =>
                      (m_distance_hamming x18 x24).bind fun x26 =>
                      some (Stp.next (min a20.1 x26, IntKind.wrap .i64 (a20.2 + 1)))
                     else
                      some (Stp.exit a20.1)) (a14.1, 0)).bind fun a28 =>
                 some (Stp.next (a28, IntKind.wrap .i64 (a14.2 + 1)))
                else
                 some (Stp.exit a14.1)) (a8.1, 0)).bind fun a30 =>
            some (Stp.next (a30, IntKind.wrap .i64 (a8.2 + 1)))
           else
            some (Stp.exit a8.1))) (fun c x => (∃ i' k, k < i' ∧ i' < i ∧ ∃ u ∈ L.getD i' [], ∃ v ∈ L.getD k [], x = (ham u v : Int)) ∨ ∃ k, k < c ∧ ∃ u ∈ L[i], ∃ v ∈ L.getD k [], x = (ham u v : Int)) (fun k r hk hr => ?_) (fun r => by dsimp only; rw [if_neg (not_lt_int _)]) (r0 := r) (hr.eqv fun x => ⟨fun h => h.elim id fun ⟨k, h, _⟩ => absurd h (Nat.not_lt_zero _), .inl⟩)
    · obtain ⟨r2, h1, h2⟩ := key2
      refine ⟨r2, bindL h1 (by rw [nx (by omega : L.length ≤ _) hi]), h2.eqv fun x => ?_⟩
      rw [hlt]
      constructor
      · rintro ⟨i', k, h3, h4, u, hu, v, hv, h5⟩
        rcases lt_succ_or.1 h4 with h4 | rfl
        · exact .inl ⟨i', k, h3, h4, u, hu, v, hv, h5⟩
        · exact .inr ⟨k, h3, u, by rw [← hgi]; exact hu, v, hv, h5⟩
      · rintro (⟨i', k, h3, h4, h5⟩ | ⟨k, h3, u, hu, h5⟩)
        · exact ⟨i', k, h3, by omega, h5⟩
        · exact ⟨i, k, h3, by omega, u, by rw [hgi]; exact hu, h5⟩
    · dsimp only
      have hkL : k < L.length := by omega
      have hgk : L.getD k [] = L[k] := by rw [List.getD_eq_getElem?_getD, List.getElem?_eq_getElem hkL]; rfl
      have hek : (L.take i)[k] = L[k] := by simp
      have hlk := hl _ (List.getElem_mem hkL)
      have hmk := hm _ (List.getElem_mem hkL)
      rw [if_pos (lt_int hk), ix hk, Option.bind_some, hek]
      have key3 := loop_min (d := d) (n := L[i].length) (body := (fun a14 =>
                if a14.2 < ((L[i]).length : Int) then
                 (idx L[i] a14.2).bind fun x18 =>
                 (loopW (S := Int × Int) (X := Int) (fun a20 =>
                     if a20.2 < ((L[k]).length : Int) then
                      (idx L[k] a20.2).bind fun x24 =>
                      (m_distance_hamming x18 x24).bind fun x26 =>
                      some (Stp.next (min a20.1 x26, IntKind.wrap .i64 (a20.2 + 1)))
                     else
                      some (Stp.exit a20.1)) (a14.1, 0)).bind fun a28 =>
                 some (Stp.next (a28, IntKind.wrap .i64 (a14.2 + 1)))
                else
                 some (Stp.exit a14.1))) (fun c x => ((∃ i' k, k < i' ∧ i' < i ∧ ∃ u ∈ L.getD i' [], ∃ v ∈ L.getD k [], x = (ham u v : Int)) ∨ ∃ k', k' < k ∧ ∃ u ∈ L[i], ∃ v ∈ L.getD k' [], x = (ham u v : Int)) ∨ ∃ p, p < c ∧ ∃ v ∈ L[k], x = (ham (L[i].getD p []) v : Int)) (fun p r hp hr => ?_) (fun r => by dsimp only; rw [if_neg (not_lt_int _)]) (r0 := r) (hr.eqv fun x => ⟨fun h => h.elim id fun ⟨k, h, _⟩ => absurd h (Nat.not_lt_zero _), .inl⟩)
      · obtain ⟨r2, h1, h2⟩ := key3
        refine ⟨r2, bindL h1 (by rw [nx (by omega : (L.take i).length ≤ _) hk]), h2.eqv fun x => ?_⟩
        constructor
        · rintro (h | ⟨k', h3, u, hu, v, hv, h5⟩)
          · exact .inl (.inl h)
          · rcases lt_succ_or.1 h3 with h3 | rfl
            · exact .inl (.inr ⟨k', h3, u, hu, v, hv, h5⟩)
            · obtain ⟨p, hp, rfl⟩ := List.getElem_of_mem hu
              refine .inr ⟨p, hp, v, by rw [← hgk]; exact hv, ?_⟩
              rw [List.getD_eq_getElem?_getD, List.getElem?_eq_getElem hp]
              exact h5
        · rintro ((h | ⟨k', h3, h5⟩) | ⟨p, hp, v, hv, h5⟩)
          · exact .inl h
          · exact .inr ⟨k', by omega, h5⟩
          · refine .inr ⟨k, by omega, L[i][p], List.getElem_mem hp, v, by rw [hgk]; exact hv, ?_⟩
            rw [List.getD_eq_getElem?_getD, List.getElem?_eq_getElem hp] at h5
            exact h5
      · dsimp only
        have hup := hmi _ (List.getElem_mem hp)
        have hgp : L[i].getD p [] = L[i][p] := by rw [List.getD_eq_getElem?_getD, List.getElem?_eq_getElem hp]; rfl
        rw [if_pos (lt_int hp), ix hp, Option.bind_some]
        have key4 := loop_min (d := d) (n := L[k].length) (body := (fun a20 =>
                     if a20.2 < ((L[k]).length : Int) then
                      (idx L[k] a20.2).bind fun x24 =>
                      (m_distance_hamming L[i][p] x24).bind fun x26 =>
                      some (Stp.next (min a20.1 x26, IntKind.wrap .i64 (a20.2 + 1)))
                     else
                      some (Stp.exit a20.1))) (fun c x => (((∃ i' k, k < i' ∧ i' < i ∧ ∃ u ∈ L.getD i' [], ∃ v ∈ L.getD k [], x = (ham u v : Int)) ∨ ∃ k', k' < k ∧ ∃ u ∈ L[i], ∃ v ∈ L.getD k' [], x = (ham u v : Int)) ∨ ∃ p', p' < p ∧ ∃ v ∈ L[k], x = (ham (L[i].getD p' []) v : Int)) ∨ ∃ q, q < c ∧ x = (ham L[i][p] (L[k].getD q []) : Int)) (fun q r hq hr => ?_) (fun r => by dsimp only; rw [if_neg (not_lt_int _)]) (r0 := r) (hr.eqv fun x => ⟨fun h => h.elim id fun ⟨k, h, _⟩ => absurd h (Nat.not_lt_zero _), .inl⟩)
        · obtain ⟨r2, h1, h2⟩ := key4
          refine ⟨r2, bindL h1 (by rw [nx (by omega : L[i].length ≤ _) hp]), h2.eqv fun x => ?_⟩
          constructor
          · rintro (h | ⟨p', h3, v, hv, h5⟩)
            · exact .inl (.inl h)
            · rcases lt_succ_or.1 h3 with h3 | rfl
              · exact .inl (.inr ⟨p', h3, v, hv, h5⟩)
              · obtain ⟨q, hq, rfl⟩ := List.getElem_of_mem hv
                refine .inr ⟨q, hq, ?_⟩
                rw [List.getD_eq_getElem?_getD (l := L[k]), List.getElem?_eq_getElem hq, ← hgp]
                exact h5
          · rintro ((h | ⟨p', h3, h5⟩) | ⟨q, hq, h5⟩)
            · exact .inl h
            · exact .inr ⟨p', by omega, h5⟩
            · refine .inr ⟨p, by omega, L[k][q], List.getElem_mem hq, ?_⟩
              rw [List.getD_eq_getElem?_getD (l := L[k]), List.getElem?_eq_getElem hq] at h5
              rw [hgp]
              exact h5
        · dsimp only
          have huq := hmk _ (List.getElem_mem hq)
          have hgq : L[k].getD q [] = L[k][q] := by rw [List.getD_eq_getElem?_getD, List.getElem?_eq_getElem hq]; rfl
          refine ⟨min r (ham L[i][p] L[k][q] : Int), ?_, hr.step _ fun x => ?_⟩
          · rw [if_pos (lt_int hq), ix hq, Option.bind_some, hamming_eq (by omega) (by omega), Option.bind_some, nx (by omega : L[k].length ≤ _) hq]
          · constructor
            · rintro (h | ⟨q', h3, h5⟩)
              · exact .inl (.inl h)
              · rcases lt_succ_or.1 h3 with h3 | rfl
                · exact .inl (.inr ⟨q', h3, h5⟩)
                · rw [hgq] at h5; exact .inr h5
            · rintro ((h | ⟨q', h3, h5⟩) | h5)
              · exact .inl h
              · exact .inr ⟨q', by omega, h5⟩
              · exact .inr ⟨q, by omega, by rw [hgq]; exact h5⟩
  · refine ⟨.inl rfl, Int.le_refl _, ?_⟩
    rintro v ⟨i, k, _, h, _⟩
    omega
def cellE (rows : List (List TToWord)) (t a : Int) : TToWord := (rows.getD t.toNat []).getD a.toNat (0, [])
def encW (rows : List (List TToWord)) : Int → List Int → List UInt8
 | _, [] => []
 | t, a :: x => (cellE rows t a).2 ++ encW rows (cellE rows t a).1 x
def endW (rows : List (List TToWord)) : Int → List Int → Int
 | t, [] => t
 | t, a :: x => endW rows (cellE rows t a).1 x
def inpI (I : Int) (n : Nat) (x : List Int) : Prop := x.length = n ∧ ∀ a ∈ x, 0 ≤ a ∧ a < I
section
variable {e : En}
theorem VE.rowAt (hv : VE e) {t : Int} (ht : 0 ≤ t ∧ t < (e.2.2.2.length : Int)) : e.2.2.2.getD t.toNat [] ∈ e.2.2.2 := by
 have h : t.toNat < e.2.2.2.length := by omega
 rw [List.getD_eq_getElem?_getD, List.getElem?_eq_getElem h]
 exact List.getElem_mem h
theorem VE.cell (hv : VE e) {t a : Int} (ht : 0 ≤ t ∧ t < (e.2.2.2.length : Int)) (ha : 0 ≤ a ∧ a < e.2.2.1) : cellE e.2.2.2 t a ∈ e.2.2.2.getD t.toNat [] ∧ (0 ≤ (cellE e.2.2.2 t a).1 ∧ (cellE e.2.2.2 t a).1 < (e.2.2.2.length : Int)) ∧ ((cellE e.2.2.2 t a).2.length : Int) = e.2.1 := by
 obtain ⟨h1, h2⟩ := hv.row _ (hv.rowAt ht)
 have hm : cellE e.2.2.2 t a ∈ e.2.2.2.getD t.toNat [] := by
  unfold cellE
  have h : a.toNat < (e.2.2.2.getD t.toNat []).length := by omega
  rw [List.getD_eq_getElem?_getD (l := e.2.2.2.getD t.toNat []), List.getElem?_eq_getElem h]
  exact List.getElem_mem h
 exact ⟨hm, h2 _ hm⟩
theorem mem_folF (hv : VE e) : ∀ (n : Nat) (t : Int) (w u : List UInt8), (0 ≤ t ∧ t < (e.2.2.2.length : Int)) → (u ∈ folF e.2.2.2 n t w ↔ ∃ x, inpI e.2.2.1 n x ∧ u = w ++ encW e.2.2.2 t x)
 | 0, t, w, u, ht => by
  constructor
  ·intro h
   have : u = w := by simpa [folF] using h
   exact ⟨[], ⟨rfl, fun a h => by cases h⟩, by rw [this]; simp [encW]⟩
  ·rintro ⟨x, ⟨h1, _⟩, rfl⟩
   rw [List.eq_nil_of_length_eq_zero h1]
   simp [folF, encW]
 | n + 1, t, w, u, ht => by
  obtain ⟨hr1, hr2⟩ := hv.row _ (hv.rowAt ht)
  rw [folF, List.mem_flatMap]
  constructor
  ·rintro ⟨c, hc, hu⟩
   obtain ⟨a, ha, rfl⟩ := List.getElem_of_mem hc
   obtain ⟨h1, h2⟩ := hr2 _ hc
   obtain ⟨x, hx, rfl⟩ := (mem_folF hv n _ _ _ h1).1 hu
   have hce : cellE e.2.2.2 t (a : Int) = (e.2.2.2.getD t.toNat [])[a] := by
    unfold cellE
    rw [Int.toNat_natCast, List.getD_eq_getElem?_getD (l := e.2.2.2.getD t.toNat []), List.getElem?_eq_getElem ha]
    rfl
   refine ⟨(a : Int) :: x, ⟨by simp [hx.1], fun b hb => ?_⟩, ?_⟩
   ·rcases List.mem_cons.1 hb with rfl | hb
    ·omega
    ·exact hx.2 b hb
   ·rw [encW, hce, List.append_assoc]
  ·rintro ⟨x, ⟨h1, h2⟩, rfl⟩
   cases x with
   | nil => simp at h1
   | cons a x =>
    have ha := h2 a (List.mem_cons_self ..)
    obtain ⟨h3, h4, h5⟩ := hv.cell ht ha
    exact ⟨_, h3, (mem_folF hv n _ _ _ h4).2 ⟨x, ⟨by simpa using h1, fun b hb => h2 b (List.mem_cons_of_mem _ hb)⟩, by rw [encW, List.append_assoc]⟩⟩
theorem folF_len (hv : VE e) : ∀ (n : Nat) (t : Int) (w : List UInt8), (0 ≤ t ∧ t < (e.2.2.2.length : Int)) → (folF e.2.2.2 n t w).length = e.2.2.1.toNat ^ n
 | 0, t, w, ht => by simp [folF]
 | n + 1, t, w, ht => by
  obtain ⟨hr1, hr2⟩ := hv.row _ (hv.rowAt ht)
  rw [folF]
  generalize e.2.2.2.getD t.toNat [] = row at hr1 hr2
  have : ∀ l : List TToWord, (∀ x ∈ l, 0 ≤ x.1 ∧ x.1 < (e.2.2.2.length : Int)) → (l.flatMap fun x => folF e.2.2.2 n x.1 (w ++ x.2)).length = l.length * e.2.2.1.toNat ^ n := by
   intro l
   induction l with
   | nil => intro _; simp
   | cons y l ih =>
    intro h
    rw [List.flatMap_cons, List.length_append, folF_len hv n _ _ (h y (List.mem_cons_self ..)), ih fun x hx => h x (List.mem_cons_of_mem _ hx), List.length_cons, Nat.succ_mul, Nat.add_comm]
  rw [this row fun x hx => (hr2 x hx).1, Nat.pow_succ, Nat.mul_comm, show row.length = e.2.2.1.toNat by omega]
theorem encW_len (hv : VE e) : ∀ (x : List Int) (t : Int), (0 ≤ t ∧ t < (e.2.2.2.length : Int)) → (∀ a ∈ x, 0 ≤ a ∧ a < e.2.2.1) → (encW e.2.2.2 t x).length = x.length * e.2.1.toNat
 | [], t, _, _ => by simp [encW]
 | a :: x, t, ht, hx => by
  obtain ⟨h3, h4, h5⟩ := hv.cell ht (hx a (List.mem_cons_self ..))
  rw [encW, List.length_append, encW_len hv x _ h4 fun b hb => hx b (List.mem_cons_of_mem _ hb), List.length_cons, Nat.succ_mul]
  omega
theorem endW_ok (hv : VE e) : ∀ (x : List Int) (t : Int), (0 ≤ t ∧ t < (e.2.2.2.length : Int)) → (∀ a ∈ x, 0 ≤ a ∧ a < e.2.2.1) → 0 ≤ endW e.2.2.2 t x ∧ endW e.2.2.2 t x < (e.2.2.2.length : Int)
 | [], t, ht, _ => ht
 | a :: x, t, ht, hx => by
  obtain ⟨h3, h4, h5⟩ := hv.cell ht (hx a (List.mem_cons_self ..))
  exact endW_ok hv x _ h4 fun b hb => hx b (List.mem_cons_of_mem _ hb)
theorem encW_snoc (rows : List (List TToWord)) : ∀ (x : List Int) (t a : Int), encW rows t (x ++ [a]) = encW rows t x ++ (cellE rows (endW rows t x) a).2 ∧ endW rows t (x ++ [a]) = (cellE rows (endW rows t x) a).1
 | [], t, a => by simp [encW, endW]
 | b :: x, t, a => by
  obtain ⟨h1, h2⟩ := encW_snoc rows x (cellE rows t b).1 a
  exact ⟨by rw [List.cons_append, encW, h1, encW, endW, List.append_assoc], by rw [List.cons_append, endW, h2, endW]⟩
def listsF (I : Nat) : Nat → List (List Int)
 | 0 => [[]]
 | n + 1 => (listsF I n).flatMap fun l => (List.range I).map fun a : Nat => l ++ [(a : Int)]
theorem mem_listsF (I : Nat) : ∀ (n : Nat) (x : List Int), x ∈ listsF I n ↔ inpI (I : Int) n x
 | 0, x => by
  constructor
  ·intro h
   have : x = [] := by simpa [listsF] using h
   subst this
   exact ⟨rfl, fun a h => by cases h⟩
  ·rintro ⟨h, _⟩
   rw [List.eq_nil_of_length_eq_zero h]
   simp [listsF]
 | n + 1, x => by
  rw [listsF, List.mem_flatMap]
  constructor
  ·rintro ⟨l, hl, hx⟩
   obtain ⟨h1, h2⟩ := (mem_listsF I n l).1 hl
   obtain ⟨a, ha, rfl⟩ := List.mem_map.1 hx
   have ha := List.mem_range.1 ha
   refine ⟨by simp [h1], fun b hb => ?_⟩
   rcases List.mem_append.1 hb with hb | hb
   ·exact h2 b hb
   ·rw [List.mem_singleton.1 hb]; omega
  ·rintro ⟨h1, h2⟩
   rcases List.eq_nil_or_concat x with rfl | ⟨l, a, rfl⟩
   ·simp at h1
   ·rw [List.concat_eq_append] at h1 h2 ⊢
    have ha := h2 a (by simp)
    refine ⟨l, (mem_listsF I n l).2 ⟨by simpa using h1, fun b hb => h2 b (by simp [hb])⟩, List.mem_map.2 ⟨a.toNat, List.mem_range.2 (by omega), ?_⟩⟩
    rw [show ((a.toNat : Nat) : Int) = a by omega]
theorem listsF_len (I : Nat) : ∀ n, (listsF I n).length = I ^ n
 | 0 => rfl
 | n + 1 => by
  rw [listsF, List.length_flatMap]
  have : ∀ l : List (List Int), (l.map fun x => ((List.range I).map fun a : Nat => x ++ [(a : Int)]).length).sum = l.length * I := by
   intro l
   induction l with
   | nil => simp
   | cons y l ih => rw [List.map_cons, List.sum_cons, ih, List.length_cons, Nat.succ_mul, List.length_map, List.length_range, Nat.add_comm]
  rw [this, listsF_len I n, Nat.pow_succ]
end
end Go.AW
namespace Go.AW
open Go
set_option linter.unusedSimpArgs false
set_option linter.unusedVariables false
section
variable {e : En}
theorem RefEncode_eq (hv : VE e) (hc : m_ref25_Check e = some 0) {s : Int} (hs : 0 ≤ s ∧ s < (e.2.2.2.length : Int)) {x : List Int} (hx : ∀ a ∈ x, 0 ≤ a ∧ a < e.2.2.1) (hxl : x.length ≤ 100) : m_ref25_Encode e s x = some (encW e.2.2.2 s x, endW e.2.2.2 s x, 0) := by
 have b1 := hv.b1
 obtain ⟨B, hB⟩ := Int.eq_ofNat_of_zero_le (show 0 ≤ e.2.1 by omega)
 have hBl : B ≤ 16 := by omega
 unfold m_ref25_Encode
 simp only [jp]
 rw [hc, Option.bind_some, if_neg (by decide), if_neg (by omega), if_neg (by simpa using hs.2)]
 refine lpL (x := Ou.go ()) ?_ ?_
 ·refine loop_is (fun i => (i : Int)) x.length _ (fun i hi => ?_) ?_ rfl
  ·have ha := hx _ (List.getElem_mem hi)
   rw [if_pos (lt_int hi), ix hi]
   simp only [Option.bind_some]
   rw [if_neg (by omega), if_neg (by simpa using ha.2), nx (by omega : x.length ≤ _) hi]
  ·rw [if_neg (not_lt_int _)]
 ·have hmul : x.length * B ≤ 100 * 16 := Nat.mul_le_mul hxl hBl
  have hm2 : ((x.length : Int) * e.2.1) = ((x.length * B : Nat) : Int) := by rw [hB]; simp
  show (if 65536 < (IntKind.wrap .i64 (((x).length : Int) * e.2.1)) then _ else _) = _
  rw [hm2, w64 (by omega) (by omega), if_neg (by omega)]
  refine bindL (loop_is (fun i => (endW e.2.2.2 s (x.take i), encW e.2.2.2 s (x.take i), (i : Int))) x.length (endW e.2.2.2 s x, encW e.2.2.2 s x) (fun i hi => ?_) ?_ rfl) rfl
  ·dsimp only
   have ha := hx _ (List.getElem_mem hi)
   have htk : x.take (i + 1) = x.take i ++ [x[i]] := by rw [List.take_add_one, List.getElem?_eq_getElem hi]; rfl
   have hto : ∀ a ∈ x.take i, 0 ≤ a ∧ a < e.2.2.1 := fun a h => hx a (List.mem_of_mem_take h)
   have hen := endW_ok hv (x.take i) s hs hto
   have hln := encW_len hv (x.take i) s hs hto
   obtain ⟨s1, s2⟩ := encW_snoc e.2.2.2 (x.take i) s x[i]
   obtain ⟨h3, h4, h5⟩ := hv.cell hen ha
   have hr : (endW e.2.2.2 s (x.take i)).toNat < e.2.2.2.length := by omega
   have e1 : idx e.2.2.2 (endW e.2.2.2 s (x.take i)) = some (e.2.2.2.getD (endW e.2.2.2 s (x.take i)).toNat []) := by
    unfold idx
    rw [if_pos hen.1, List.getElem?_eq_getElem hr, List.getD_eq_getElem?_getD, List.getElem?_eq_getElem hr]
    rfl
   have hrl := (hv.row _ (hv.rowAt hen)).1
   have hcl : x[i].toNat < (e.2.2.2.getD (endW e.2.2.2 s (x.take i)).toNat []).length := by omega
   have e2 : idx (e.2.2.2.getD (endW e.2.2.2 s (x.take i)).toNat []) x[i] = some (cellE e.2.2.2 (endW e.2.2.2 s (x.take i)) x[i]) := by
    unfold idx cellE
    rw [if_pos ha.1, List.getElem?_eq_getElem hcl, List.getD_eq_getElem?_getD (l := e.2.2.2.getD (endW e.2.2.2 s (x.take i)).toNat []), List.getElem?_eq_getElem hcl]
    rfl
   have hml : (x.take i).length * e.2.1.toNat ≤ 100 * 16 := Nat.mul_le_mul (by rw [List.length_take]; omega) (by omega)
   rw [if_pos (lt_int hi), e1, Option.bind_some, ix hi, Option.bind_some, e2, Option.bind_some, if_pos (by simp only [maxLen]; omega), nx (by omega : x.length ≤ _) hi, htk, s1, s2]
  ·dsimp only
   rw [if_neg (not_lt_int _), List.take_length]
theorem lists_eq {I : Nat} (hI : 1 ≤ I ∧ I ≤ 256) {n : Nat} (hn : n ≤ 16) (hp : I ^ n ≤ 256) : m_ref46_lists (I : Int) (n : Int) = some (listsF I n) := by
 unfold m_ref46_lists
 refine bindL (loop_is (fun k => (listsF I k, (k : Int))) n (listsF I n) (fun k hk => ?_) ?_ rfl) rfl
 ·dsimp only
  have hpk : I ^ (k + 1) ≤ 256 := Nat.le_trans (Nat.pow_le_pow_right hI.1 hk) hp
  have hpk0 : I ^ k ≤ 256 := Nat.le_trans (Nat.pow_le_pow_right hI.1 (Nat.le_of_lt hk)) hp
  have hlk := listsF_len I k
  have hmem := mem_listsF I k
  rw [if_pos (lt_int hk)]
  have hsucc : listsF I (k + 1) = (listsF I k).flatMap fun l => (List.range I).map fun a : Nat => l ++ [(a : Int)] := rfl
  have hls : ((listsF I k).flatMap fun l => (List.range I).map fun a : Nat => l ++ [(a : Int)]).length ≤ 256 := by rw [← hsucc, listsF_len]; exact hpk
  refine bindL (x := listsF I (k + 1)) ?_ (by rw [nx (by omega : n ≤ _) hk])
  rw [hsucc]
  generalize listsF I k = Lk at hlk hmem hls
  refine loop_is (fun i => ((i : Int), (Lk.take i).flatMap fun l => (List.range I).map fun a : Nat => l ++ [(a : Int)])) Lk.length _ (fun i hi => ?_) ?_ rfl
  ·dsimp only
   have htk : Lk.take (i + 1) = Lk.take i ++ [Lk[i]] := by rw [List.take_add_one, List.getElem?_eq_getElem hi]; rfl
   have hli := ((hmem _).1 (List.getElem_mem hi)).1
   have hle : ((Lk.take (i + 1)).flatMap fun l => (List.range I).map fun a : Nat => l ++ [(a : Int)]).length ≤ 256 := by
    refine Nat.le_trans ?_ hls
    conv => rhs; rw [show Lk = Lk.take (i + 1) ++ Lk.drop (i + 1) from (List.take_append_drop ..).symm]
    rw [List.flatMap_append, List.length_append]
    omega
   rw [htk, List.flatMap_append, List.length_append] at hle
   simp only [List.flatMap_cons, List.flatMap_nil, List.append_nil, List.length_map, List.length_range] at hle
   rw [if_pos (lt_int hi), htk, List.flatMap_append]
   generalize ((Lk.take i).flatMap fun l => (List.range I).map fun a : Nat => l ++ [(a : Int)]) = acc at hle
   refine bindL (loop_is (fun a => ((a : Int), acc ++ (List.range a).map fun a : Nat => Lk[i] ++ [(a : Int)])) I (acc ++ (List.range I).map fun a : Nat => Lk[i] ++ [(a : Int)]) (fun a ha => ?_) ?_ (by simp)) ?_
   ·dsimp only
    rw [if_pos (lt_int ha), ix hi, Option.bind_some, if_pos (fits_le (by simp only [List.length_nil]; omega) (by simp only [List.length_nil]; omega)), if_pos (fits_le (by simp only [List.length_append, List.length_nil, List.length_cons]; omega) (by simp only [List.length_append, List.length_nil, List.length_cons]; omega)), if_pos (fits_le (by simp only [List.length_append, List.length_map, List.length_range, List.length_cons, List.length_nil]; omega) (by simp only [List.length_append, List.length_map, List.length_range, List.length_cons, List.length_nil]; omega)), nx (by omega : I ≤ _) ha, List.range_succ, List.map_append, List.nil_append, List.append_assoc]
    rfl
   ·dsimp only
    rw [if_neg (not_lt_int _)]
   ·rw [nx (by omega : Lk.length ≤ _) hi]
    simp
  ·dsimp only
   rw [if_neg (not_lt_int _), List.take_length]
 ·dsimp only
  rw [if_neg (not_lt_int _)]
end
end Go.AW
namespace Go.AW
open Go
set_option linter.unusedSimpArgs false
set_option linter.unusedVariables false
theorem ham_sym : ∀ (u v : List UInt8), ham u v = ham v u
 | [], [] => rfl
 | [], _ :: _ => rfl
 | _ :: _, [] => rfl
 | a :: u, b :: v => by
  simp only [ham, ham_sym u v]
  by_cases h : a = b
  ·rw [if_pos h, if_pos h.symm]
  ·rw [if_neg h, if_neg (fun e => h e.symm)]
theorem ham_app : ∀ (u v w z : List UInt8), u.length = v.length → ham (u ++ w) (v ++ z) = ham u v + ham w z
 | [], [], w, z, _ => by simp [ham]
 | [], _ :: _, w, z, h => by cases h
 | _ :: _, [], w, z, h => by cases h
 | a :: u, b :: v, w, z, h => by
  simp only [List.cons_append, ham]
  rw [ham_app u v w z (by simpa using h)]
  omega
def PairsX (e : En) (s : Int) (n : Nat) (x : Int) : Prop := ∃ X Y, inpI e.2.2.1 n X ∧ inpI e.2.2.1 n Y ∧ X.getD 0 0 ≠ Y.getD 0 0 ∧ x = (ham (encW e.2.2.2 s X) (encW e.2.2.2 s Y) : Int)
section
variable {e : En} {s : Int}
theorem writ_at {n : Nat} {i : Nat} (h : i < (e.2.2.2.getD s.toNat []).length) : (writ e s ((n + 1 : Nat) : Int)).getD i [] = folF e.2.2.2 n (cellE e.2.2.2 s (i : Int)).1 (cellE e.2.2.2 s (i : Int)).2 := by
 unfold writ cellE
 rw [List.getD_eq_getElem?_getD, List.getElem?_map, List.getElem?_eq_getElem h, Int.toNat_natCast, List.getD_eq_getElem?_getD (l := e.2.2.2.getD s.toNat []), List.getElem?_eq_getElem h, show ((((n + 1 : Nat) : Int)) - 1).toNat = n by omega]
 rfl
theorem pairs_iff (hv : VE e) (hs : 0 ≤ s ∧ s < (e.2.2.2.length : Int)) (n : Nat) (x : Int) : PairsP (writ e s ((n + 1 : Nat) : Int)) x ↔ PairsX e s (n + 1) x := by
 have hrl := (hv.row _ (hv.rowAt hs)).1
 have hwl : (writ e s ((n + 1 : Nat) : Int)).length = (e.2.2.2.getD s.toNat []).length := by unfold writ; rw [List.length_map]
 have mk : ∀ i : Nat, i < (e.2.2.2.getD s.toNat []).length → ∀ u, u ∈ (writ e s ((n + 1 : Nat) : Int)).getD i [] ↔ ∃ X, inpI e.2.2.1 (n + 1) X ∧ X.getD 0 0 = (i : Int) ∧ u = encW e.2.2.2 s X := by
  intro i hi u
  have ha : 0 ≤ (i : Int) ∧ (i : Int) < e.2.2.1 := by omega
  obtain ⟨h3, h4, h5⟩ := hv.cell hs ha
  rw [writ_at hi, mem_folF hv n _ _ _ h4]
  constructor
  ·rintro ⟨X, ⟨h6, h7⟩, rfl⟩
   refine ⟨(i : Int) :: X, ⟨by simp [h6], fun b hb => ?_⟩, rfl, rfl⟩
   rcases List.mem_cons.1 hb with rfl | hb
   ·exact ha
   ·exact h7 b hb
  ·rintro ⟨X, ⟨h6, h7⟩, h8, rfl⟩
   cases X with
   | nil => simp at h6
   | cons a X =>
    have h8 : a = (i : Int) := h8
    subst h8
    exact ⟨X, ⟨by simpa using h6, fun b hb => h7 b (List.mem_cons_of_mem _ hb)⟩, rfl⟩
 constructor
 ·rintro ⟨i, k, hki, hi, u, hu, v, hvv, rfl⟩
  rw [hwl] at hi
  obtain ⟨X, hX, hX0, rfl⟩ := (mk i hi u).1 hu
  obtain ⟨Y, hY, hY0, rfl⟩ := (mk k (by omega) v).1 hvv
  exact ⟨X, Y, hX, hY, by rw [hX0, hY0]; omega, rfl⟩
 ·rintro ⟨X, Y, hX, hY, hne, rfl⟩
  have rng : ∀ Z, inpI e.2.2.1 (n + 1) Z → 0 ≤ Z.getD 0 0 ∧ Z.getD 0 0 < e.2.2.1 := by
   rintro Z ⟨h6, h7⟩
   cases Z with
   | nil => simp at h6
   | cons a Z => exact h7 a (List.mem_cons_self ..)
  have rX := rng X hX
  have rY := rng Y hY
  have iX : (((X.getD 0 0).toNat : Nat) : Int) = X.getD 0 0 := by omega
  have iY : (((Y.getD 0 0).toNat : Nat) : Int) = Y.getD 0 0 := by omega
  have mX := (mk (X.getD 0 0).toNat (by omega) _).2 ⟨X, hX, iX.symm, rfl⟩
  have mY := (mk (Y.getD 0 0).toNat (by omega) _).2 ⟨Y, hY, iY.symm, rfl⟩
  by_cases c : Y.getD 0 0 < X.getD 0 0
  ·exact ⟨_, _, by omega, by rw [hwl]; omega, _, mX, _, mY, rfl⟩
  ·exact ⟨(Y.getD 0 0).toNat, (X.getD 0 0).toNat, by omega, by rw [hwl]; omega, _, mY, _, mX, by rw [ham_sym]⟩
theorem freeOk (hv : VE e) (hs : 0 ≤ s ∧ s < (e.2.2.2.length : Int)) {n : Nat} (hn : n + 1 ≤ 16) (hp : e.2.2.1.toNat ^ (n + 1) ≤ 256) : FreeOk e s ((n + 1 : Nat) : Int) := by
 have b1 := hv.b1; have i1 := hv.i1; have r1 := hv.r1
 refine ⟨⟨by omega, fun r hr => ?_⟩, hs, by omega, by omega, (hv.row _ (hv.rowAt hs)).1, fun x hx => ?_⟩
 ·obtain ⟨h1, h2⟩ := hv.row r hr
  exact ⟨by omega, fun x hx => by have := h2 x hx; exact ⟨this.1, by omega⟩⟩
 ·rw [folF_len hv _ _ _ ((hv.row _ (hv.rowAt hs)).2 x hx).1, show ((((n + 1 : Nat) : Int)) - 1).toNat = n by omega]
  have : e.2.2.1.toNat ^ n ≤ e.2.2.1.toNat ^ (n + 1) := Nat.pow_le_pow_right (by omega) (by omega)
  omega
theorem tail_eq (hv : VE e) (hs : 0 ≤ s ∧ s < (e.2.2.2.length : Int)) {n : Nat} (hn : n + 1 ≤ 16) (hp : e.2.2.1.toNat ^ (n + 1) ≤ 256) : ∃ r, m_free_tail (writ e s ((n + 1 : Nat) : Int)) e ((n + 1 : Nat) : Int) = some (r, 0) ∧ IsMin (((n + 1 : Nat) : Int) * e.2.1) (PairsX e s (n + 1)) r := by
 have b1 := hv.b1; have i1 := hv.i1
 have hrow := hv.row _ (hv.rowAt hs)
 have hpn : e.2.2.1.toNat ^ n ≤ e.2.2.1.toNat ^ (n + 1) := Nat.pow_le_pow_right (by omega) (by omega)
 have hmem : ∀ l ∈ writ e s ((n + 1 : Nat) : Int), ∃ x ∈ e.2.2.2.getD s.toNat [], l = folF e.2.2.2 n x.1 x.2 := fun l hl => by
  obtain ⟨x, hx, rfl⟩ := List.mem_map.1 hl
  exact ⟨x, hx, by rw [show ((((n + 1 : Nat) : Int)) - 1).toNat = n by omega]⟩
 have hmB : (n + 1) * e.2.1.toNat ≤ 16 * 16 := Nat.mul_le_mul hn (by omega)
 obtain ⟨r, h1, h2⟩ := tail_min (L := writ e s ((n + 1 : Nat) : Int)) (e := e) (n := ((n + 1 : Nat) : Int)) (m := (n + 1) * e.2.1.toNat) (by unfold writ; rw [List.length_map]; omega) (fun l hl => by
  obtain ⟨x, hx, rfl⟩ := hmem l hl
  rw [folF_len hv _ _ _ (hrow.2 x hx).1]
  omega) (fun l hl u hu => by
  obtain ⟨x, hx, rfl⟩ := hmem l hl
  obtain ⟨X, ⟨h6, h7⟩, rfl⟩ := (mem_folF hv n _ _ _ (hrow.2 x hx).1).1 hu
  rw [List.length_append, encW_len hv X _ (hrow.2 x hx).1 h7, h6, Nat.succ_mul]
  have := (hrow.2 x hx).2
  omega) (by omega)
 have hw : IntKind.wrap .i64 (((n + 1 : Nat) : Int) * e.2.1) = ((n + 1 : Nat) : Int) * e.2.1 := by
  obtain ⟨B, hB⟩ := Int.eq_ofNat_of_zero_le (show 0 ≤ e.2.1 by omega)
  rw [hB, Int.toNat_natCast] at hmB
  have h2 : ((n + 1 : Nat) : Int) * e.2.1 = (((n + 1) * B : Nat) : Int) := by rw [hB]; simp
  rw [h2, w64 (by omega) (by omega)]
 rw [hw] at h2
 exact ⟨r, h1, h2.eqv fun x => (pairs_iff hv hs n x).symm⟩
end
end Go.AW
namespace Go.AW
open Go
set_option linter.unusedSimpArgs false
set_option linter.unusedVariables false
theorem cnt_loop {I n : Nat} (hI : 1 ≤ I ∧ I ≤ 256) (hn : n ≤ 16) : ∃ x : Ou Unit (Int × Int), loopW (S := Int × Int) (X := Ou Unit (Int × Int)) (fun a9 =>
             if a9.2 < (n : Int) then
              if 256 < (IntKind.wrap .i64 (a9.1 * (I : Int))) then
               some (Stp.exit (Ou.ret (0, 4)))
              else
               some (Stp.next (IntKind.wrap .i64 (a9.1 * (I : Int)), IntKind.wrap .i64 (a9.2 + 1)))
             else
              some (Stp.exit (Ou.go ()))) (1, 0) = some x ∧ ((x = Ou.go () ∧ I ^ n ≤ 256) ∨ (x = Ou.ret (0, 4) ∧ ¬ I ^ n ≤ 256)) :=
  loopN n (fun k st => st = (((I ^ k : Nat) : Int), (k : Int)) ∧ I ^ k ≤ 256) (fun k st hk ⟨hs, hp⟩ => by
    subst hs
    have hb : I ^ k * I ≤ 256 * 256 := Nat.mul_le_mul hp hI.2
    have hm : ((I ^ k : Nat) : Int) * (I : Int) = ((I ^ k * I : Nat) : Int) := by simp
    dsimp only
    rw [if_pos (lt_int hk), hm, w64 (by omega) (by omega), ← Nat.pow_succ]
    by_cases c : 256 < ((I ^ (k + 1) : Nat) : Int)
    · rw [if_pos c]
      refine .inr ⟨_, rfl, .inr ⟨rfl, ?_⟩⟩
      have : I ^ (k + 1) ≤ I ^ n := Nat.pow_le_pow_right hI.1 hk
      omega
    · rw [if_neg c]
      refine .inl ⟨_, rfl, ?_, by omega⟩
      rw [nx (by omega : n ≤ _) hk]) (fun st ⟨hs, hp⟩ => by
    subst hs
    dsimp only
    rw [if_neg (not_lt_int _)]
    exact ⟨_, rfl, .inl ⟨rfl, hp⟩⟩) 0 _ (Nat.zero_le _) ⟨rfl, by simp⟩
theorem ref_ham {u v : List UInt8} (hl : u.length ≤ v.length) (hm : u.length ≤ 9223372036854775807) : m_ref46_hamming u v = some (ham u v : Int) := hamming_eq hl hm
section
variable {e : En} {s : Int}
def PairsR (e : En) (s : Int) (Ls : List (List Int)) (c : Nat) (x : Int) : Prop := ∃ p q, q < p ∧ p < c ∧ (Ls.getD p []).getD 0 0 ≠ (Ls.getD q []).getD 0 0 ∧ x = (ham (encW e.2.2.2 s (Ls.getD p [])) (encW e.2.2.2 s (Ls.getD q [])) : Int)
theorem getD_lt46 {α : Type} {l : List α} {d : α} {i : Nat} (h : i < l.length) : l.getD i d = l[i] := by rw [List.getD_eq_getElem?_getD, List.getElem?_eq_getElem h]; rfl
theorem ref_pairs (hv : VE e) (hs : 0 ≤ s ∧ s < (e.2.2.2.length : Int)) (n : Nat) (x : Int) : PairsR e s (listsF e.2.2.1.toNat (n + 1)) (listsF e.2.2.1.toNat (n + 1)).length x ↔ PairsX e s (n + 1) x := by
 have hI : ((e.2.2.1.toNat : Nat) : Int) = e.2.2.1 := by have := hv.i1; omega
 have hm := mem_listsF e.2.2.1.toNat (n + 1)
 rw [hI] at hm
 generalize listsF e.2.2.1.toNat (n + 1) = Ls at hm
 constructor
 ·rintro ⟨p, q, hq, hp, hne, rfl⟩
  have hq' : q < Ls.length := by omega
  exact ⟨_, _, (hm _).1 (by rw [getD_lt46 hp]; exact List.getElem_mem hp), (hm _).1 (by rw [getD_lt46 hq']; exact List.getElem_mem hq'), hne, rfl⟩
 ·rintro ⟨X, Y, hX, hY, hne, rfl⟩
  obtain ⟨p, hp, rfl⟩ := List.getElem_of_mem ((hm _).2 hX)
  obtain ⟨q, hq, rfl⟩ := List.getElem_of_mem ((hm _).2 hY)
  rcases Nat.lt_trichotomy q p with h | rfl | h
  ·exact ⟨p, q, h, hp, by rw [getD_lt46 hp, getD_lt46 hq]; exact hne, by rw [getD_lt46 hp, getD_lt46 hq]⟩
  ·exact absurd rfl hne
  ·exact ⟨q, p, h, hq, by rw [getD_lt46 hp, getD_lt46 hq]; exact fun h => hne h.symm, by rw [getD_lt46 hp, getD_lt46 hq, ham_sym]⟩
theorem ref_loops (hv : VE e) (hs : 0 ≤ s ∧ s < (e.2.2.2.length : Int)) {n : Nat} (hn : n + 1 ≤ 16) {Ls : List (List Int)} (hL : ∀ x ∈ Ls, inpI e.2.2.1 (n + 1) x) (hll : Ls.length ≤ 256) (d : Int) :
    ∃ r, (loopW (S := Int × Int) (X := Int) (fun a30 =>
                 if a30.2 < ((Ls).length : Int) then
                  (loopW (S := Int × Int) (X := Int) (fun a34 =>
                      if a34.2 < a30.2 then
                       jp (fun (a38 : Int) =>
                         some (Stp.next (a38, IntKind.wrap .i64 (a34.2 + 1))))
                         fun k40 =>
                        (idx Ls a30.2).bind fun x41 =>
                        (idx x41 0).bind fun x43 =>
                        (idx Ls a34.2).bind fun x45 =>
                        (idx x45 0).bind fun x47 =>
                        if x43 ≠ x47 then
                         (idx (Ls.map (encW e.2.2.2 s)) a30.2).bind fun x49 =>
                         (idx (Ls.map (encW e.2.2.2 s)) a30.2).bind fun x51 =>
                         (idx (Ls.map (encW e.2.2.2 s)) a34.2).bind fun x53 =>
                         (idx (Ls.map (encW e.2.2.2 s)) a34.2).bind fun x55 =>
                         (m_ref46_hamming x51 x55).bind fun x57 =>
                         k40 (min a34.1 x57)
                        else
                         k40 a34.1
                      else
                       some (Stp.exit a34.1)) (a30.1, 0)).bind fun a59 =>
                  some (Stp.next (a59, IntKind.wrap .i64 (a30.2 + 1)))
                 else
                  some (Stp.exit a30.1)) (d, 0)) = some r ∧ IsMin d (PairsR e s Ls Ls.length) r := by
  have b1 := hv.b1
  have hmB : (n + 1) * e.2.1.toNat ≤ 16 * 16 := Nat.mul_le_mul hn (by omega)
  refine loop_min (d := d) (n := Ls.length) (PairsR e s Ls) (fun i r hi hr => ?_) (fun r => by rw [if_neg (not_lt_int _)]) ⟨.inl rfl, Int.le_refl _, fun v ⟨p, q, _, h, _⟩ => absurd h (Nat.not_lt_zero _)⟩
  have hxi := hL _ (List.getElem_mem hi)
  have hgi := getD_lt46 (d := ([] : List Int)) hi
  have key := loop_min (d := d) (n := i) (body := (fun a34 =>
                      if a34.2 < (i : Int) then
                       jp (fun (a38 : Int) =>
                         some (Stp.next (a38, IntKind.wrap .i64 (a34.2 + 1))))
                         fun k40 =>
                        (idx Ls (i : Int)).bind fun x41 =>
                        (idx x41 0).bind fun x43 =>
                        (idx Ls a34.2).bind fun x45 =>
                        (idx x45 0).bind fun x47 =>
                        if x43 ≠ x47 then
                         (idx (Ls.map (encW e.2.2.2 s)) (i : Int)).bind fun x49 =>
                         (idx (Ls.map (encW e.2.2.2 s)) (i : Int)).bind fun x51 =>
                         (idx (Ls.map (encW e.2.2.2 s)) a34.2).bind fun x53 =>
                         (idx (Ls.map (encW e.2.2.2 s)) a34.2).bind fun x55 =>
                         (m_ref46_hamming x51 x55).bind fun x57 =>
                         k40 (min a34.1 x57)
                        else
                         k40 a34.1
                      else
                       some (Stp.exit a34.1))) (fun c x => PairsR e s Ls i x ∨ ∃ q, q < c ∧ (Ls.getD i []).getD 0 0 ≠ (Ls.getD q []).getD 0 0 ∧ x = (ham (encW e.2.2.2 s (Ls.getD i [])) (encW e.2.2.2 s (Ls.getD q [])) : Int)) (fun q r hq hr => ?_) (fun r => by rw [if_neg (not_lt_int _)]) (r0 := r) (hr.eqv fun x => ⟨fun h => h.elim id fun ⟨k, h, _⟩ => absurd h (Nat.not_lt_zero _), .inl⟩)
  · obtain ⟨r2, h1, h2⟩ := key
    refine ⟨r2, ?_, h2.eqv fun x => ?_⟩
    · dsimp only
      rw [if_pos (lt_int hi)]
      exact bindL h1 (by rw [nx (by omega : Ls.length ≤ _) hi])
    · constructor
      · rintro ⟨p, q, hq, hp, h5⟩
        rcases lt_succ_or.1 hp with hp | rfl
        · exact .inl ⟨p, q, hq, hp, h5⟩
        · exact .inr ⟨q, hq, h5⟩
      · rintro (⟨p, q, hq, hp, h5⟩ | ⟨q, hq, h5⟩)
        · exact ⟨p, q, hq, by omega, h5⟩
        · exact ⟨i, q, hq, by omega, h5⟩
  · have hqL : q < Ls.length := by omega
    have hxq := hL _ (List.getElem_mem hqL)
    have hgq := getD_lt46 (d := ([] : List Int)) hqL
    have li := encW_len hv _ s hs hxi.2
    have lq := encW_len hv _ s hs hxq.2
    rw [hxi.1] at li
    rw [hxq.1] at lq
    have hi0 : 0 < Ls[i].length := by rw [hxi.1]; omega
    have hq0 : 0 < Ls[q].length := by rw [hxq.1]; omega
    have e1 : Ls[i].getD 0 0 = Ls[i][0] := getD_lt46 hi0
    have e2 : Ls[q].getD 0 0 = Ls[q][0] := getD_lt46 hq0
    have hfin : ∀ (r' : Int) (S' : Int → Prop), True := fun _ _ => trivial
    unfold jp
    dsimp only
    rw [if_pos (lt_int hq), ix hi, Option.bind_some, ix0 hi0, Option.bind_some, ix hqL, Option.bind_some, ix0 hq0, Option.bind_some]
    by_cases c : Ls[i][0] ≠ Ls[q][0]
    · rw [if_pos c, ix (l := Ls.map (encW e.2.2.2 s)) (i := i) (by simpa using hi), ix (l := Ls.map (encW e.2.2.2 s)) (i := q) (by simpa using hqL)]
      simp only [Option.bind_some, List.getElem_map]
      rw [ref_ham (by omega) (by omega), Option.bind_some, nx (by omega : i ≤ 9223372036854775807) hq]
      refine ⟨_, rfl, hr.step _ fun x => ?_⟩
      constructor
      · rintro (h | ⟨q', h3, h4, h5⟩)
        · exact .inl (.inl h)
        · rcases lt_succ_or.1 h3 with h3 | rfl
          · exact .inl (.inr ⟨q', h3, h4, h5⟩)
          · rw [hgi, hgq] at h5; exact .inr h5
      · rintro ((h | ⟨q', h3, h5⟩) | h5)
        · exact .inl h
        · exact .inr ⟨q', by omega, h5⟩
        · exact .inr ⟨q, by omega, by rw [hgi, hgq, e1, e2]; exact c, by rw [hgi, hgq]; exact h5⟩
    · rw [if_neg c, nx (by omega : i ≤ 9223372036854775807) hq]
      refine ⟨_, rfl, hr.eqv fun x => ?_⟩
      constructor
      · rintro (h | ⟨q', h3, h4, h5⟩)
        · exact .inl h
        · rcases lt_succ_or.1 h3 with h3 | rfl
          · exact .inr ⟨q', h3, h4, h5⟩
          · rw [hgi, hgq, e1, e2] at h4; exact absurd h4 c
      · rintro (h | ⟨q', h3, h5⟩)
        · exact .inl h
        · exact .inr ⟨q', by omega, h5⟩
end
end Go.AW
namespace Go.AW
open Go
set_option linter.unusedSimpArgs false
set_option linter.unusedVariables false
structure GoodF (e : En) (s n : Int) : Prop where
 v : VE e
 c : m_ref25_Check e = some 0
 s0 : 0 ≤ s ∧ s < (e.2.2.2.length : Int)
 n0 : 1 ≤ n ∧ n ≤ 16
 i2 : 2 ≤ e.2.2.1
 p : e.2.2.1.toNat ^ n.toNat ≤ 256
theorem both_free (e : En) (s n : Int) : ∃ r f, m_distance_Free e s n = some (r, f) ∧ m_ref46_Free e s n = some (r, f) ∧ (f = 0 ↔ GoodF e s n) ∧ (f = 0 → IsMin (n * e.2.1) (PairsX e s n.toNat) r) := by
 obtain ⟨c, hc, hcv⟩ := encCheck_tot e
 have hc2 : m_ref25_Check e = some c := by rw [← encCheck_eq]; exact hc
 unfold m_distance_Free m_ref46_Free
 simp only [jp]
 rw [hc, hc2]
 simp only [Option.bind_some]
 by_cases h0 : c ≠ 0
 ·rw [if_pos h0, if_pos h0]
  exact ⟨_, _, rfl, rfl, ⟨fun h => (by cases h), fun h => by have := h.c; rw [hc2] at this; cases this; exact absurd rfl h0⟩, fun h => by cases h⟩
 rw [if_neg h0, if_neg h0]
 have h0 : c = 0 := Classical.not_not.1 h0
 subst h0
 have hv := hcv rfl
 by_cases s1 : s < 0
 ·rw [if_pos s1, if_pos s1]
  simp only [if_true]
  exact ⟨_, _, rfl, rfl, ⟨fun h => (by cases h), fun h => by have := h.s0; omega⟩, fun h => by cases h⟩
 rw [if_neg s1, if_neg s1]
 by_cases s2 : (e.2.2.2.length : Int) ≤ s
 ·rw [if_pos (decide_eq_true s2), if_pos (decide_eq_true s2)]
  exact ⟨_, _, rfl, rfl, ⟨fun h => (by cases h), fun h => by have := h.s0; omega⟩, fun h => by cases h⟩
 have s2' : ¬ decide ((e.2.2.2.length : Int) ≤ s) = true := by simpa using s2
 rw [if_neg s2', if_neg s2']
 by_cases n1 : n < 1
 ·rw [if_pos n1, if_pos n1]
  simp only [if_true]
  exact ⟨_, _, rfl, rfl, ⟨fun h => (by cases h), fun h => by have := h.n0; omega⟩, fun h => by cases h⟩
 rw [if_neg n1, if_neg n1]
 by_cases n2 : 16 < n
 ·rw [if_pos (decide_eq_true n2), if_pos (decide_eq_true n2)]
  exact ⟨_, _, rfl, rfl, ⟨fun h => (by cases h), fun h => by have := h.n0; omega⟩, fun h => by cases h⟩
 have n2' : ¬ decide (16 < n) = true := by simpa using n2
 rw [if_neg n2', if_neg n2']
 have i1 := hv.i1
 by_cases i2 : e.2.2.1 = 1
 ·rw [if_pos i2, if_pos (show e.2.2.1 < 2 by omega)]
  exact ⟨_, _, rfl, rfl, ⟨fun h => (by cases h), fun h => by have := h.i2; omega⟩, fun h => by cases h⟩
 rw [if_neg i2, if_neg (show ¬ e.2.2.1 < 2 by omega)]
 obtain ⟨m, rfl⟩ : ∃ m : Nat, n = ((m + 1 : Nat) : Int) := ⟨(n - 1).toNat, by omega⟩
 have hI : e.2.2.1 = ((e.2.2.1.toNat : Nat) : Int) := by omega
 obtain ⟨x, hx, hx2⟩ := cnt_loop (I := e.2.2.1.toNat) (n := m + 1) (by omega) (by omega)
 rw [← hI] at hx
 have hs : 0 ≤ s ∧ s < (e.2.2.2.length : Int) := by omega
 rcases hx2 with ⟨rfl, hp⟩ | ⟨rfl, hp⟩
 ·obtain ⟨r, t1, t2⟩ := tail_eq hv hs (n := m) (by omega) hp
  have hls := lists_eq (I := e.2.2.1.toNat) (by omega) (n := m + 1) (by omega) hp
  rw [← hI] at hls
  have hLin : ∀ y ∈ listsF e.2.2.1.toNat (m + 1), inpI e.2.2.1 (m + 1) y := fun y hy => by
   have := (mem_listsF _ _ _).1 hy
   rwa [← hI] at this
  have hLl : (listsF e.2.2.1.toNat (m + 1)).length ≤ 256 := by rw [listsF_len]; exact hp
  have hw : IntKind.wrap .i64 (((m + 1 : Nat) : Int) * e.2.1) = ((m + 1 : Nat) : Int) * e.2.1 := by
   have b1 := hv.b1
   obtain ⟨B, hB⟩ := Int.eq_ofNat_of_zero_le (show 0 ≤ e.2.1 by omega)
   have hmB : (m + 1) * B ≤ 16 * 16 := Nat.mul_le_mul (by omega) (by omega)
   have h2 : ((m + 1 : Nat) : Int) * e.2.1 = (((m + 1) * B : Nat) : Int) := by rw [hB]; simp
   rw [h2, w64 (by omega) (by omega)]
  obtain ⟨r', u1, u2⟩ := ref_loops hv hs (n := m) (by omega) hLin hLl (((m + 1 : Nat) : Int) * e.2.1)
  have hrr : r = r' := t2.uniq u2 fun y => (ref_pairs hv hs m y).symm
  subst hrr
  refine ⟨r, 0, lpL hx ?_, lpL hx ?_, ⟨fun _ => ⟨hv, hc2, hs, by omega, by omega, hp⟩, fun _ => rfl⟩, fun _ => t2⟩
  ·exact (if_pos (freeOk hv hs (by omega) hp)).trans t1
  ·show ((m_ref46_lists e.2.2.1 ((m + 1 : Nat) : Int)).bind _) = _
   rw [hls, Option.bind_some]
   refine bindL (x := (listsF e.2.2.1.toNat (m + 1)).map (encW e.2.2.2 s)) ?_ ?_
   ·generalize listsF e.2.2.1.toNat (m + 1) = Ls at hLin hLl
    refine loop_is (fun i => ((i : Int), (Ls.take i).map (encW e.2.2.2 s))) Ls.length _ (fun i hi => ?_) ?_ rfl
    ·dsimp only
     have hxi := hLin _ (List.getElem_mem hi)
     rw [if_pos (lt_int hi), ix hi, Option.bind_some, RefEncode_eq hv hc2 hs hxi.2 (by have := hxi.1; omega), Option.bind_some, if_pos (fits_le (by simp; omega) (by simp; omega)), nx (by omega : Ls.length ≤ _) hi, List.take_add_one, List.getElem?_eq_getElem hi, List.map_append]
     rfl
    ·dsimp only
     rw [if_neg (not_lt_int _), List.take_length]
   ·rw [hw]
    exact bindL u1 rfl
 ·refine ⟨0, 4, lpL hx rfl, lpL hx rfl, ⟨fun h => (by cases h), fun h => absurd h.p ?_⟩, fun h => by cases h⟩
  rw [Int.toNat_natCast]
  exact hp
theorem free_mono {e : En} {s : Int} {m : Nat} (hv : VE e) (hs : 0 ≤ s ∧ s < (e.2.2.2.length : Int)) {a c : Int} (ha : IsMin (((m + 2 : Nat) : Int) * e.2.1) (PairsX e s (m + 2)) a) (hc : IsMin (((m + 1 : Nat) : Int) * e.2.1) (PairsX e s (m + 1)) c) : c ≤ a := by
 have b1 := hv.b1
 rcases ha.1 with h | ⟨X, Y, hX, hY, hne, h⟩
 ·have h2 := hc.2.1
  have : ((m + 1 : Nat) : Int) * e.2.1 ≤ ((m + 2 : Nat) : Int) * e.2.1 := Int.mul_le_mul_of_nonneg_right (by omega) (by omega)
  omega
 ·obtain ⟨X', x, rfl⟩ : ∃ X' x, X = X' ++ [x] := by
   rcases List.eq_nil_or_concat X with rfl | ⟨l, b, rfl⟩
   ·have := hX.1; simp at this
   ·exact ⟨l, b, by rw [List.concat_eq_append]⟩
  obtain ⟨Y', y, rfl⟩ : ∃ Y' y, Y = Y' ++ [y] := by
   rcases List.eq_nil_or_concat Y with rfl | ⟨l, b, rfl⟩
   ·have := hY.1; simp at this
   ·exact ⟨l, b, by rw [List.concat_eq_append]⟩
  have lX : X'.length = m + 1 := by have := hX.1; simpa using this
  have lY : Y'.length = m + 1 := by have := hY.1; simpa using this
  have iX : inpI e.2.2.1 (m + 1) X' := ⟨lX, fun b hb => hX.2 b (by simp [hb])⟩
  have iY : inpI e.2.2.1 (m + 1) Y' := ⟨lY, fun b hb => hY.2 b (by simp [hb])⟩
  have gX : (X' ++ [x]).getD 0 0 = X'.getD 0 0 := by
   rw [List.getD_eq_getElem?_getD, List.getElem?_append_left (by omega), ← List.getD_eq_getElem?_getD]
  have gY : (Y' ++ [y]).getD 0 0 = Y'.getD 0 0 := by
   rw [List.getD_eq_getElem?_getD, List.getElem?_append_left (by omega), ← List.getD_eq_getElem?_getD]
  have h3 := hc.2.2 _ ⟨X', Y', iX, iY, by rw [← gX, ← gY]; exact hne, rfl⟩
  rw [(encW_snoc e.2.2.2 X' s x).1, (encW_snoc e.2.2.2 Y' s y).1, ham_app _ _ _ _ (by rw [encW_len hv X' s hs iX.2, encW_len hv Y' s hs iY.2, lX, lY])] at h
  omega
theorem idxC_tot (l : List TToWord) (f : TToWord → Option Bool) (hl : l.length ≤ 1000) (hf : ∀ x ∈ l, ∃ b, f x = some b) : ∃ r, m_slices_IndexFunc_Lapi_Cell_api_Cell l f = some r := by
  unfold m_slices_IndexFunc_Lapi_Cell_api_Cell
  obtain ⟨x, hx, _⟩ := loopN (Q := fun _ => True) (body := fun a1 =>
     if a1 < ((l).length : Int) then
      (idx l a1).bind fun x5 =>
      (f x5).bind fun x7 =>
      if x7 = true then
       some (Stp.exit (Ou.ret a1))
      else
       some (Stp.next (IntKind.wrap .i64 (a1 + 1)))
     else
      some (Stp.exit (Ou.go ()) : Stp Int (Ou Unit Int))) l.length (fun i s => s = (i : Int)) (fun i s hi hs => by
    subst hs
    obtain ⟨b, hb⟩ := hf _ (List.getElem_mem hi)
    rw [if_pos (lt_int hi), ix hi, Option.bind_some, hb, Option.bind_some]
    cases b with
    | true => exact .inr ⟨_, rfl, trivial⟩
    | false => exact .inl ⟨_, rfl, by rw [nx (by omega : l.length ≤ _) hi]⟩) (fun s hs => by subst hs; rw [if_neg (not_lt_int _)]; exact ⟨_, rfl, trivial⟩) 0 0 (Nat.zero_le _) rfl
  cases x with
  | go _ => exact ⟨_, lpL hx rfl⟩
  | ret c => exact ⟨_, lpL hx rfl⟩
theorem idxR_tot (l : List (List TToWord)) (f : List TToWord → Option Bool) (hl : l.length ≤ 1000) (hf : ∀ x ∈ l, ∃ b, f x = some b) : ∃ r, m_slices_IndexFunc_LLapi_Cell_Lapi_Cell l f = some r := by
  unfold m_slices_IndexFunc_LLapi_Cell_Lapi_Cell
  obtain ⟨x, hx, _⟩ := loopN (Q := fun _ => True) (body := fun a1 =>
     if a1 < ((l).length : Int) then
      (idx l a1).bind fun x5 =>
      (f x5).bind fun x7 =>
      if x7 = true then
       some (Stp.exit (Ou.ret a1))
      else
       some (Stp.next (IntKind.wrap .i64 (a1 + 1)))
     else
      some (Stp.exit (Ou.go ()) : Stp Int (Ou Unit Int))) l.length (fun i s => s = (i : Int)) (fun i s hi hs => by
    subst hs
    obtain ⟨b, hb⟩ := hf _ (List.getElem_mem hi)
    rw [if_pos (lt_int hi), ix hi, Option.bind_some, hb, Option.bind_some]
    cases b with
    | true => exact .inr ⟨_, rfl, trivial⟩
    | false => exact .inl ⟨_, rfl, by rw [nx (by omega : l.length ≤ _) hi]⟩) (fun s hs => by subst hs; rw [if_neg (not_lt_int _)]; exact ⟨_, rfl, trivial⟩) 0 0 (Nat.zero_le _) rfl
  cases x with
  | go _ => exact ⟨_, lpL hx rfl⟩
  | ret c => exact ⟨_, lpL hx rfl⟩
theorem cellsLong_tot (l : List (List TToWord)) (hl : l.length ≤ 6) : ∃ b, m_slices_ContainsFunc_LLapi_Cell_Lapi_Cell l = some b := by
 unfold m_slices_ContainsFunc_LLapi_Cell_Lapi_Cell
 obtain ⟨r, hr⟩ := idxR_tot l (fun b0 => m_law46_DistanceFree_1 b0) (by omega) fun row _ => by
  unfold m_law46_DistanceFree_1
  simp only [jp]
  by_cases h : 6 < (row.length : Int)
  ·rw [if_pos h]; exact ⟨_, rfl⟩
  ·rw [if_neg h]
   unfold m_slices_ContainsFunc_Lapi_Cell_api_Cell
   obtain ⟨r, hr⟩ := idxC_tot row (fun b0 => m_law46_DistanceFree_1_1 b0) (by omega) fun x _ => ⟨_, rfl⟩
   rw [hr]
   exact ⟨_, rfl⟩
 rw [hr]
 exact ⟨_, rfl⟩
theorem jp_all {S R : Type} {F : S → Option R} {G : (S → Option R) → Option R} {r : Option R} (hF : ∀ b, F b = r) (hG : ∀ k : S → Option R, (∀ b, k b = r) → G k = r) : jp F G = r := hG F hF
theorem law_free (e : En) (s n : Int) : m_law46_DistanceFree e s n = some true := by
  by_cases h6 : 6 < (e.2.2.2.length : Int)
  · unfold m_law46_DistanceFree jp
    dsimp only
    rw [if_pos h6]
    rfl
  obtain ⟨b, hb⟩ := cellsLong_tot e.2.2.2 (by omega)
  have aw : m_law46_awake = some true := rfl
  have go : ((m_slices_ContainsFunc_LLapi_Cell_Lapi_Cell e.2.2.2).bind fun x6 => if x6 = true then (m_law46_awake).bind fun x8 => some x8 else
     (m_distance_Free e s n).bind fun x10 =>
     (m_ref46_Free e s n).bind fun x12 =>
     jp (fun (a14 : Bool) =>
       if a14 = true then
        some false
       else
        jp (fun (a17 : Bool) =>
          if a17 = true then
           (m_law46_awake).bind fun x20 =>
           some x20
          else
           (m_distance_Free e s (IntKind.wrap .i64 (n - 1))).bind fun x22 =>
           jp (fun (a24 : Bool) =>
             some a24)
             fun k26 =>
            if x22.2 = 0 then
             if x22.1 ≤ x10.1 then
              (m_ref25_Check e).bind fun x27 =>
              if x27 = 0 then
               (m_law46_awake).bind fun x29 =>
               k26 x29
              else
               k26 false
             else
              k26 false
            else
             k26 false)
          fun k19 =>
         if x10.2 ≠ 0 then
          k19 true
         else
          k19 (decide (n < 2)))
       fun k16 =>
      if x10.1 ≠ x12.1 then
       k16 true
      else
       k16 (decide (x10.2 ≠ x12.2))) = some true := by
    rw [hb, Option.bind_some]
    cases b with
    | true => rw [if_pos rfl, aw]; rfl
    | false =>
      rw [if_neg (by decide)]
      obtain ⟨r, f, e1, e2, e3, e4⟩ := both_free e s n
      rw [e1, e2]
      unfold jp
      dsimp only [Option.bind_some]
      rw [if_neg (fun h => h rfl), if_neg (by simp)]
      by_cases hf : f ≠ 0
      · rw [if_pos hf, if_pos rfl, aw]; rfl
      rw [if_neg hf]
      by_cases h2 : n < 2
      · rw [if_pos (decide_eq_true h2), aw]; rfl
      rw [if_neg (by simpa using h2)]
      have hf0 : f = 0 := Classical.not_not.1 hf
      subst hf0
      have hg := e3.1 rfl
      have hn0 := hg.n0
      obtain ⟨m, rfl⟩ : ∃ m : Nat, n = ((m + 2 : Nat) : Int) := ⟨(n - 2).toNat, by omega⟩
      have hw : IntKind.wrap .i64 (((m + 2 : Nat) : Int) - 1) = ((m + 1 : Nat) : Int) := by rw [w64 (by omega) (by omega)]; omega
      obtain ⟨r2, f2, g1, g2, g3, g4⟩ := both_free e s ((m + 1 : Nat) : Int)
      have hp := hg.p
      have hi2 := hg.i2
      rw [Int.toNat_natCast] at hp
      have hpw : e.2.2.1.toNat ^ (m + 1) ≤ e.2.2.1.toNat ^ (m + 2) := Nat.pow_le_pow_right (by omega) (by omega)
      have hf2 : f2 = 0 := g3.2 ⟨hg.v, hg.c, hg.s0, by omega, hg.i2, by rw [Int.toNat_natCast]; omega⟩
      subst hf2
      have hle := free_mono hg.v hg.s0 (e4 rfl) (g4 rfl)
      rw [hw, g1]
      dsimp only [Option.bind_some]
      rw [if_pos rfl, if_pos hle, hg.c]
      dsimp only [Option.bind_some]
      rw [if_pos rfl, aw]
      rfl
  unfold m_law46_DistanceFree
  refine jp_all (fun b => ?_) fun k hk => ?_
  · cases b with
    | true => exact (if_pos rfl).trans (by rw [aw]; rfl)
    | false => exact (if_neg (by decide)).trans go
  · repeat' split
    all_goals exact hk _
end Go.AW
namespace Go.AW
open Go Go.ChangeShapes Go.WideShapes Go.ChangeAt Go.RowKit
def Kept (W W' : World) : Prop := W'.os = W.os ∧ W'.output = W.output ∧ W.heap.size ≤ W'.heap.size ∧ ∀ b : Nat, b < W.heap.size → W'.heap[b]? = W.heap[b]?
theorem Kept.frame {W W' : World} (h : Kept W W') (may : MemPlace → Prop) : W.keptBut W' may := by
 refine ⟨h.1, h.2.1, fun i hi => ?_⟩
 rw [h.2.2.2 i hi]
 cases W.heap[i]? with
 | none => rfl
 | some o => cases o with
  | cells c t fr => exact ⟨rfl, rfl, rfl, fun _ _ => rfl⟩
  | map es clock => exact .inr ⟨rfl, rfl⟩
  | _ => rfl
theorem Kept.frozen {W W' : World} (h : Kept W W') (a : Addr) (ha : a.block < W.heap.size) : W'.frozen? a = W.frozen? a := by
 simp only [World.frozen?, h.2.2.2 _ ha]
def Mu.zero : Mu := { nx := 0, loc := fun _ => none, held := fun _ => False }
theorem SR.zero (W : World) : SR W Mu.zero [] :=
 ⟨(fun _ _ _ h => by cases h), (fun _ _ _ h => by cases h), (fun _ _ h => by cases h), (fun _ _ _ _ _ h => by cases h), (fun _ h => h.elim)⟩
theorem calls_of_pure {P : Program} {f : FuncId} {args : List HV} {vs : List Value} {W : World} (hp : Pure P f args (· = .bool true)) (hr : RepL W Mu.zero args vs) (hgl : GlOk W Mu.zero := by exact fun _ h => by cases h) :
  Calls P f vs.toArray W fun e W' => e = .returned (.bool true) ∧ Kept W W' := by
 refine (hp.2 Mu.zero W vs (SR.zero W) hr hgl).mono ?_
 rintro e W' ⟨v, r, H', μ', rfl, ⟨rfl, _, _⟩, hs, hv, E⟩
 have hv' : v = .bool true := hv
 subst hv'
 exact ⟨rfl, E.os, E.output, E.size, fun b hb => E.keep b hb fun ⟨_, _, hl⟩ => by cases hl⟩
theorem rep_string {W : World} {μ : Mu} (s : ByteArray) (h : s.size ≤ maxLen) : Rep W μ (.str s.data.toList) (.string s) := by
 refine ⟨by cases s; simp, ?_⟩
 have : s.data.toList.length = s.size := by simp
 omega
theorem post_of_kept {H : Type} {enc : TypeId × Value → H} {P : Program} {f : Func} {s : ChangeSpec} {apart fresh handsOn again : Bool} {W W' : World} {args : Array Value} {v : Value} {ds gs : List (DataW H)} {before pa pv : List MemPlace}
  (hW : DataW.Whole enc P f.params.toList s.vars apart W args.toList ds gs before)
  (hres : ∀ (b : Nat) (sp : Nat → Bool) (hd : Bool), DataW.TrodAll enc P W' b sp hd f.resultTypes.toList (v.resultList f.resultTypes.size) (s.fn H (ds ++ gs)).results [])
  (hargs : ∀ sp : Nat → Bool, (∀ p ∈ before, sp p.block = true) → DataW.TrodAll enc P W' 0 sp true f.params.toList args.toList (s.fn H (ds ++ gs)).args pa)
  (hvars : ∀ sp : Nat → Bool, (∀ p ∈ before, sp p.block = true) → DataW.TrodVars enc P W' sp s.vars (s.fn H (ds ++ gs)).vars pv)
  (hps : before = pa ++ pv) (hk : Kept W W')
  (hok : ∀ (j : Nat) (t : TypeId) (r : Value), f.resultTypes[j]? = some t → (v.resultList f.resultTypes.size)[j]? = some r → Value.okWide P W' .any 0 t r) :
  s.post enc P f apart fresh handsOn again W args v W' := by
 have hold : ∀ p ∈ before, (fun b => decide (b < W.heap.size)) p.block = true := fun p hp => by simpa using hW.lt p hp
 refine ⟨ds, gs, before, [], pa, pv, hW, hres _ _ _, hargs _ hold, hvars _ hold, World.keptBut_mono (fun p hp => ⟨hp, ?_⟩) (hk.frame (· ∈ before)), fun _ => ?_⟩
 ·rw [hps, List.mem_append] at hp
  exact Or.inr hp
 ·have hlt := hW.lt
  obtain ⟨_, _, _, _, _, hz, hn⟩ := hW
  refine ⟨hok, _, _, ([] ++ pa) ++ pv, ⟨[] ++ pa, pv, trodAll_append (hargs _ (fun _ _ => rfl)) (hres _ _ _), hvars _ (fun _ _ => rfl), rfl, ?_, ?_⟩, ?_⟩
  ·intro b off hp
   have hp' : MemPlace.cell b off ∈ before := by rw [hps]; simpa using hp
   rw [hk.frozen _ (hlt _ hp')]
   exact hz b off hp'
  ·intro ha
   have := hn ha
   rw [hps] at this
   simpa using this
  ·intro p hp _
   rw [hps]
   simpa using hp
theorem rowAt_le {p : Program} {fits : TypeId → Bool} {d : Nat} {e : TypeId} {count off n : Nat} (h : rowAt p fits d e count off n = true) : off ≤ count * p.cellsOf e := by
 cases d with
 | zero => simp [rowAt] at h
 | succ d =>
  unfold rowAt at h
  simp only at h
  split at h
  ·cases h
  ·rename_i hs
   have hs' : 0 < p.cellsOf e := Nat.pos_of_ne_zero hs
   have hd := Nat.div_add_mod off (p.cellsOf e)
   rw [Nat.mul_comm] at hd
   simp only [Bool.or_eq_true, Bool.and_eq_true, beq_iff_eq, decide_eq_true_eq] at h
   rcases h with ⟨⟨h0, h1⟩, _⟩ | ⟨h1, _⟩
   ·rw [← hd, h0, Nat.add_zero]
    exact Nat.mul_le_mul_right _ (by omega)
   ·have hm := Nat.mod_lt off hs'
    have : (off / p.cellsOf e + 1) * p.cellsOf e ≤ count * p.cellsOf e := Nat.mul_le_mul_right _ h1
    rw [Nat.add_mul] at this
    omega
theorem liesAt_le {p : Program} {d : Nat} {e u : TypeId} {count off n : Nat} (h : liesAt p d e count off u n = true) : off ≤ count * p.cellsOf e := by
 induction d generalizing u n with
 | zero => simp [liesAt] at h
 | succ d ih =>
  unfold liesAt at h
  rw [Bool.or_eq_true] at h
  rcases h with h | h
  ·exact rowAt_le h
  ·split at h
   ·exact ih h
   ·cases h
theorem has_seg {P : Program} {W : World} {r : Reach} {base : Nat} {a : Addr} {e : TypeId} {cap : Nat} (h : W.has P r base a e cap) {vs : List Value} (hc : ∀ i (hi : i < vs.length), W.cell? (a.add i) = some vs[i]) :
  ∃ b off, a = ⟨b, off, none⟩ ∧ Seg W b off vs := by
 obtain ⟨_, hsp, row, cells, hsh, hl⟩ := h
 obtain ⟨b, off, spot⟩ := a
 dsimp only at hsp hsh hl
 subst hsp
 refine ⟨b, off, rfl, ?_⟩
 unfold World.shape? at hsh
 split at hsh
 ·rename_i cur e' fr hb
  simp only [Option.some.injEq, Prod.mk.injEq] at hsh
  obtain ⟨rfl, rfl⟩ := hsh
  have hoff : off ≤ cur.size := Nat.le_trans (liesAt_le hl) (Nat.div_mul_le_self _ _)
  have hget : ∀ i (hi : i < vs.length), cur.toList[off + i]? = some vs[i] := fun i hi => by
   have := hc i hi
   rw [add_plain] at this
   unfold World.cell? at this
   rw [hb] at this
   simpa using this
  refine ⟨cur, e', fr, cur.toList.take off, cur.toList.drop (off + vs.length), hb, ?_, by simp [hoff]⟩
  have hvs : vs = (cur.toList.drop off).take vs.length := by
   apply List.ext_getElem?
   intro i
   rcases Nat.lt_or_ge i vs.length with hi | hi
   ·rw [List.getElem?_take_of_lt hi, List.getElem?_drop, hget i hi, List.getElem?_eq_getElem hi]
   ·rw [List.getElem?_eq_none hi, List.getElem?_eq_none (by simp; omega)]
  have : vs ++ cur.toList.drop (off + vs.length) = cur.toList.drop off := by
   conv => lhs; arg 1; rw [hvs]
   rw [← List.drop_drop]
   exact List.take_append_drop _ _
  rw [List.append_assoc, this, List.take_append_drop]
 ·cases hsh
theorem nown (b : Nat) : ¬ Mu.zero.owns b := fun h => h.elim (fun ⟨_, _, h⟩ => by cases h) id
theorem open_num {H : Type} {enc : TypeId × Value → H} {P : Program} {W : World} {base : Nat} {t : TypeId} {k : IntKind} {v : Value} {d : DataW H} {ps : List MemPlace} (ht : P.underlying t = some (.int k))
  (hval : Value.okWide P W .any base t v) (h : DataW.Trod enc P W 0 (fun _ => true) true t v d ps) : ∃ n : Int, (Lit.int k n).wf = true ∧ Rep W Mu.zero (.int k n) v := by
 obtain ⟨n, rfl, _, _, hw⟩ := open_int ht hval h
 exact ⟨n, hw, rfl, hw⟩
theorem trodAll_stays {H : Type} {enc : TypeId × Value → H} {P : Program} (hl : laidOutB P = true) {W W' : World} {sp : Nat → Bool} : ∀ {ts : List TypeId} {vs : List Value} {ds : List (DataW H)} {ps : List MemPlace},
  (ts.all fun t => P.readableRec t && decide (t < P.types.size)) = true → DataW.TrodAll enc P W 0 (fun _ => true) true ts vs ds ps → (∀ p ∈ ps, W.sameAt W' p) → (∀ p ∈ ps, sp p.block = true) → DataW.TrodAll enc P W' 0 sp true ts vs ds ps
 | [], vs, ds, ps, _, h, _, _ => by
  obtain ⟨rfl, rfl, rfl⟩ := trodAll_nil h
  exact trodAll_mk0
 | t :: ts, vs, ds, ps, ht, h, h1, h2 => by
  obtain ⟨v, vs', d, ds', p, q, rfl, rfl, rfl, h3, h4⟩ := trodAll_cons h
  simp only [List.all_cons, Bool.and_eq_true, decide_eq_true_eq] at ht
  exact trodAll_cons_mk (WideElems.Trod_stays hl ht.1.1 ht.1.2 h3 (fun x hx => h1 x (List.mem_append_left _ hx)) (fun x hx => h2 x (List.mem_append_left _ hx)))
   (trodAll_stays hl ht.2 h4 (fun x hx => h1 x (List.mem_append_right _ hx)) (fun x hx => h2 x (List.mem_append_right _ hx)))
theorem Kept.same {W W' : World} (h : Kept W W') (p : MemPlace) (hp : p.block < W.heap.size) : W.sameAt W' p := by
 cases p with
 | cell b off =>
  show W'.cell? ⟨b, off, none⟩ = W.cell? ⟨b, off, none⟩
  unfold World.cell?
  rw [h.2.2.2 b hp]
 | map b => exact h.2.2.2 b hp
theorem post_of_true {H : Type} {enc : TypeId × Value → H} {P : Program} {f : Func} {s : ChangeSpec} {apart fresh handsOn again : Bool} {W W' : World} {args : Array Value} {ds gs : List (DataW H)} {before : List MemPlace} {t : TypeId}
  (hl : laidOutB P = true) (hps : (f.params.toList.all fun t => P.readableRec t && decide (t < P.types.size)) = true) (hres : f.resultTypes = #[t]) (ht : P.underlying t = some .bool) (hv : s.vars = [])
  (hW : DataW.Whole enc P f.params.toList s.vars apart W args.toList ds gs before) (hk : Kept W W')
  (h1 : (s.fn H (ds ++ gs)).results = [.lit (.bool true)]) (h2 : (s.fn H (ds ++ gs)).args = ds) (h3 : (s.fn H (ds ++ gs)).vars = []) :
  s.post enc P f apart fresh handsOn again W args (.bool true) W' := by
 have hlt := hW.lt
 have hW' := hW
 obtain ⟨p, q, hA, hV, rfl, _, _⟩ := hW
 rw [hv] at hV
 obtain ⟨rfl, rfl⟩ := trodVars_none hV
 refine post_of_kept (pa := p) (pv := []) hW' (fun _ _ _ => ?_) (fun sp hsp => ?_) (fun _ _ => ?_) (by simp) hk (ok_one hres rfl (okWide_bool_mk ht _))
 ·rw [hres, h1]
  exact trodAll_cons_mk (shut_bool ht _) trodAll_mk0
 ·rw [h2]
  exact trodAll_stays hl hps hA (fun x hx => hk.same x (hlt x (by simpa using hx))) (fun x hx => hsp x (by simpa using hx))
 ·rw [h3, hv]
  rfl
section
variable {H : Type} {enc : TypeId × Value → H} {P : Program} {W : World} {base : Nat}
theorem repL_app {μ : Mu} : ∀ {hs ks : List HV} {vs us : List Value}, RepL W μ hs vs → RepL W μ ks us → RepL W μ (hs ++ ks) (vs ++ us)
 | [], _, _, _, h, h' => by cases h; exact h'
 | _ :: _, _, _, _, ⟨x, xs, rfl, h1, h2⟩, h' => ⟨x, _, rfl, h1, repL_app h2 h'⟩
theorem add_adds (a : Addr) (i j : Nat) : (a.add i).add j = a.add (i + j) := by
 unfold Addr.add
 repeat' split
 all_goals simp_all [Nat.add_assoc]
theorem open_rows {α : Type} (c : EncL α) {fuel : Nat} {t e : TypeId} {cs : List Value} {x : DataW H × List MemPlace} (ht : P.underlying t = some (.slice e)) (hk : P.cellsOf e = c.k) (hone : ∀ x, ones (c.C x))
  (hel : ∀ n cs y, DataW.trod enc P W 0 (fun _ => true) true n e cs = some y → ∃ x : α, RepL W Mu.zero (c.C x) cs)
  (hhas : ∀ a len cap, cs = [.slice (some a) len cap] → W.has P .any base a e cap) (h : DataW.trod enc P W 0 (fun _ => true) true fuel t cs = some x) : ∃ l : List α, RepL W Mu.zero [slE c l] cs := by
 rcases DataW.trod_slice ht h with ⟨rfl, _⟩ | ⟨a, len, cap, elems, rest, n, _, rfl, _, _, hl, hm, hlen, hel', _, _⟩
 ·refine ⟨[], _, _, rfl, ?_, rfl⟩
  show _ ∧ _
  exact ⟨(by rw [c.nil]; exact fun _ h => nomatch h), (by rw [c.nil]; simp), Nat.zero_le _, .inl ⟨rfl, none, rfl⟩⟩
 ·have each : ∀ i, i < len → ∃ cs' x, W.cells? 0 (a.add (i * c.k)) c.k = some cs' ∧ RepL W Mu.zero (c.C x) cs' := fun i hi => by
   have h1 := hel' i hi
   rw [List.getElem?_eq_getElem (by omega), Option.bind_eq_some_iff, hk] at h1
   obtain ⟨cs', h2, h3⟩ := h1
   obtain ⟨x, hx⟩ := hel _ _ _ h3
   exact ⟨cs', x, h2, hx⟩
  have build : ∀ m, m ≤ len → ∃ (l : List α) (vs : List Value), l.length = m ∧ vs.length = m * c.k ∧ RepL W Mu.zero (c.E l) vs ∧ ∀ i (hi : i < vs.length), W.cell? (a.add i) = some vs[i] := by
   intro m
   induction m with
   | zero => exact fun _ => ⟨[], [], rfl, by simp, by rw [c.nil]; rfl, fun i hi => by simp at hi⟩
   | succ m ih =>
    intro hm
    obtain ⟨l, vs, h1, h2, h3, h4⟩ := ih (by omega)
    obtain ⟨cs', x, h5, h6⟩ := each m (by omega)
    obtain ⟨_, h7, h8⟩ := World.cells?_some h5
    refine ⟨l ++ [x], vs ++ cs', by simp [h1], by rw [List.length_append, h2, h7, Nat.succ_mul], by rw [c.append, c.one]; exact repL_app h3 h6, fun i hi => ?_⟩
    rcases Nat.lt_or_ge i vs.length with hi' | hi'
    ·rw [List.getElem_append_left hi']; exact h4 i hi'
    ·rw [List.getElem_append_right hi']
     rw [List.length_append] at hi
     have := h8 (i - vs.length) (by omega)
     rw [add_adds, h2, show m * c.k + (i - m * c.k) = i by omega] at this
     rw [this, List.getElem?_eq_getElem (by omega)]
     simp only [h2]
  obtain ⟨l, vs, h1, h2, h3, h4⟩ := build len (Nat.le_refl _)
  obtain ⟨b, off, rfl, hseg⟩ := has_seg (hhas _ _ _ rfl) h4
  refine ⟨l, _, _, rfl, ?_, rfl⟩
  show _ ∧ _
  refine ⟨fun d hd => ?_, c.len l, by omega, .inr ⟨b, off, cap, vs, by rw [h1], by omega, nown b, hseg, h3⟩⟩
  rw [c.hE] at hd
  obtain ⟨x, _, hdx⟩ := List.mem_flatMap.1 hd
  exact hone x d hdx
theorem rep_i64 {n : Int} {ti : TypeId} {m : Nat} {v : Value} {y : DataW H × List MemPlace} (hti : P.underlying ti = some (.int .i64)) (h : DataW.trod enc P W 0 (fun _ => true) true m ti [v] = some y) : ∃ n : Int, Rep W Mu.zero (.int .i64 n) v := by
 obtain ⟨n, hv, _, hw⟩ := DataW.trod_int hti h
 cases hv
 exact ⟨n, rfl, hw⟩
end
end Go.AW
namespace Go.AW
open Go Go.ChangeShapes Go.WideShapes Go.ChangeAt Go.RowKit
section
variable {H : Type} {enc : TypeId × Value → H} {P : Program} {W : World} {base : Nat}
theorem open2 {t : TypeId} {f0 f1 : Field} {fuel : Nat} {cs : List Value} {x : DataW H × List MemPlace} (ht : P.underlying t = some (.struct #[f0, f1])) (o0 : f0.offset = 0) (o1 : f1.offset = 1) (c : P.cellsOf t = 2)
  (c0 : P.cellsOf f0.type = 1) (c1 : P.cellsOf f1.type = 1) (h : DataW.trod enc P W 0 (fun _ => true) true fuel t cs = some x) :
  ∃ v0 v1 y0 y1 n, cs = [v0, v1] ∧ DataW.trod enc P W 0 (fun _ => true) true n f0.type [v0] = some y0 ∧ DataW.trod enc P W 0 (fun _ => true) true n f1.type [v1] = some y1 := by
 obtain ⟨xs, n, _, rfl, hl, hlen, hf⟩ := DataW.trod_struct ht h
 rw [c] at hl
 match cs, hl with
 | [v0, v1], _ =>
  match xs, hlen with
  | [y0, y1], _ =>
   refine ⟨v0, v1, y0, y1, n, rfl, ?_, ?_⟩
   ·have := hf 0 f0 rfl; rw [o0, c0] at this; exact this
   ·have := hf 1 f1 rfl; rw [o1, c1] at this; exact this
end
end Go.AW
namespace Go.AW
open Go Go.ChangeShapes Go.WideShapes Go.ChangeAt Go.RowKit
section
variable {H : Type} {enc : TypeId × Value → H} {P : Program} {W : World} {base : Nat}
theorem cell_seg {a : Addr} {v : Value} (h0 : W.cell? (a.add 0) = some v) {vs : List Value} (hc : ∀ i (hi : i < vs.length), W.cell? (a.add i) = some vs[i]) :
  ∃ b off, a = ⟨b, off, none⟩ ∧ Seg W b off vs := by
 obtain ⟨b, off, spot⟩ := a
 have e0 : (Addr.mk b off spot).add 0 = ⟨b, off, spot⟩ := by simp [Addr.add]
 rw [e0] at h0
 unfold World.cell? at h0
 dsimp only at h0
 split at h0
 ·rename_i cur e' fr hb
  split at h0
  ·cases h0
  ·rename_i hs
   obtain rfl : spot = none := by cases spot <;> simp_all
   refine ⟨b, off, rfl, ?_⟩
   have hoff : off ≤ cur.size := by
    obtain ⟨h, _⟩ := Array.getElem?_eq_some_iff.1 h0
    omega
   have hget : ∀ i (hi : i < vs.length), cur.toList[off + i]? = some vs[i] := fun i hi => by
    have := hc i hi
    rw [add_plain] at this
    unfold World.cell? at this
    rw [hb] at this
    simpa using this
   refine ⟨cur, e', fr, cur.toList.take off, cur.toList.drop (off + vs.length), hb, ?_, by simp [hoff]⟩
   have hvs : vs = (cur.toList.drop off).take vs.length := by
    apply List.ext_getElem?
    intro i
    rcases Nat.lt_or_ge i vs.length with hi | hi
    ·rw [List.getElem?_take_of_lt hi, List.getElem?_drop, hget i hi, List.getElem?_eq_getElem hi]
    ·rw [List.getElem?_eq_none hi, List.getElem?_eq_none (by simp; omega)]
   have : vs ++ cur.toList.drop (off + vs.length) = cur.toList.drop off := by
    conv => lhs; arg 1; rw [hvs]
    rw [← List.drop_drop]
    exact List.take_append_drop _ _
   rw [List.append_assoc, this, List.take_append_drop]
 ·cases h0
theorem open_rows0 {α : Type} (c : EncL α) {fuel : Nat} {t e : TypeId} {cs : List Value} {x : DataW H × List MemPlace} (ht : P.underlying t = some (.slice e)) (hk : P.cellsOf e = c.k) (hk0 : 0 < c.k) (hone : ∀ x, ones (c.C x))
  (hel : ∀ n cs y, DataW.trod enc P W 0 (fun _ => true) true n e cs = some y → ∃ x : α, RepL W Mu.zero (c.C x) cs)
  (h : DataW.trod enc P W 0 (fun _ => true) true fuel t cs = some x) : ∃ l : List α, RepL W Mu.zero [slE c l] cs := by
 rcases DataW.trod_slice ht h with ⟨rfl, _⟩ | ⟨a, len, cap, elems, rest, n, _, rfl, _, _, hl, hm, hlen, hel', hsp, _⟩
 ·refine ⟨[], _, _, rfl, ?_, rfl⟩
  show _ ∧ _
  exact ⟨(by rw [c.nil]; exact fun _ h => nomatch h), (by rw [c.nil]; simp), Nat.zero_le _, .inl ⟨rfl, none, rfl⟩⟩
 ·rcases Nat.eq_zero_or_pos cap with rfl | hcap
  ·obtain rfl : len = 0 := by omega
   refine ⟨[], _, _, rfl, ?_, rfl⟩
   show _ ∧ _
   exact ⟨(by rw [c.nil]; exact fun _ h => nomatch h), (by rw [c.nil]; simp), Nat.zero_le _, .inl ⟨rfl, some a, rfl⟩⟩
  have each : ∀ i, i < len → ∃ cs' x, W.cells? 0 (a.add (i * c.k)) c.k = some cs' ∧ RepL W Mu.zero (c.C x) cs' := fun i hi => by
   have h1 := hel' i hi
   rw [List.getElem?_eq_getElem (by omega), Option.bind_eq_some_iff, hk] at h1
   obtain ⟨cs', h2, h3⟩ := h1
   obtain ⟨x, hx⟩ := hel _ _ _ h3
   exact ⟨cs', x, h2, hx⟩
  have first : ∃ v, W.cell? (a.add 0) = some v := by
   have : ∃ cs', W.cells? 0 (a.add 0) c.k = some cs' := by
    rcases Nat.eq_zero_or_pos len with rfl | hlen0
    ·obtain ⟨hr, h1⟩ := hsp rfl
     have h1 := h1 0 (by omega)
     rw [List.getElem?_eq_getElem (by omega), Option.bind_eq_some_iff, hk] at h1
     obtain ⟨cs', h2, _⟩ := h1
     rw [show (0 + 0) * c.k = 0 by simp] at h2
     exact ⟨cs', h2⟩
    ·obtain ⟨cs', _, h2, _⟩ := each 0 hlen0
     rw [Nat.zero_mul] at h2
     exact ⟨cs', h2⟩
   obtain ⟨cs', h1⟩ := this
   obtain ⟨_, h2, h3⟩ := World.cells?_some h1
   have := h3 0 (by omega)
   rw [add_adds, Nat.zero_add, List.getElem?_eq_getElem (by omega)] at this
   exact ⟨_, this⟩
  obtain ⟨v, hv⟩ := first
  have build : ∀ m, m ≤ len → ∃ (l : List α) (vs : List Value), l.length = m ∧ vs.length = m * c.k ∧ RepL W Mu.zero (c.E l) vs ∧ ∀ i (hi : i < vs.length), W.cell? (a.add i) = some vs[i] := by
   intro m
   induction m with
   | zero => exact fun _ => ⟨[], [], rfl, by simp, by rw [c.nil]; rfl, fun i hi => by simp at hi⟩
   | succ m ih =>
    intro hm
    obtain ⟨l, vs, h1, h2, h3, h4⟩ := ih (by omega)
    obtain ⟨cs', x, h5, h6⟩ := each m (by omega)
    obtain ⟨_, h7, h8⟩ := World.cells?_some h5
    refine ⟨l ++ [x], vs ++ cs', by simp [h1], by rw [List.length_append, h2, h7, Nat.succ_mul], by rw [c.append, c.one]; exact repL_app h3 h6, fun i hi => ?_⟩
    rcases Nat.lt_or_ge i vs.length with hi' | hi'
    ·rw [List.getElem_append_left hi']; exact h4 i hi'
    ·rw [List.getElem_append_right hi']
     rw [List.length_append] at hi
     have := h8 (i - vs.length) (by omega)
     rw [add_adds, h2, show m * c.k + (i - m * c.k) = i by omega] at this
     rw [this, List.getElem?_eq_getElem (by omega)]
     simp only [h2]
  obtain ⟨l, vs, h1, h2, h3, h4⟩ := build len (Nat.le_refl _)
  obtain ⟨b, off, rfl, hseg⟩ := cell_seg hv h4
  refine ⟨l, _, _, rfl, ?_, rfl⟩
  show _ ∧ _
  refine ⟨fun d hd => ?_, c.len l, by omega, .inr ⟨b, off, cap, vs, by rw [h1], by omega, nown b, hseg, h3⟩⟩
  rw [c.hE] at hd
  obtain ⟨x, _, hdx⟩ := List.mem_flatMap.1 hd
  exact hone x d hdx
theorem open4 {t : TypeId} {f0 f1 f2 f3 : Field} {fuel : Nat} {cs : List Value} {x : DataW H × List MemPlace} (ht : P.underlying t = some (.struct #[f0, f1, f2, f3])) (o0 : f0.offset = 0) (o1 : f1.offset = 1) (o2 : f2.offset = 2) (o3 : f3.offset = 3) (c : P.cellsOf t = 4)
  (c0 : P.cellsOf f0.type = 1) (c1 : P.cellsOf f1.type = 1) (c2 : P.cellsOf f2.type = 1) (c3 : P.cellsOf f3.type = 1) (h : DataW.trod enc P W 0 (fun _ => true) true fuel t cs = some x) :
  ∃ v0 v1 v2 v3 y0 y1 y2 y3 n, cs = [v0, v1, v2, v3] ∧ DataW.trod enc P W 0 (fun _ => true) true n f0.type [v0] = some y0 ∧ DataW.trod enc P W 0 (fun _ => true) true n f1.type [v1] = some y1 ∧ DataW.trod enc P W 0 (fun _ => true) true n f2.type [v2] = some y2 ∧ DataW.trod enc P W 0 (fun _ => true) true n f3.type [v3] = some y3 := by
 obtain ⟨xs, n, _, rfl, hl, hlen, hf⟩ := DataW.trod_struct ht h
 rw [c] at hl
 match cs, hl with
 | [v0, v1, v2, v3], _ =>
  match xs, hlen with
  | [y0, y1, y2, y3], _ =>
   refine ⟨v0, v1, v2, v3, y0, y1, y2, y3, n, rfl, ?_, ?_, ?_, ?_⟩
   ·have := hf 0 f0 rfl; rw [o0, c0] at this; exact this
   ·have := hf 1 f1 rfl; rw [o1, c1] at this; exact this
   ·have := hf 2 f2 rfl; rw [o2, c2] at this; exact this
   ·have := hf 3 f3 rfl; rw [o3, c3] at this; exact this
theorem open_encoder {t ti tg ts tr te : TypeId} {f0 f1 f2 f3 e0 e1 : Field} {v : Value} {d : DataW H} {ps : List MemPlace} (ht : P.underlying t = some (.struct #[f0, f1, f2, f3])) (o : f0.offset = 0 ∧ f1.offset = 1 ∧ f2.offset = 2 ∧ f3.offset = 3)
  (y : f0.type = ti ∧ f1.type = ti ∧ f2.type = ti ∧ f3.type = ts) (c : P.cellsOf t = 4) (ci : P.cellsOf ti = 1) (cg : P.cellsOf tg = 1) (cs : P.cellsOf ts = 1) (cr : P.cellsOf tr = 1) (ce : P.cellsOf te = 2)
  (ct : P.cellTypes P.depth t = some [ti, ti, ti, ts]) (hti : P.underlying ti = some (.int .i64)) (htg : P.underlying tg = some .string) (hts : P.underlying ts = some (.slice tr)) (htr : P.underlying tr = some (.slice te))
  (hte : P.underlying te = some (.struct #[e0, e1])) (oe : e0.offset = 0 ∧ e1.offset = 1) (ye : e0.type = ti ∧ e1.type = tg)
  (hval : Value.okWide P W .any base t v) (h : DataW.Trod enc P W 0 (fun _ => true) true t v d ps) : ∃ g : TLettersBlockInputsRows, Rep W Mu.zero (.agg (cLettersBlockInputsRows g)) v := by
 obtain ⟨y0, y1, y2, y3⟩ := y
 obtain ⟨z0, z1⟩ := ye
 simp only [Value.okWide, ht] at hval
 obtain ⟨arr, rfl, _, hrow⟩ := hval
 obtain ⟨fuel, hf⟩ := h
 obtain ⟨v0, v1, v2, v3, a0, a1, a2, a3, n, hcs, h0, h1, h2, h3⟩ := open4 ht o.1 o.2.1 o.2.2.1 o.2.2.2 c (by rw [y0]; exact ci) (by rw [y1]; exact ci) (by rw [y2]; exact ci) (by rw [y3]; exact cs) hf
 have harr : arr = #[v0, v1, v2, v3] := by
  have : arr.toList = [v0, v1, v2, v3] := hcs
  cases arr
  simp_all
 subst harr
 rw [y0] at h0
 rw [y1] at h1
 rw [y2] at h2
 rw [y3] at h3
 obtain ⟨n0, r0⟩ := rep_i64 (n := 0) hti h0
 obtain ⟨n1, r1⟩ := rep_i64 (n := 0) hti h1
 obtain ⟨n2, r2⟩ := rep_i64 (n := 0) hti h2
 have cell : ∀ (m : Nat) (cs' : List Value) (y : DataW H × List MemPlace), DataW.trod enc P W 0 (fun _ => true) true m te cs' = some y → ∃ x : TToWord, RepL W Mu.zero (eToWord.C x) cs' := by
  intro m cs' y hy
  obtain ⟨w0, w1, b0, b1, n', rfl, k0, k1⟩ := open2 hte oe.1 oe.2 ce (by rw [z0]; exact ci) (by rw [z1]; exact cg) hy
  rw [z0] at k0
  rw [z1] at k1
  obtain ⟨p0, q0⟩ := rep_i64 (n := 0) hti k0
  obtain ⟨s, e, _, hz⟩ := DataW.trod_string htg k1
  cases e
  exact ⟨(p0, s.data.toList), _, _, rfl, q0, _, _, rfl, rep_string s hz, rfl⟩
 have inner : ∀ (m : Nat) (cs' : List Value) (y : DataW H × List MemPlace), DataW.trod enc P W 0 (fun _ => true) true m tr cs' = some y → ∃ x : List TToWord, RepL W Mu.zero ((eSl eToWord).C x) cs' := by
  intro m cs' y hy
  refine open_rows0 eToWord htr ce (by decide) (fun x d hd => ?_) cell hy
  have hd : d ∈ [HV.int .i64 x.1, HV.str x.2] := hd
  simp only [List.mem_cons, List.not_mem_nil, or_false] at hd
  rcases hd with rfl | rfl <;> rfl
 obtain ⟨es, _, _, r3, r3', r3''⟩ := open_rows (base := base) (eSl eToWord) hts cr (fun x d hd => by
   have hd : d ∈ [slE eToWord x] := hd
   simp only [List.mem_cons, List.not_mem_nil, or_false] at hd
   subst hd
   rfl) inner (fun a len cap e => by
   cases e
   obtain ⟨tys, ht1, _, hcell⟩ := hrow
   rw [ct] at ht1
   cases ht1
   obtain ⟨u, hu, hok⟩ := hcell 3 (.slice (some a) len cap) rfl
   cases hu
   simp only [Cell.okWide, hts, Cell.ok] at hok
   exact hok.2.2) h3
 cases r3
 refine ⟨(n0, n1, n2, es), ?_⟩
 show _ ∧ _
 refine ⟨fun d hd => ?_, _, rfl, _, _, rfl, r0, _, _, rfl, r1, _, _, rfl, r2, _, _, rfl, r3', rfl⟩
 have hd : d ∈ [HV.int .i64 n0, HV.int .i64 n1, HV.int .i64 n2, slE (eSl eToWord) es] := hd
 simp only [List.mem_cons, List.not_mem_nil, or_false] at hd
 rcases hd with rfl | rfl | rfl | rfl <;> rfl
end
end Go.AW
namespace Go.AW
open Go Go.ChangeShapes Go.WideShapes Go.ChangeAt Go.RowKit
section
variable {H : Type} {enc : TypeId × Value → H} {P : Program} {W : World} {base : Nat}
end
end Go.AW
namespace Go.AW
open Go Go.ChangeShapes Go.WideShapes Go.ChangeAt Go.RowKit
section
variable {H : Type} {enc : TypeId × Value → H} {P : Program} {W : World} {base : Nat}
end
end Go.AW
namespace Go.Proofs.Ytbfbjlehdhedcaa
open Go Go.AW Go.ChangeShapes Go.WideShapes Go.ChangeAt Go.RowKit Go.ChangeMaps
set_option linter.unusedVariables false
theorem ownM : ownKnob Try.prog.godebug = none := by kernel_rfl
theorem laidB : laidOutB Try.prog = true := by kernel_rfl
theorem wLaw (a0 : TLettersBlockInputsRows) (a1 : Int) (a2 : Int) : Pure Try.prog 4 [HV.agg [HV.int .i64 a0.1, HV.int .i64 a0.2.1, HV.int .i64 a0.2.2.1, slE (eSl eToWord) a0.2.2.2], .int .i64 a1, .int .i64 a2] (· = .bool true) := w_law46_DistanceFree (law_free a0 a1 a2)
set_option maxRecDepth 100000 in
theorem liftedL (os : Os) (started : os.Started) (H : Type) (enc : TypeId × Value → H) :
  ReturnsInHanded {} Try.checked os 4 .any (Rows.distanceFreeSpec.pre6 enc Try.prog Try.f4 Rows.distanceFreeRow.domain false) (Rows.distanceFreeSpec.post enc Try.prog Try.f4 false true false false) := by
 refine returnsInHanded_of_change (C := Try.checked) ownM started (by kernel_rfl) Try.func4
  (ChangeSpec.witness6 (enc := enc) (C := Try.checked) false ⟨#[], #[.agg #[.int .i64 0, .int .i64 0, .int .i64 0, .slice none 0 0], .int .i64 0, .int .i64 0], []⟩ 8 (by kernel_rfl) (by kernel_rfl) (by kernel_rfl) (by kernel_rfl)) ?_
 intro W base args ds gs before hval0 hW hcnd _
 have hval : ∀ (j : Nat) t v, Try.f4.params[j]? = some t → args[j]? = some v → Value.okWide Try.prog W .any base t v := hval0
 have hW' := hW
 obtain ⟨p, q, hA0, hV, rfl, hfz, hnd⟩ := hW
 have hA : DataW.TrodAll enc Try.prog W 0 (fun _ => true) true Try.f4.params.toList args.toList ds p := hA0
 rw [Try.params4] at hA hval
 obtain ⟨v0, vs0, d0, ds0, p0, q0, hargs, rfl, rfl, h0, r0⟩ := trodAll_cons hA
 obtain ⟨v1, vs1, d1, ds1, p1, q1, rfl, rfl, rfl, h1, r1⟩ := trodAll_cons r0
 obtain ⟨v2, vs2, d2, ds2, p2, q2, rfl, rfl, rfl, h2, r2⟩ := trodAll_cons r1
 obtain ⟨rfl, rfl, rfl⟩ := trodAll_nil r2
 obtain rfl : args = #[v0, v1, v2] := by cases args; simp_all
 obtain ⟨rfl, rfl⟩ := trodVars_none hV
 obtain ⟨a0, hr0⟩ := open_encoder Try.underlying40 ⟨rfl, rfl, rfl, rfl⟩ ⟨rfl, rfl, rfl, rfl⟩ (by kernel_rfl) (by kernel_rfl) (by kernel_rfl) (by kernel_rfl) (by kernel_rfl) (by kernel_rfl) (by kernel_rfl) Try.underlying3 Try.underlying9 Try.underlying38 Try.underlying42 Try.underlying45 ⟨rfl, rfl⟩ ⟨rfl, rfl⟩ (hval 0 40 v0 rfl rfl) h0
 obtain ⟨a1, _, hr1⟩ := open_num Try.underlying3 (hval 1 3 v1 rfl rfl) h1
 obtain ⟨a2, _, hr2⟩ := open_num Try.underlying3 (hval 2 3 v2 rfl rfl) h2
 refine (calls_of_pure (vs := [v0, v1, v2]) (wLaw a0 a1 a2) ⟨_, _, rfl, hr0, _, _, rfl, hr1, _, _, rfl, hr2, rfl⟩).mono fun e W' ⟨he, hk⟩ => ?_
 subst he
 exact ⟨_, rfl, post_of_true laidB (by kernel_rfl) rfl Try.underlying4 rfl hW' hk rfl rfl rfl⟩
theorem distanceFreeProved : Rows.DistanceFreeSaid :=
 OpenClaim.holds_of_wide 4 Try.f4 rfl rfl rfl rfl rfl rfl rfl ⟨rfl, rfl, rfl, rfl, rfl⟩ rfl rfl rfl rfl rfl (by kernel_rfl) Try.func4 (by kernel_rfl)
  (of_decide_eq_true (by kernel_rfl)) (by unfold Func.isWrapper; first | (rw [if_pos (by decide +kernel)]; kernel_rfl) | (rw [if_neg (by decide +kernel)]; exact ⟨rfl, rfl⟩))
  (fun os started H enc _ => liftedL os started H enc)
#print axioms distanceFreeProved
end Go.Proofs.Ytbfbjlehdhedcaa
