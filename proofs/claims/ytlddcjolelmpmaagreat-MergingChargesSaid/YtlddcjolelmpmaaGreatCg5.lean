import Derived.Test.YtlddcjolelmpmaaGreatCg4
namespace Go.AW
open Go Go.Proofs
set_option linter.unusedVariables false
set_option maxHeartbeats 1600000 in
set_option maxRecDepth 100000 in
theorem w_slices_IndexFunc_Lstring_stringG {p0 : List (List UInt8)} {p1 : (List UInt8) → Option (Bool)} {g1 : FuncId} {z1 : List HV} {r : Int} (h : m_slices_IndexFunc_Lstring_stringG p0 p1 = some r) (hf1 : ∀ a0 b, p1 a0 = some b → Pure Tryz.prog g1 ([HV.str a0] ++ z1) (· = HV.bool b)) : Pure Tryz.prog 135 [slE eStr p0, HV.fn (.func g1) [] z1] (· = HV.int .i64 r) := by
 unfold m_slices_IndexFunc_Lstring_stringG at h
 refine Pure.of_body Tryz.func135 rfl rfl (Nat.le_of_ble_eq_true rfl) fun hf => ?_
 unfold Tryz.f135
 dsimp only [enumS, Nat.reduceAdd]
 refine AW.rgs rfl fun K hK => ?_
 refine mv rfl rfl ?_
 refine b_fin hK (s' := ⟨[(0, slE eStr p0), (1, HV.fn (.func g1) [] z1)], []⟩) (le_q rfl rfl) ?_
 clear hK K
 refine AW.seq ?_
 refine AW.rgs rfl fun K hK => ?_
 refine mv rfl rfl ?_
 refine bv rfl (v_lenF rfl rfl ty22 rfl) ?_
 refine mv rfl rfl ?_
 refine b_fin hK (s' := ⟨[(0, slE eStr p0), (1, HV.fn (.func g1) [] z1), (7, HV.int .i64 ((p0).length : Int)), (8, HV.int .i64 0)], []⟩) (le_q rfl rfl) ?_
 clear hK K
 refine AW.lpR h (by first | exact up_then | exact up_to) (S := Int) (V := Unit) (fun a v => ⟨[(0, slE eStr p0), (1, HV.fn (.func g1) [] z1), (7, HV.int .i64 ((p0).length : Int)), (8, HV.int .i64 a)], []⟩) ?_ (X := Unit) (W := Unit) (fun a v => ⟨[], []⟩) (fun a9 w10 h => ?_) (fun a1 w2 st3 h hr4=> ?_)
 ·exact to_le (s' := ⟨[(0, slE eStr p0), (1, HV.fn (.func g1) [] z1), (7, HV.int .i64 ((p0).length : Int)), (8, HV.int .i64 0)], []⟩) (AS.le_of ⟨rfl, rfl, rfl, rfl, trivial⟩ trivial) ⟨(), rfl⟩
 ·refine AW.rgs rfl fun K hK => ?_
  refine mv rfl rfl ?_
  refine b_fin hK (s' := ⟨[(4, HV.int .i64 (-1))], []⟩) (le_q rfl rfl) ?_
  clear hK K
  refine AW.ret ?_
  have h := Option.some.inj h
  subst h
  exact ret_pure (hs := [HV.int .i64 (-1)]) (q := HV.int .i64 (-1)) (.inr rfl) (resT rfl rfl) rfl trivial
 refine AW.rgs rfl fun K hK => ?_
 refine bv rfl (v_bin rfl rfl b_lss) ?_
 refine b_fin hK (s' := ⟨[(0, slE eStr p0), (1, HV.fn (.func g1) [] z1), (7, HV.int .i64 ((p0).length : Int)), (8, HV.int .i64 a1), (9, HV.bool (decide (a1 < ((p0).length : Int))))], []⟩) (le_q rfl rfl) ?_
 clear hK K
 refine AW.cseq rfl (fun hc => ?_) (fun hc => ?_)
 ·have hc := of_decide_eq_true hc
  have h := ifT hc h
  refine AW.skip ?_
  refine AW.seq (AW.block ?_)
  refine AW.rgs rfl fun K hK => ?_
  refine mv rfl rfl ?_
  refine mv rfl rfl ?_
  refine b_fin hK (s' := ⟨[(0, slE eStr p0), (1, HV.fn (.func g1) [] z1), (5, HV.int .i64 a1), (7, HV.int .i64 ((p0).length : Int)), (8, HV.int .i64 a1)], []⟩) (le_q rfl rfl) ?_
  clear hK K
  refine AW.rgs rfl fun K hK => ?_
  refine mv rfl rfl ?_
  refine mv rfl rfl ?_
  refine mv rfl rfl ?_
  obtain ⟨x5, h6, h⟩ := bS h
  refine bv rfl (v_idxF ty22 es22 rfl rfl (idx_lt h6)) ?_
  refine bv rfl (v_loadF ty9 rfl (l_cell eStr h6 (o := 0) rfl rfl)) ?_
  obtain ⟨x7, h8, h⟩ := bS h
  refine b_op rfl (o_call rfl rfl rfl rfl (ACallD.pure0 (hf1 _ _ h8)) ?_)
  refine b_fin hK (s' := ⟨[(0, slE eStr p0), (1, HV.fn (.func g1) [] z1), (5, HV.int .i64 a1), (7, HV.int .i64 ((p0).length : Int)), (8, HV.int .i64 a1), (16, HV.bool x7)], []⟩) (le_q rfl rfl) ?_
  clear hK K
  refine AW.cond rfl (fun hc => ?_) (fun hc => ?_)
  ·have h := ifT hc h
   refine AW.rgs rfl fun K hK => ?_
   refine mv rfl rfl ?_
   refine mv rfl rfl ?_
   refine b_fin hK (s' := ⟨[(4, HV.int .i64 a1)], []⟩) (le_q rfl rfl) ?_
   clear hK K
   have h := hr4 _ h
   refine AW.ret ?_
   have h := Option.some.inj h
   subst h
   exact ret_pure (hs := [HV.int .i64 a1]) (q := HV.int .i64 a1) (.inr rfl) (resT rfl rfl) rfl trivial
  have h := ifF (bF' hc) h
  refine AW.skip ?_
  refine AW.rg rfl fun K hK => ?_
  refine bv rfl (v_bin rfl rfl b_add) ?_
  refine mv rfl rfl ?_
  refine b_nil (hK _ ?_)
  clear hK K
  exact to_le (s' := ⟨[(0, slE eStr p0), (1, HV.fn (.func g1) [] z1), (7, HV.int .i64 ((p0).length : Int)), (8, HV.int .i64 (IntKind.wrap .i64 (a1 + 1)))], []⟩) (AS.le_of ⟨rfl, rfl, rfl, rfl, trivial⟩ trivial) ⟨IntKind.wrap .i64 (a1 + 1), (), h, rfl⟩
 have hc := of_decide_eq_false hc
 have h := ifF hc h
 refine AW.exit ?_
 exact to_le (s' := ⟨[], []⟩) (AS.le_of trivial trivial) ⟨(), (), h, rfl⟩

set_option maxHeartbeats 1600000 in
set_option maxRecDepth 100000 in
theorem w_slices_ContainsFunc_Lstring_stringG {p0 : List (List UInt8)} {p1 : (List UInt8) → Option (Bool)} {g1 : FuncId} {z1 : List HV} {r : Bool} (h : m_slices_ContainsFunc_Lstring_stringG p0 p1 = some r) (hf1 : ∀ a0 b, p1 a0 = some b → Pure Tryz.prog g1 ([HV.str a0] ++ z1) (· = HV.bool b)) : Pure Tryz.prog 84 [slE eStr p0, HV.fn (.func g1) [] z1] (· = HV.bool r) := by
 unfold m_slices_ContainsFunc_Lstring_stringG at h
 refine Pure.of_body Tryz.func84 rfl rfl (Nat.le_of_ble_eq_true rfl) fun hf => ?_
 unfold Tryz.f84
 dsimp only [enumS, Nat.reduceAdd]
 refine AW.rgs rfl fun K hK => ?_
 refine mv rfl rfl ?_
 refine b_fin hK (s' := ⟨[(0, slE eStr p0), (1, HV.fn (.func g1) [] z1)], []⟩) (le_q rfl rfl) ?_
 clear hK K
 refine AW.rgs rfl fun K hK => ?_
 refine mv rfl rfl ?_
 refine mv rfl rfl ?_
 obtain ⟨x1, h2, h⟩ := bS h
 refine b_op rfl (o_call rfl rfl rfl rfl (ACallD.pure0 (w_slices_IndexFunc_Lstring_stringG h2 hf1)) ?_)
 refine bv rfl (v_bin rfl rfl b_geq) ?_
 refine mv rfl rfl ?_
 refine b_fin hK (s' := ⟨[(4, HV.bool (decide (0 ≤ x1)))], []⟩) (le_q rfl rfl) ?_
 clear hK K
 refine AW.ret ?_
 have h := Option.some.inj h
 subst h
 exact ret_pure (hs := [HV.bool (decide (0 ≤ x1))]) (q := HV.bool (decide (0 ≤ x1))) (.inr rfl) (resT rfl rfl) rfl trivial

set_option maxHeartbeats 1600000 in
set_option maxRecDepth 100000 in
theorem w_merging_uneven_1 {p0 : List UInt8} {c0 : List (List UInt8)} {r : Bool} (h : m_merging_uneven_1 p0 c0 = some r) : Pure Tryz.prog 166 [HV.str p0, HV.fptr [slE eStr c0] 0] (· = HV.bool r) := by
 unfold m_merging_uneven_1 at h
 refine Pure.of_body Tryz.func166 rfl rfl (Nat.le_of_ble_eq_true rfl) fun hf => ?_
 unfold Tryz.f166
 dsimp only [enumS, Nat.reduceAdd]
 refine AW.rgs rfl fun K hK => ?_
 refine mv rfl rfl ?_
 refine b_fin hK (s' := ⟨[(0, HV.str p0), (1, HV.fptr [slE eStr c0] 0)], []⟩) (le_q rfl rfl) ?_
 clear hK K
 refine AW.rgs rfl fun K hK => ?_
 refine mv rfl rfl ?_
 refine bv rfl (v_lenS rfl rfl ty9 rfl) ?_
 refine bv rfl (v_loadF ty22 rfl (l_lit rfl rfl)) ?_
 obtain ⟨x1, h2, h⟩ := bS h
 refine bv rfl (v_idxF ty22 es22 rfl rfl (idx_lt h2)) ?_
 refine bv rfl (v_loadF ty9 rfl (l_cell eStr h2 (o := 0) rfl rfl)) ?_
 refine bv rfl (v_lenS rfl rfl ty9 rfl) ?_
 refine bv rfl (v_bin rfl rfl b_neq) ?_
 refine mv rfl rfl ?_
 refine b_fin hK (s' := ⟨[(3, HV.bool (decide (((p0).length : Int) ≠ ((x1).length : Int))))], []⟩) (le_q rfl rfl) ?_
 clear hK K
 refine AW.ret ?_
 have h := Option.some.inj h
 subst h
 exact ret_pure (hs := [HV.bool (decide (((p0).length : Int) ≠ ((x1).length : Int)))]) (q := HV.bool (decide (((p0).length : Int) ≠ ((x1).length : Int)))) (.inr rfl) (resT rfl rfl) rfl trivial

set_option maxHeartbeats 1600000 in
set_option maxRecDepth 100000 in
theorem w_merging_uneven {p0 : List (List UInt8)} {r : Bool} (h : m_merging_uneven p0 = some r) : Pure Tryz.prog 113 [slE eStr p0] (· = HV.bool r) := by
 unfold m_merging_uneven at h
 refine Pure.of_body Tryz.func113 rfl rfl (Nat.le_of_ble_eq_true rfl) fun hf => ?_
 unfold Tryz.f113
 dsimp only [enumS, Nat.reduceAdd]
 refine AW.rgs rfl fun K hK => ?_
 refine b_op rfl (o_box rfl rfl rfl ?_)
 refine mv rfl rfl ?_
 refine b_fin hK (s' := ⟨[(1, HV.fptr [slE eStr p0] 0)], []⟩) (le_q rfl rfl) ?_
 clear hK K
 refine AW.rgs rfl fun K hK => ?_
 refine bv rfl (v_loadF ty22 rfl (l_lit rfl rfl)) ?_
 refine bv rfl (v_func rfl rfl) ?_
 obtain ⟨x1, h2, h⟩ := bS h
 refine b_op rfl (o_call rfl rfl rfl rfl (ACallD.pure0 (w_slices_ContainsFunc_Lstring_stringG h2 (fun _ _ h => w_merging_uneven_1 h))) ?_)
 refine mv rfl rfl ?_
 refine b_fin hK (s' := ⟨[(2, HV.bool x1)], []⟩) (le_q rfl rfl) ?_
 clear hK K
 refine AW.ret ?_
 have h := Option.some.inj h
 subst h
 exact ret_pure (hs := [HV.bool x1]) (q := HV.bool x1) (.inr rfl) (resT rfl rfl) rfl trivial

set_option maxHeartbeats 1600000 in
set_option maxRecDepth 100000 in
theorem w_merging_letters_1 {p0 : List UInt8} {r : Bool} (h : m_merging_letters_1 p0 = some r) : Pure Tryz.prog 167 [HV.str p0] (· = HV.bool r) := by
 unfold m_merging_letters_1 at h
 refine Pure.of_body Tryz.func167 rfl rfl (Nat.le_of_ble_eq_true rfl) fun hf => ?_
 unfold Tryz.f167
 dsimp only [enumS, Nat.reduceAdd]
 refine AW.rgs rfl fun K hK => ?_
 refine mv rfl rfl ?_
 refine b_fin hK (s' := ⟨[(0, HV.str p0)], []⟩) (le_q rfl rfl) ?_
 clear hK K
 refine AW.rgs rfl fun K hK => ?_
 refine mv rfl rfl ?_
 obtain ⟨x1, h2, h⟩ := bS h
 refine b_op rfl (o_call rfl rfl rfl rfl (ACallD.pure0 (w_strings_Count h2)) ?_)
 refine mv rfl rfl ?_
 obtain ⟨x3, h4, h⟩ := bS h
 refine b_op rfl (o_call rfl rfl rfl rfl (ACallD.pure0 (w_strings_Count h4)) ?_)
 refine bv rfl (v_bin rfl rfl b_add) ?_
 refine mv rfl rfl ?_
 refine bv rfl (v_lenS rfl rfl ty9 rfl) ?_
 refine bv rfl (v_bin rfl rfl b_neq) ?_
 refine mv rfl rfl ?_
 refine b_fin hK (s' := ⟨[(2, HV.bool (decide ((IntKind.wrap .i64 (x1 + x3)) ≠ ((p0).length : Int))))], []⟩) (le_q rfl rfl) ?_
 clear hK K
 refine AW.ret ?_
 have h := Option.some.inj h
 subst h
 exact ret_pure (hs := [HV.bool (decide ((IntKind.wrap .i64 (x1 + x3)) ≠ ((p0).length : Int)))]) (q := HV.bool (decide ((IntKind.wrap .i64 (x1 + x3)) ≠ ((p0).length : Int)))) (.inr rfl) (resT rfl rfl) rfl trivial

set_option maxHeartbeats 1600000 in
set_option maxRecDepth 100000 in
theorem w_merging_letters {p0 : List (List UInt8)} {r : Bool} (h : m_merging_letters p0 = some r) : Pure Tryz.prog 114 [slE eStr p0] (· = HV.bool r) := by
 unfold m_merging_letters at h
 refine Pure.of_body Tryz.func114 rfl rfl (Nat.le_of_ble_eq_true rfl) fun hf => ?_
 unfold Tryz.f114
 dsimp only [enumS, Nat.reduceAdd]
 refine AW.rgs rfl fun K hK => ?_
 refine mv rfl rfl ?_
 refine b_fin hK (s' := ⟨[(0, slE eStr p0)], []⟩) (le_q rfl rfl) ?_
 clear hK K
 refine AW.rgs rfl fun K hK => ?_
 refine mv rfl rfl ?_
 obtain ⟨x1, h2, h⟩ := bS h
 refine b_op rfl (o_call rfl rfl rfl rfl (ACallD.pure0 (w_slices_ContainsFunc_Lstring_stringG h2 (fun _ _ h => w_merging_letters_1 h))) ?_)
 refine mv rfl rfl ?_
 refine b_fin hK (s' := ⟨[(2, HV.bool x1)], []⟩) (le_q rfl rfl) ?_
 clear hK K
 refine AW.ret ?_
 have h := Option.some.inj h
 subst h
 exact ret_pure (hs := [HV.bool x1]) (q := HV.bool x1) (.inr rfl) (resT rfl rfl) rfl trivial

set_option maxHeartbeats 1600000 in
set_option maxRecDepth 100000 in
theorem w_merging_repeats {p0 : List (List UInt8)} {r : Bool} (h : m_merging_repeats p0 = some r) : Pure Tryz.prog 115 [slE eStr p0] (· = HV.bool r) := by
 unfold m_merging_repeats at h
 refine Pure.of_body Tryz.func115 rfl rfl (Nat.le_of_ble_eq_true rfl) fun hf => ?_
 unfold Tryz.f115
 dsimp only [enumS, Nat.reduceAdd]
 refine AW.rgs rfl fun K hK => ?_
 refine mv rfl rfl ?_
 refine b_fin hK (s' := ⟨[(0, slE eStr p0)], []⟩) (le_q rfl rfl) ?_
 clear hK K
 refine AW.rgs rfl fun K hK => ?_
 refine b_op rfl (o_makeMap (fid := 115) HV.bool 115006 rfl rfl (fun v1 => ?_))
 refine mv rfl rfl ?_
 refine b_fin hK (s' := ⟨[(0, slE eStr p0), (3, HV.mp 115006 v1)], [(115006, v1, .map (entE HV.bool ([] : List (List UInt8 × Bool))))]⟩) (le_q rfl rfl) ?_
 clear hK K
 refine AW.seq ?_
 refine AW.rgs rfl fun K hK => ?_
 refine mv rfl rfl ?_
 refine bv rfl (v_lenF rfl rfl ty22 rfl) ?_
 refine mv rfl rfl ?_
 refine b_fin hK (s' := ⟨[(3, HV.mp 115006 v1), (7, slE eStr p0), (8, HV.int .i64 ((p0).length : Int)), (9, HV.int .i64 0)], [(115006, v1, .map (entE HV.bool ([] : List (List UInt8 × Bool))))]⟩) (le_q rfl rfl) ?_
 clear hK K
 refine AW.lpR h (by first | exact up_then | exact up_to) (S := Int × (List (List UInt8 × Bool))) (V := Unit) (fun a v => ⟨[(3, HV.mp 115006 v1), (7, slE eStr p0), (8, HV.int .i64 ((p0).length : Int)), (9, HV.int .i64 a.1)], [(115006, v1, .map (entE HV.bool a.2))]⟩) ?_ (X := Unit) (W := Unit) (fun a v => ⟨[], []⟩) (fun a8 w9 h => ?_) (fun a2 w3 st4 h hr5=> ?_)
 ·exact to_le (s' := ⟨[(3, HV.mp 115006 v1), (7, slE eStr p0), (8, HV.int .i64 ((p0).length : Int)), (9, HV.int .i64 0)], [(115006, v1, .map (entE HV.bool ([] : List (List UInt8 × Bool))))]⟩) (AS.le_of ⟨rfl, rfl, rfl, rfl, trivial⟩ ⟨rfl, trivial⟩) ⟨(), rfl⟩
 ·refine AW.rgs rfl fun K hK => ?_
  refine mv rfl rfl ?_
  refine b_fin hK (s' := ⟨[(2, HV.bool false)], []⟩) (le_q rfl rfl) ?_
  clear hK K
  refine AW.ret ?_
  have h := Option.some.inj h
  subst h
  exact ret_pure (hs := [HV.bool false]) (q := HV.bool false) (.inr rfl) (resT rfl rfl) rfl trivial
 refine AW.rgs rfl fun K hK => ?_
 refine bv rfl (v_bin rfl rfl b_lss) ?_
 refine b_fin hK (s' := ⟨[(3, HV.mp 115006 v1), (7, slE eStr p0), (8, HV.int .i64 ((p0).length : Int)), (9, HV.int .i64 a2.1), (10, HV.bool (decide (a2.1 < ((p0).length : Int))))], [(115006, v1, .map (entE HV.bool a2.2))]⟩) (le_q rfl rfl) ?_
 clear hK K
 refine AW.cseq rfl (fun hc => ?_) (fun hc => ?_)
 ·have hc := of_decide_eq_true hc
  have h := ifT hc h
  refine AW.skip ?_
  refine AW.seq (AW.block ?_)
  refine AW.rgs rfl fun K hK => ?_
  obtain ⟨x6, h7, h⟩ := bS h
  refine bv rfl (v_idxF ty22 es22 rfl rfl (idx_lt h7)) ?_
  refine bv rfl (v_loadF ty9 rfl (l_cell eStr h7 (o := 0) rfl rfl)) ?_
  refine mv rfl rfl ?_
  refine b_fin hK (s' := ⟨[(3, HV.mp 115006 v1), (5, HV.str x6), (7, slE eStr p0), (8, HV.int .i64 ((p0).length : Int)), (9, HV.int .i64 a2.1)], [(115006, v1, .map (entE HV.bool a2.2))]⟩) (le_q rfl rfl) ?_
  clear hK K
  refine AW.seq ?_
  refine AW.rgs rfl fun K hK => ?_
  refine mv rfl rfl ?_
  refine mv rfl rfl ?_
  refine b_op rfl (o_look (fid := 115) HV.bool (es := a2.2) (k := x6) (v := (mlook x6 a2.2).getD false) rfl ty174 ty9 ty4 rfl rfl rfl rfl (look_dflt rfl) ?_)
  refine b_fin hK (s' := ⟨[(3, HV.mp 115006 v1), (5, HV.str x6), (7, slE eStr p0), (8, HV.int .i64 ((p0).length : Int)), (9, HV.int .i64 a2.1), (15, HV.bool ((mlook x6 a2.2).getD false))], [(115006, v1, .map (entE HV.bool a2.2))]⟩) (le_q rfl rfl) ?_
  clear hK K
  refine AW.cond rfl (fun hc => ?_) (fun hc => ?_)
  ·have h := ifT hc h
   refine AW.rgs rfl fun K hK => ?_
   refine mv rfl rfl ?_
   refine b_fin hK (s' := ⟨[(2, HV.bool true)], []⟩) (le_q rfl rfl) ?_
   clear hK K
   have h := hr5 _ h
   refine AW.ret ?_
   have h := Option.some.inj h
   subst h
   exact ret_pure (hs := [HV.bool true]) (q := HV.bool true) (.inr rfl) (resT rfl rfl) rfl trivial
  have h := ifF (bF' hc) h
  refine AW.skip ?_
  refine AW.rg rfl fun K hK => ?_
  refine mv rfl rfl ?_
  refine mv rfl rfl ?_
  refine b_op rfl (o_mapSet HV.bool (es := a2.2) (k := x6) (v := true) (.inl rfl) ty174 ty9 rfl rfl rfl rfl trivial ?_)
  refine b_fin hK (s' := ⟨[(3, HV.mp 115006 v1), (7, slE eStr p0), (8, HV.int .i64 ((p0).length : Int)), (9, HV.int .i64 a2.1)], [(115006, v1, .map (entE HV.bool (mputN x6 true a2.2)))]⟩) (le_q rfl rfl) ?_
  clear hK K
  refine AW.rg rfl fun K hK => ?_
  refine bv rfl (v_bin rfl rfl b_add) ?_
  refine mv rfl rfl ?_
  refine b_nil (hK _ ?_)
  clear hK K
  exact to_le (s' := ⟨[(3, HV.mp 115006 v1), (7, slE eStr p0), (8, HV.int .i64 ((p0).length : Int)), (9, HV.int .i64 (IntKind.wrap .i64 (a2.1 + 1)))], [(115006, v1, .map (entE HV.bool (mputN x6 true a2.2)))]⟩) (AS.le_of ⟨rfl, rfl, rfl, rfl, trivial⟩ ⟨rfl, trivial⟩) ⟨(IntKind.wrap .i64 (a2.1 + 1), mputN x6 true a2.2), (), h, rfl⟩
 have hc := of_decide_eq_false hc
 have h := ifF hc h
 refine AW.exit ?_
 exact to_le (s' := ⟨[], []⟩) (AS.le_of trivial trivial) ⟨(), (), h, rfl⟩

set_option maxHeartbeats 1600000 in
set_option maxRecDepth 100000 in
theorem w_merging_form {p0 : TWordsMerges} {r : Int} (h : m_merging_form p0 = some r) : Pure Tryz.prog 64 [HV.agg [slE eStr p0.1, slE eStr p0.2]] (· = HV.int .i64 r) := by
 unfold m_merging_form at h
 refine Pure.of_body Tryz.func64 rfl rfl (Nat.le_of_ble_eq_true rfl) fun hf => ?_
 unfold Tryz.f64
 dsimp only [enumS, Nat.reduceAdd]
 refine AW.rgs rfl fun K hK => ?_
 refine b_op rfl (o_box rfl rfl rfl ?_)
 refine mv rfl rfl ?_
 refine b_fin hK (s' := ⟨[(1, HV.fptr [slE eStr p0.1, slE eStr p0.2] 0)], []⟩) (le_q rfl rfl) ?_
 clear hK K
 refine AW.seq (AW.block ?_)
 refine AW.seqJ h (S := Bool) (V := Unit) (fun a v => ⟨[(1, HV.fptr [slE eStr p0.1, slE eStr p0.2] 0), (3, HV.bool a)], []⟩) (fun a1 w2 h => ?_) (fun k3 h => ?_)
 ·refine AW.cond rfl (fun hc => ?_) (fun hc => ?_)
  ·have h := ifT hc h
   refine AW.rgs rfl fun K hK => ?_
   refine mv rfl rfl ?_
   refine b_fin hK (s' := ⟨[(2, HV.int .i64 5)], []⟩) (le_q rfl rfl) ?_
   clear hK K
   refine AW.ret ?_
   have h := Option.some.inj h
   subst h
   exact ret_pure (hs := [HV.int .i64 5]) (q := HV.int .i64 5) (.inr rfl) (resT rfl rfl) rfl trivial
  have h := ifF (bF' hc) h
  refine AW.seqJ h (S := Bool) (V := Unit) (fun a v => ⟨[(1, HV.fptr [slE eStr p0.1, slE eStr p0.2] 0), (14, HV.bool a)], []⟩) (fun a4 w5 h => ?_) (fun k6 h => ?_)
  ·refine AW.cond rfl (fun hc => ?_) (fun hc => ?_)
   ·have h := ifT hc h
    refine AW.rgs rfl fun K hK => ?_
    refine mv rfl rfl ?_
    refine b_fin hK (s' := ⟨[(2, HV.int .i64 4)], []⟩) (le_q rfl rfl) ?_
    clear hK K
    refine AW.ret ?_
    have h := Option.some.inj h
    subst h
    exact ret_pure (hs := [HV.int .i64 4]) (q := HV.int .i64 4) (.inr rfl) (resT rfl rfl) rfl trivial
   have h := ifF (bF' hc) h
   refine AW.seqJ h (S := Bool) (V := Unit) (fun a v => ⟨[(1, HV.fptr [slE eStr p0.1, slE eStr p0.2] 0), (25, HV.bool a)], []⟩) (fun a7 w8 h => ?_) (fun k9 h => ?_)
   ·refine AW.cond rfl (fun hc => ?_) (fun hc => ?_)
    ·have h := ifT hc h
     refine AW.rgs rfl fun K hK => ?_
     refine mv rfl rfl ?_
     refine b_fin hK (s' := ⟨[(2, HV.int .i64 11)], []⟩) (le_q rfl rfl) ?_
     clear hK K
     refine AW.ret ?_
     have h := Option.some.inj h
     subst h
     exact ret_pure (hs := [HV.int .i64 11]) (q := HV.int .i64 11) (.inr rfl) (resT rfl rfl) rfl trivial
    have h := ifF (bF' hc) h
    refine AW.seqJ h (S := Bool) (V := Unit) (fun a v => ⟨[(1, HV.fptr [slE eStr p0.1, slE eStr p0.2] 0), (34, HV.bool a)], []⟩) (fun a10 w11 h => ?_) (fun k12 h => ?_)
    ·refine AW.cond rfl (fun hc => ?_) (fun hc => ?_)
     ·have h := ifT hc h
      refine AW.rgs rfl fun K hK => ?_
      refine mv rfl rfl ?_
      refine b_fin hK (s' := ⟨[(2, HV.int .i64 2)], []⟩) (le_q rfl rfl) ?_
      clear hK K
      refine AW.ret ?_
      have h := Option.some.inj h
      subst h
      exact ret_pure (hs := [HV.int .i64 2]) (q := HV.int .i64 2) (.inr rfl) (resT rfl rfl) rfl trivial
     have h := ifF (bF' hc) h
     refine AW.seqJ h (S := Bool) (V := Unit) (fun a v => ⟨[(1, HV.fptr [slE eStr p0.1, slE eStr p0.2] 0), (57, HV.bool a)], []⟩) (fun a13 w14 h => ?_) (fun k15 h => ?_)
     ·refine AW.cond rfl (fun hc => ?_) (fun hc => ?_)
      ·have h := ifT hc h
       refine AW.rgs rfl fun K hK => ?_
       refine mv rfl rfl ?_
       refine b_fin hK (s' := ⟨[(2, HV.int .i64 13)], []⟩) (le_q rfl rfl) ?_
       clear hK K
       refine AW.ret ?_
       have h := Option.some.inj h
       subst h
       exact ret_pure (hs := [HV.int .i64 13]) (q := HV.int .i64 13) (.inr rfl) (resT rfl rfl) rfl trivial
      have h := ifF (bF' hc) h
      refine AW.seqJ h (S := Bool) (V := Unit) (fun a v => ⟨[(66, HV.bool a)], []⟩) (fun a16 w17 h => ?_) (fun k18 h => ?_)
      ·refine AW.cond rfl (fun hc => ?_) (fun hc => ?_)
       ·have h := ifT hc h
        refine AW.rgs rfl fun K hK => ?_
        refine mv rfl rfl ?_
        refine b_fin hK (s' := ⟨[(2, HV.int .i64 7)], []⟩) (le_q rfl rfl) ?_
        clear hK K
        refine AW.ret ?_
        have h := Option.some.inj h
        subst h
        exact ret_pure (hs := [HV.int .i64 7]) (q := HV.int .i64 7) (.inr rfl) (resT rfl rfl) rfl trivial
       have h := ifF (bF' hc) h
       refine AW.skip ?_
       refine AW.rgs rfl fun K hK => ?_
       refine mv rfl rfl ?_
       refine b_fin hK (s' := ⟨[(2, HV.int .i64 0)], []⟩) (le_q rfl rfl) ?_
       clear hK K
       refine AW.ret ?_
       have h := Option.some.inj h
       subst h
       exact ret_pure (hs := [HV.int .i64 0]) (q := HV.int .i64 0) (.inr rfl) (resT rfl rfl) rfl trivial
      refine AW.rg rfl fun K hK => ?_
      refine bv rfl (v_fieldAddrF fo24_0 rfl) ?_
      refine bv rfl (v_loadF ty22 rfl (l_lit rfl rfl)) ?_
      obtain ⟨x19, h20, h⟩ := bS h
      refine b_op rfl (o_call rfl rfl rfl rfl (ACallD.pure0 (w_merging_repeats h20)) ?_)
      refine mv rfl rfl ?_
      by_cases hg23 : x19 = true
      ·have h := ifT hg23 h
       refine b_F rfl rfl rfl rfl rfl hg23 ?_
       refine b_F rfl rfl rfl rfl rfl rfl ?_
       refine b_F rfl rfl rfl rfl rfl rfl ?_
       refine bv rfl (v_pickT rfl rfl rfl) ?_
       refine mv rfl rfl ?_
       refine b_nil (hK _ ?_)
       clear hK K
       exact to_le (s' := ⟨[(66, HV.bool true)], []⟩) (AS.le_of ⟨rfl, trivial⟩ trivial) ⟨true, (), h, rfl⟩
      have h := ifF hg23 h
      refine b_T rfl rfl rfl rfl (bF hg23) (o_val rfl (v_fieldAddrF fo24_1 rfl) ?_)
      refine b_T rfl rfl rfl rfl rfl (o_val rfl (v_loadF ty22 rfl (l_lit rfl rfl)) ?_)
      obtain ⟨x21, h22, h⟩ := bS h
      refine b_T rfl rfl rfl rfl rfl (o_call rfl rfl rfl rfl (ACallD.pure0 (w_merging_repeats h22)) ?_)
      refine bv rfl (v_pickF rfl rfl rfl) ?_
      refine mv rfl rfl ?_
      refine b_nil (hK _ ?_)
      clear hK K
      exact to_le (s' := ⟨[(66, HV.bool x21)], []⟩) (AS.le_of ⟨rfl, trivial⟩ trivial) ⟨x21, (), h, rfl⟩
     refine AW.rg rfl fun K hK => ?_
     refine bv rfl (v_fieldAddrF fo24_0 rfl) ?_
     refine bv rfl (v_loadF ty22 rfl (l_lit rfl rfl)) ?_
     obtain ⟨x24, h25, h⟩ := bS h
     refine b_op rfl (o_call rfl rfl rfl rfl (ACallD.pure0 (w_merging_letters h25)) ?_)
     refine mv rfl rfl ?_
     by_cases hg28 : x24 = true
     ·have h := ifT hg28 h
      refine b_F rfl rfl rfl rfl rfl hg28 ?_
      refine b_F rfl rfl rfl rfl rfl rfl ?_
      refine b_F rfl rfl rfl rfl rfl rfl ?_
      refine bv rfl (v_pickT rfl rfl rfl) ?_
      refine mv rfl rfl ?_
      refine b_nil (hK _ ?_)
      clear hK K
      exact to_le (s' := ⟨[(1, HV.fptr [slE eStr p0.1, slE eStr p0.2] 0), (57, HV.bool true)], []⟩) (AS.le_of ⟨rfl, rfl, trivial⟩ trivial) ⟨true, (), h, rfl⟩
     have h := ifF hg28 h
     refine b_T rfl rfl rfl rfl (bF hg28) (o_val rfl (v_fieldAddrF fo24_1 rfl) ?_)
     refine b_T rfl rfl rfl rfl rfl (o_val rfl (v_loadF ty22 rfl (l_lit rfl rfl)) ?_)
     obtain ⟨x26, h27, h⟩ := bS h
     refine b_T rfl rfl rfl rfl rfl (o_call rfl rfl rfl rfl (ACallD.pure0 (w_merging_letters h27)) ?_)
     refine bv rfl (v_pickF rfl rfl rfl) ?_
     refine mv rfl rfl ?_
     refine b_nil (hK _ ?_)
     clear hK K
     exact to_le (s' := ⟨[(1, HV.fptr [slE eStr p0.1, slE eStr p0.2] 0), (57, HV.bool x26)], []⟩) (AS.le_of ⟨rfl, rfl, trivial⟩ trivial) ⟨x26, (), h, rfl⟩
    refine AW.rg rfl fun K hK => ?_
    refine bv rfl (v_fieldAddrF fo24_0 rfl) ?_
    refine bv rfl (v_loadF ty22 rfl (l_lit rfl rfl)) ?_
    obtain ⟨x29, h30, h⟩ := bS h
    refine bv rfl (v_idxF ty22 es22 rfl rfl (idx_lt h30)) ?_
    refine bv rfl (v_loadF ty9 rfl (l_cell eStr h30 (o := 0) rfl rfl)) ?_
    refine bv rfl (v_lenS rfl rfl ty9 rfl) ?_
    refine bv rfl (v_bin rfl rfl b_lss) ?_
    refine mv rfl rfl ?_
    by_cases hg36 : ((x29).length : Int) < 1
    ·have h := ifT hg36 h
     refine b_F rfl rfl rfl rfl rfl (decide_eq_true hg36) ?_
     refine b_F rfl rfl rfl rfl rfl rfl ?_
     refine b_F rfl rfl rfl rfl rfl rfl ?_
     refine b_F rfl rfl rfl rfl rfl rfl ?_
     refine b_F rfl rfl rfl rfl rfl rfl ?_
     refine b_F rfl rfl rfl rfl rfl rfl ?_
     refine bv rfl (v_pickT rfl rfl rfl) ?_
     refine mv rfl rfl ?_
     refine b_F rfl rfl rfl rfl rfl rfl ?_
     refine b_F rfl rfl rfl rfl rfl rfl ?_
     refine b_F rfl rfl rfl rfl rfl rfl ?_
     refine b_F rfl rfl rfl rfl rfl rfl ?_
     refine b_F rfl rfl rfl rfl rfl rfl ?_
     refine b_F rfl rfl rfl rfl rfl rfl ?_
     refine bv rfl (v_pickT rfl rfl rfl) ?_
     refine mv rfl rfl ?_
     refine b_nil (hK _ ?_)
     clear hK K
     exact to_le (s' := ⟨[(1, HV.fptr [slE eStr p0.1, slE eStr p0.2] 0), (34, HV.bool true)], []⟩) (AS.le_of ⟨rfl, rfl, trivial⟩ trivial) ⟨true, (), h, rfl⟩
    have h := ifF hg36 h
    refine b_T rfl rfl rfl rfl (decide_eq_false hg36) (o_val rfl (v_fieldAddrF fo24_0 rfl) ?_)
    refine b_T rfl rfl rfl rfl rfl (o_val rfl (v_loadF ty22 rfl (l_lit rfl rfl)) ?_)
    obtain ⟨x31, h32, h⟩ := bS h
    refine b_T rfl rfl rfl rfl rfl (o_val rfl (v_idxF ty22 es22 rfl rfl (idx_lt h32)) ?_)
    refine b_T rfl rfl rfl rfl rfl (o_val rfl (v_loadF ty9 rfl (l_cell eStr h32 (o := 0) rfl rfl)) ?_)
    refine b_T rfl rfl rfl rfl rfl (o_val rfl (v_lenS rfl rfl ty9 rfl) ?_)
    refine b_T rfl rfl rfl rfl rfl (o_val rfl (v_bin rfl rfl b_gtr) ?_)
    refine bv rfl (v_pickF rfl rfl rfl) ?_
    refine mv rfl rfl ?_
    by_cases hg35 : 16 < ((x31).length : Int)
    ·have h := ifT hg35 h
     refine b_F rfl rfl rfl rfl rfl (decide_eq_true hg35) ?_
     refine b_F rfl rfl rfl rfl rfl rfl ?_
     refine b_F rfl rfl rfl rfl rfl rfl ?_
     refine b_F rfl rfl rfl rfl rfl rfl ?_
     refine b_F rfl rfl rfl rfl rfl rfl ?_
     refine b_F rfl rfl rfl rfl rfl rfl ?_
     refine bv rfl (v_pickT rfl rfl rfl) ?_
     refine mv rfl rfl ?_
     refine b_nil (hK _ ?_)
     clear hK K
     exact to_le (s' := ⟨[(1, HV.fptr [slE eStr p0.1, slE eStr p0.2] 0), (34, HV.bool true)], []⟩) (AS.le_of ⟨rfl, rfl, trivial⟩ trivial) ⟨true, (), h, rfl⟩
    have h := ifF hg35 h
    refine b_T rfl rfl rfl rfl (decide_eq_false hg35) (o_val rfl (v_fieldAddrF fo24_1 rfl) ?_)
    refine b_T rfl rfl rfl rfl rfl (o_val rfl (v_loadF ty22 rfl (l_lit rfl rfl)) ?_)
    obtain ⟨x33, h34, h⟩ := bS h
    refine b_T rfl rfl rfl rfl rfl (o_val rfl (v_idxF ty22 es22 rfl rfl (idx_lt h34)) ?_)
    refine b_T rfl rfl rfl rfl rfl (o_val rfl (v_loadF ty9 rfl (l_cell eStr h34 (o := 0) rfl rfl)) ?_)
    refine b_T rfl rfl rfl rfl rfl (o_val rfl (v_lenS rfl rfl ty9 rfl) ?_)
    refine b_T rfl rfl rfl rfl rfl (o_val rfl (v_bin rfl rfl b_gtr) ?_)
    refine bv rfl (v_pickF rfl rfl rfl) ?_
    refine mv rfl rfl ?_
    refine b_nil (hK _ ?_)
    clear hK K
    exact to_le (s' := ⟨[(1, HV.fptr [slE eStr p0.1, slE eStr p0.2] 0), (34, HV.bool (decide (16 < ((x33).length : Int))))], []⟩) (AS.le_of ⟨rfl, rfl, trivial⟩ trivial) ⟨decide (16 < ((x33).length : Int)), (), h, rfl⟩
   refine AW.rg rfl fun K hK => ?_
   refine bv rfl (v_fieldAddrF fo24_0 rfl) ?_
   refine bv rfl (v_loadF ty22 rfl (l_lit rfl rfl)) ?_
   obtain ⟨x37, h38, h⟩ := bS h
   refine b_op rfl (o_call rfl rfl rfl rfl (ACallD.pure0 (w_merging_uneven h38)) ?_)
   refine mv rfl rfl ?_
   by_cases hg41 : x37 = true
   ·have h := ifT hg41 h
    refine b_F rfl rfl rfl rfl rfl hg41 ?_
    refine b_F rfl rfl rfl rfl rfl rfl ?_
    refine b_F rfl rfl rfl rfl rfl rfl ?_
    refine bv rfl (v_pickT rfl rfl rfl) ?_
    refine mv rfl rfl ?_
    refine b_nil (hK _ ?_)
    clear hK K
    exact to_le (s' := ⟨[(1, HV.fptr [slE eStr p0.1, slE eStr p0.2] 0), (25, HV.bool true)], []⟩) (AS.le_of ⟨rfl, rfl, trivial⟩ trivial) ⟨true, (), h, rfl⟩
   have h := ifF hg41 h
   refine b_T rfl rfl rfl rfl (bF hg41) (o_val rfl (v_fieldAddrF fo24_1 rfl) ?_)
   refine b_T rfl rfl rfl rfl rfl (o_val rfl (v_loadF ty22 rfl (l_lit rfl rfl)) ?_)
   obtain ⟨x39, h40, h⟩ := bS h
   refine b_T rfl rfl rfl rfl rfl (o_call rfl rfl rfl rfl (ACallD.pure0 (w_merging_uneven h40)) ?_)
   refine bv rfl (v_pickF rfl rfl rfl) ?_
   refine mv rfl rfl ?_
   refine b_nil (hK _ ?_)
   clear hK K
   exact to_le (s' := ⟨[(1, HV.fptr [slE eStr p0.1, slE eStr p0.2] 0), (25, HV.bool x39)], []⟩) (AS.le_of ⟨rfl, rfl, trivial⟩ trivial) ⟨x39, (), h, rfl⟩
  refine AW.rg rfl fun K hK => ?_
  refine bv rfl (v_fieldAddrF fo24_0 rfl) ?_
  refine bv rfl (v_loadF ty22 rfl (l_lit rfl rfl)) ?_
  refine bv rfl (v_lenF rfl rfl ty22 rfl) ?_
  refine bv rfl (v_bin rfl rfl b_gtr) ?_
  refine mv rfl rfl ?_
  by_cases hg42 : 256 < ((p0.1).length : Int)
  ·have h := ifT hg42 h
   refine b_F rfl rfl rfl rfl rfl (decide_eq_true hg42) ?_
   refine b_F rfl rfl rfl rfl rfl rfl ?_
   refine b_F rfl rfl rfl rfl rfl rfl ?_
   refine b_F rfl rfl rfl rfl rfl rfl ?_
   refine bv rfl (v_pickT rfl rfl rfl) ?_
   refine mv rfl rfl ?_
   refine b_nil (hK _ ?_)
   clear hK K
   exact to_le (s' := ⟨[(1, HV.fptr [slE eStr p0.1, slE eStr p0.2] 0), (14, HV.bool true)], []⟩) (AS.le_of ⟨rfl, rfl, trivial⟩ trivial) ⟨true, (), h, rfl⟩
  have h := ifF hg42 h
  refine b_T rfl rfl rfl rfl (decide_eq_false hg42) (o_val rfl (v_fieldAddrF fo24_1 rfl) ?_)
  refine b_T rfl rfl rfl rfl rfl (o_val rfl (v_loadF ty22 rfl (l_lit rfl rfl)) ?_)
  refine b_T rfl rfl rfl rfl rfl (o_val rfl (v_lenF rfl rfl ty22 rfl) ?_)
  refine b_T rfl rfl rfl rfl rfl (o_val rfl (v_bin rfl rfl b_gtr) ?_)
  refine bv rfl (v_pickF rfl rfl rfl) ?_
  refine mv rfl rfl ?_
  refine b_nil (hK _ ?_)
  clear hK K
  exact to_le (s' := ⟨[(1, HV.fptr [slE eStr p0.1, slE eStr p0.2] 0), (14, HV.bool (decide (256 < ((p0.2).length : Int))))], []⟩) (AS.le_of ⟨rfl, rfl, trivial⟩ trivial) ⟨decide (256 < ((p0.2).length : Int)), (), h, rfl⟩
 refine AW.rg rfl fun K hK => ?_
 refine bv rfl (v_fieldAddrF fo24_0 rfl) ?_
 refine bv rfl (v_loadF ty22 rfl (l_lit rfl rfl)) ?_
 refine bv rfl (v_lenF rfl rfl ty22 rfl) ?_
 refine bv rfl (v_bin rfl rfl b_eql) ?_
 refine mv rfl rfl ?_
 by_cases hg43 : ((p0.1).length : Int) = 0
 ·have h := ifT hg43 h
  refine b_F rfl rfl rfl rfl rfl (decide_eq_true hg43) ?_
  refine b_F rfl rfl rfl rfl rfl rfl ?_
  refine b_F rfl rfl rfl rfl rfl rfl ?_
  refine b_F rfl rfl rfl rfl rfl rfl ?_
  refine bv rfl (v_pickT rfl rfl rfl) ?_
  refine mv rfl rfl ?_
  refine b_nil (hK _ ?_)
  clear hK K
  exact to_le (s' := ⟨[(1, HV.fptr [slE eStr p0.1, slE eStr p0.2] 0), (3, HV.bool true)], []⟩) (AS.le_of ⟨rfl, rfl, trivial⟩ trivial) ⟨true, (), h, rfl⟩
 have h := ifF hg43 h
 refine b_T rfl rfl rfl rfl (decide_eq_false hg43) (o_val rfl (v_fieldAddrF fo24_1 rfl) ?_)
 refine b_T rfl rfl rfl rfl rfl (o_val rfl (v_loadF ty22 rfl (l_lit rfl rfl)) ?_)
 refine b_T rfl rfl rfl rfl rfl (o_val rfl (v_lenF rfl rfl ty22 rfl) ?_)
 refine b_T rfl rfl rfl rfl rfl (o_val rfl (v_bin rfl rfl b_eql) ?_)
 refine bv rfl (v_pickF rfl rfl rfl) ?_
 refine mv rfl rfl ?_
 refine b_nil (hK _ ?_)
 clear hK K
 exact to_le (s' := ⟨[(1, HV.fptr [slE eStr p0.1, slE eStr p0.2] 0), (3, HV.bool (decide (((p0.2).length : Int) = 0)))], []⟩) (AS.le_of ⟨rfl, rfl, trivial⟩ trivial) ⟨decide (((p0.2).length : Int) = 0), (), h, rfl⟩

set_option maxHeartbeats 1600000 in
set_option maxRecDepth 100000 in
theorem w_graph_list {p0 : TFromLabelTo} {r : (List (Int))} (h : m_graph_list p0 = some r) : Pure Tryz.prog 134 [HV.agg [HV.int .i64 p0.1, HV.int .i64 p0.2.1, HV.int .i64 p0.2.2]] (· = slE eInt r) := by
 unfold m_graph_list at h
 refine Pure.of_body Tryz.func134 rfl rfl (Nat.le_of_ble_eq_true rfl) fun hf => ?_
 unfold Tryz.f134
 dsimp only [enumS, Nat.reduceAdd]
 refine AW.rgs rfl fun K hK => ?_
 refine b_op rfl (o_box rfl rfl rfl ?_)
 refine mv rfl rfl ?_
 refine b_fin hK (s' := ⟨[(1, HV.fptr [HV.int .i64 p0.1, HV.int .i64 p0.2.1, HV.int .i64 p0.2.2] 0)], []⟩) (le_q rfl rfl) ?_
 clear hK K
 refine AW.rgs rfl fun K hK => ?_
 refine bv rfl (v_fieldAddrF fo128_0 rfl) ?_
 refine bv rfl (v_loadF ty3 rfl (l_lit rfl rfl)) ?_
 refine bv rfl (v_fieldAddrF fo128_1 rfl) ?_
 refine bv rfl (v_loadF ty3 rfl (l_lit rfl rfl)) ?_
 refine bv rfl (v_fieldAddrF fo128_2 rfl) ?_
 refine bv rfl (v_loadF ty3 rfl (l_lit rfl rfl)) ?_
 refine b_op rfl (o_bsl rfl rfl (as_of (cs := [HV.int .i64 p0.1, HV.int .i64 p0.2.1, HV.int .i64 p0.2.2]) ty31 ty3 rfl rfl rfl rfl rfl) ?_)
 refine mv rfl rfl ?_
 refine b_fin hK (s' := ⟨[(2, slE eInt [p0.1, p0.2.1, p0.2.2])], []⟩) (le_q rfl rfl) ?_
 clear hK K
 refine AW.ret ?_
 have h := Option.some.inj h
 subst h
 exact ret_pure (hs := [slE eInt [p0.1, p0.2.1, p0.2.2]]) (q := slE eInt [p0.1, p0.2.1, p0.2.2]) (.inr rfl) (resT rfl rfl) rfl (clean_slE fun _ _ => ⟨trivial, trivial⟩)

set_option maxHeartbeats 1600000 in
set_option maxRecDepth 100000 in
theorem w_cmp_isNaN_int {p0 : Int} {r : Bool} (h : m_cmp_isNaN_int p0 = some r) : Pure Tryz.prog 125 [HV.int .i64 p0] (· = HV.bool r) := by
 unfold m_cmp_isNaN_int at h
 refine Pure.of_body Tryz.func125 rfl rfl (Nat.le_of_ble_eq_true rfl) fun hf => ?_
 unfold Tryz.f125
 dsimp only [enumS, Nat.reduceAdd]
 refine AW.rgs rfl fun K hK => ?_
 refine mv rfl rfl ?_
 refine b_fin hK (s' := ⟨[(0, HV.int .i64 p0)], []⟩) (le_q rfl rfl) ?_
 clear hK K
 refine AW.rgs rfl fun K hK => ?_
 refine mv rfl rfl ?_
 refine mv rfl rfl ?_
 refine bv rfl (v_bin rfl rfl b_neq) ?_
 refine mv rfl rfl ?_
 refine b_fin hK (s' := ⟨[(2, HV.bool (decide (p0 ≠ p0)))], []⟩) (le_q rfl rfl) ?_
 clear hK K
 refine AW.ret ?_
 have h := Option.some.inj h
 subst h
 exact ret_pure (hs := [HV.bool (decide (p0 ≠ p0))]) (q := HV.bool (decide (p0 ≠ p0))) (.inr rfl) (resT rfl rfl) rfl trivial

set_option maxHeartbeats 1600000 in
set_option maxRecDepth 100000 in
theorem w_cmp_Compare_int {p0 : Int} {p1 : Int} {r : Int} (h : m_cmp_Compare_int p0 p1 = some r) : Pure Tryz.prog 211 [HV.int .i64 p0, HV.int .i64 p1] (· = HV.int .i64 r) := by
 unfold m_cmp_Compare_int at h
 refine Pure.of_body Tryz.func211 rfl rfl (Nat.le_of_ble_eq_true rfl) fun hf => ?_
 unfold Tryz.f211
 dsimp only [enumS, Nat.reduceAdd]
 refine AW.rgs rfl fun K hK => ?_
 refine mv rfl rfl ?_
 refine b_fin hK (s' := ⟨[(0, HV.int .i64 p0), (1, HV.int .i64 p1)], []⟩) (le_q rfl rfl) ?_
 clear hK K
 refine AW.rgs rfl fun K hK => ?_
 refine mv rfl rfl ?_
 obtain ⟨x1, h2, h⟩ := bS h
 refine b_op rfl (o_call rfl rfl rfl rfl (ACallD.pure0 (w_cmp_isNaN_int h2)) ?_)
 refine mv rfl rfl ?_
 refine b_fin hK (s' := ⟨[(0, HV.int .i64 p0), (1, HV.int .i64 p1), (5, HV.bool x1)], []⟩) (le_q rfl rfl) ?_
 clear hK K
 refine AW.rgs rfl fun K hK => ?_
 refine mv rfl rfl ?_
 obtain ⟨x3, h4, h⟩ := bS h
 refine b_op rfl (o_call rfl rfl rfl rfl (ACallD.pure0 (w_cmp_isNaN_int h4)) ?_)
 refine mv rfl rfl ?_
 refine b_fin hK (s' := ⟨[(0, HV.int .i64 p0), (1, HV.int .i64 p1), (5, HV.bool x1), (6, HV.bool x3)], []⟩) (le_q rfl rfl) ?_
 clear hK K
 refine AW.seq ?_
 refine AW.rgs rfl fun K hK => ?_
 refine mv rfl rfl ?_
 refine b_fin hK (s' := ⟨[(0, HV.int .i64 p0), (1, HV.int .i64 p1), (6, HV.bool x3), (11, HV.bool x1)], []⟩) (le_q rfl rfl) ?_
 clear hK K
 refine AW.cond rfl (fun hc => ?_) (fun hc => ?_)
 ·have h := ifT hc h
  refine AW.seq ?_
  refine AW.rgs rfl fun K hK => ?_
  refine mv rfl rfl ?_
  refine b_fin hK (s' := ⟨[(12, HV.bool x3)], []⟩) (le_q rfl rfl) ?_
  clear hK K
  refine AW.cond rfl (fun hc => ?_) (fun hc => ?_)
  ·have h := ifT hc h
   refine AW.rgs rfl fun K hK => ?_
   refine mv rfl rfl ?_
   refine b_fin hK (s' := ⟨[(4, HV.int .i64 0)], []⟩) (le_q rfl rfl) ?_
   clear hK K
   refine AW.ret ?_
   have h := Option.some.inj h
   subst h
   exact ret_pure (hs := [HV.int .i64 0]) (q := HV.int .i64 0) (.inr rfl) (resT rfl rfl) rfl trivial
  have h := ifF (bF' hc) h
  refine AW.skip ?_
  refine AW.rgs rfl fun K hK => ?_
  refine mv rfl rfl ?_
  refine b_fin hK (s' := ⟨[(4, HV.int .i64 (-1))], []⟩) (le_q rfl rfl) ?_
  clear hK K
  refine AW.ret ?_
  have h := Option.some.inj h
  subst h
  exact ret_pure (hs := [HV.int .i64 (-1)]) (q := HV.int .i64 (-1)) (.inr rfl) (resT rfl rfl) rfl trivial
 have h := ifF (bF' hc) h
 refine AW.skip ?_
 refine AW.seq ?_
 refine AW.rgs rfl fun K hK => ?_
 refine mv rfl rfl ?_
 refine b_fin hK (s' := ⟨[(0, HV.int .i64 p0), (1, HV.int .i64 p1), (13, HV.bool x3)], []⟩) (le_q rfl rfl) ?_
 clear hK K
 refine AW.cond rfl (fun hc => ?_) (fun hc => ?_)
 ·have h := ifT hc h
  refine AW.rgs rfl fun K hK => ?_
  refine mv rfl rfl ?_
  refine b_fin hK (s' := ⟨[(4, HV.int .i64 1)], []⟩) (le_q rfl rfl) ?_
  clear hK K
  refine AW.ret ?_
  have h := Option.some.inj h
  subst h
  exact ret_pure (hs := [HV.int .i64 1]) (q := HV.int .i64 1) (.inr rfl) (resT rfl rfl) rfl trivial
 have h := ifF (bF' hc) h
 refine AW.skip ?_
 refine AW.seq ?_
 refine AW.rgs rfl fun K hK => ?_
 refine mv rfl rfl ?_
 refine mv rfl rfl ?_
 refine bv rfl (v_bin rfl rfl b_lss) ?_
 refine b_fin hK (s' := ⟨[(0, HV.int .i64 p0), (1, HV.int .i64 p1), (16, HV.bool (decide (p0 < p1)))], []⟩) (le_q rfl rfl) ?_
 clear hK K
 refine AW.cond rfl (fun hc => ?_) (fun hc => ?_)
 ·have hc := of_decide_eq_true hc
  have h := ifT hc h
  refine AW.rgs rfl fun K hK => ?_
  refine mv rfl rfl ?_
  refine b_fin hK (s' := ⟨[(4, HV.int .i64 (-1))], []⟩) (le_q rfl rfl) ?_
  clear hK K
  refine AW.ret ?_
  have h := Option.some.inj h
  subst h
  exact ret_pure (hs := [HV.int .i64 (-1)]) (q := HV.int .i64 (-1)) (.inr rfl) (resT rfl rfl) rfl trivial
 have hc := of_decide_eq_false hc
 have h := ifF hc h
 refine AW.skip ?_
 refine AW.seq ?_
 refine AW.rgs rfl fun K hK => ?_
 refine mv rfl rfl ?_
 refine mv rfl rfl ?_
 refine bv rfl (v_bin rfl rfl b_gtr) ?_
 refine b_fin hK (s' := ⟨[(19, HV.bool (decide (p1 < p0)))], []⟩) (le_q rfl rfl) ?_
 clear hK K
 refine AW.cond rfl (fun hc => ?_) (fun hc => ?_)
 ·have hc := of_decide_eq_true hc
  have h := ifT hc h
  refine AW.rgs rfl fun K hK => ?_
  refine mv rfl rfl ?_
  refine b_fin hK (s' := ⟨[(4, HV.int .i64 1)], []⟩) (le_q rfl rfl) ?_
  clear hK K
  refine AW.ret ?_
  have h := Option.some.inj h
  subst h
  exact ret_pure (hs := [HV.int .i64 1]) (q := HV.int .i64 1) (.inr rfl) (resT rfl rfl) rfl trivial
 have hc := of_decide_eq_false hc
 have h := ifF hc h
 refine AW.skip ?_
 refine AW.rgs rfl fun K hK => ?_
 refine mv rfl rfl ?_
 refine b_fin hK (s' := ⟨[(4, HV.int .i64 0)], []⟩) (le_q rfl rfl) ?_
 clear hK K
 refine AW.ret ?_
 have h := Option.some.inj h
 subst h
 exact ret_pure (hs := [HV.int .i64 0]) (q := HV.int .i64 0) (.inr rfl) (resT rfl rfl) rfl trivial

set_option maxHeartbeats 1600000 in
set_option maxRecDepth 100000 in
theorem w_slices_Compare_Lint_int {p0 : List (Int)} {p1 : List (Int)} {r : Int} (h : m_slices_Compare_Lint_int p0 p1 = some r) : Pure Tryz.prog 180 [slE eInt p0, slE eInt p1] (· = HV.int .i64 r) := by
 unfold m_slices_Compare_Lint_int at h
 refine Pure.of_body Tryz.func180 rfl rfl (Nat.le_of_ble_eq_true rfl) fun hf => ?_
 unfold Tryz.f180
 dsimp only [enumS, Nat.reduceAdd]
 refine AW.rgs rfl fun K hK => ?_
 refine mv rfl rfl ?_
 refine b_fin hK (s' := ⟨[(0, slE eInt p0), (1, slE eInt p1)], []⟩) (le_q rfl rfl) ?_
 clear hK K
 refine AW.seq ?_
 refine AW.rgs rfl fun K hK => ?_
 refine mv rfl rfl ?_
 refine bv rfl (v_lenF rfl rfl ty31 rfl) ?_
 refine mv rfl rfl ?_
 refine b_fin hK (s' := ⟨[(0, slE eInt p0), (1, slE eInt p1), (9, slE eInt p0), (10, HV.int .i64 ((p0).length : Int)), (11, HV.int .i64 0)], []⟩) (le_q rfl rfl) ?_
 clear hK K
 refine AW.lpR h (by first | exact up_then | exact up_to) (S := Int) (V := Unit) (fun a v => ⟨[(0, slE eInt p0), (1, slE eInt p1), (9, slE eInt p0), (10, HV.int .i64 ((p0).length : Int)), (11, HV.int .i64 a)], []⟩) ?_ (X := Unit) (W := Unit) (fun a v => ⟨[(0, slE eInt p0), (1, slE eInt p1)], []⟩) (fun a11 w12 h => ?_) (fun a1 w2 st3 h hr4=> ?_)
 ·exact to_le (s' := ⟨[(0, slE eInt p0), (1, slE eInt p1), (9, slE eInt p0), (10, HV.int .i64 ((p0).length : Int)), (11, HV.int .i64 0)], []⟩) (AS.le_of ⟨rfl, rfl, rfl, rfl, rfl, trivial⟩ trivial) ⟨(), rfl⟩
 ·refine AW.seq ?_
  refine AW.rgs rfl fun K hK => ?_
  refine mv rfl rfl ?_
  refine bv rfl (v_lenF rfl rfl ty31 rfl) ?_
  refine mv rfl rfl ?_
  refine bv rfl (v_lenF rfl rfl ty31 rfl) ?_
  refine bv rfl (v_bin rfl rfl b_lss) ?_
  refine b_fin hK (s' := ⟨[(35, HV.bool (decide (((p0).length : Int) < ((p1).length : Int))))], []⟩) (le_q rfl rfl) ?_
  clear hK K
  refine AW.cond rfl (fun hc => ?_) (fun hc => ?_)
  ·have hc := of_decide_eq_true hc
   have h := ifT hc h
   refine AW.rgs rfl fun K hK => ?_
   refine mv rfl rfl ?_
   refine b_fin hK (s' := ⟨[(4, HV.int .i64 (-1))], []⟩) (le_q rfl rfl) ?_
   clear hK K
   refine AW.ret ?_
   have h := Option.some.inj h
   subst h
   exact ret_pure (hs := [HV.int .i64 (-1)]) (q := HV.int .i64 (-1)) (.inr rfl) (resT rfl rfl) rfl trivial
  have hc := of_decide_eq_false hc
  have h := ifF hc h
  refine AW.skip ?_
  refine AW.rgs rfl fun K hK => ?_
  refine mv rfl rfl ?_
  refine b_fin hK (s' := ⟨[(4, HV.int .i64 0)], []⟩) (le_q rfl rfl) ?_
  clear hK K
  refine AW.ret ?_
  have h := Option.some.inj h
  subst h
  exact ret_pure (hs := [HV.int .i64 0]) (q := HV.int .i64 0) (.inr rfl) (resT rfl rfl) rfl trivial
 refine AW.rgs rfl fun K hK => ?_
 refine bv rfl (v_bin rfl rfl b_lss) ?_
 refine b_fin hK (s' := ⟨[(0, slE eInt p0), (1, slE eInt p1), (9, slE eInt p0), (10, HV.int .i64 ((p0).length : Int)), (11, HV.int .i64 a1), (12, HV.bool (decide (a1 < ((p0).length : Int))))], []⟩) (le_q rfl rfl) ?_
 clear hK K
 refine AW.cseq rfl (fun hc => ?_) (fun hc => ?_)
 ·have hc := of_decide_eq_true hc
  have h := ifT hc h
  refine AW.skip ?_
  refine AW.seq (AW.block ?_)
  refine AW.rgs rfl fun K hK => ?_
  refine mv rfl rfl ?_
  obtain ⟨x5, h6, h⟩ := bS h
  refine bv rfl (v_idxF ty31 es31 rfl rfl (idx_lt h6)) ?_
  refine bv rfl (v_loadF ty3 rfl (l_cell eInt h6 (o := 0) rfl rfl)) ?_
  refine mv rfl rfl ?_
  refine mv rfl rfl ?_
  refine b_fin hK (s' := ⟨[(0, slE eInt p0), (1, slE eInt p1), (5, HV.int .i64 a1), (6, HV.int .i64 x5), (9, slE eInt p0), (10, HV.int .i64 ((p0).length : Int)), (11, HV.int .i64 a1)], []⟩) (le_q rfl rfl) ?_
  clear hK K
  refine AW.seq ?_
  refine AW.rgs rfl fun K hK => ?_
  refine mv rfl rfl ?_
  refine mv rfl rfl ?_
  refine bv rfl (v_lenF rfl rfl ty31 rfl) ?_
  refine bv rfl (v_bin rfl rfl b_geq) ?_
  refine b_fin hK (s' := ⟨[(0, slE eInt p0), (1, slE eInt p1), (5, HV.int .i64 a1), (6, HV.int .i64 x5), (9, slE eInt p0), (10, HV.int .i64 ((p0).length : Int)), (11, HV.int .i64 a1), (19, HV.bool (decide (((p1).length : Int) ≤ a1)))], []⟩) (le_q rfl rfl) ?_
  clear hK K
  refine AW.cond rfl (fun hc => ?_) (fun hc => ?_)
  ·have hc := of_decide_eq_true hc
   have h := ifT hc h
   refine AW.rgs rfl fun K hK => ?_
   refine mv rfl rfl ?_
   refine b_fin hK (s' := ⟨[(4, HV.int .i64 1)], []⟩) (le_q rfl rfl) ?_
   clear hK K
   have h := hr4 _ h
   refine AW.ret ?_
   have h := Option.some.inj h
   subst h
   exact ret_pure (hs := [HV.int .i64 1]) (q := HV.int .i64 1) (.inr rfl) (resT rfl rfl) rfl trivial
  have hc := of_decide_eq_false hc
  have h := ifF hc h
  refine AW.skip ?_
  refine AW.rgs rfl fun K hK => ?_
  refine mv rfl rfl ?_
  refine mv rfl rfl ?_
  obtain ⟨x7, h8, h⟩ := bS h
  refine bv rfl (v_idxF ty31 es31 rfl rfl (idx_lt h8)) ?_
  refine bv rfl (v_loadF ty3 rfl (l_cell eInt h8 (o := 0) rfl rfl)) ?_
  refine mv rfl rfl ?_
  refine b_fin hK (s' := ⟨[(0, slE eInt p0), (1, slE eInt p1), (6, HV.int .i64 x5), (7, HV.int .i64 x7), (9, slE eInt p0), (10, HV.int .i64 ((p0).length : Int)), (11, HV.int .i64 a1)], []⟩) (le_q rfl rfl) ?_
  clear hK K
  refine AW.rgs rfl fun K hK => ?_
  refine mv rfl rfl ?_
  refine mv rfl rfl ?_
  obtain ⟨x9, h10, h⟩ := bS h
  refine b_op rfl (o_call rfl rfl rfl rfl (ACallD.pure0 (w_cmp_Compare_int h10)) ?_)
  refine mv rfl rfl ?_
  refine b_fin hK (s' := ⟨[(0, slE eInt p0), (1, slE eInt p1), (8, HV.int .i64 x9), (9, slE eInt p0), (10, HV.int .i64 ((p0).length : Int)), (11, HV.int .i64 a1)], []⟩) (le_q rfl rfl) ?_
  clear hK K
  refine AW.rgs rfl fun K hK => ?_
  refine mv rfl rfl ?_
  refine bv rfl (v_bin rfl rfl b_neq) ?_
  refine b_fin hK (s' := ⟨[(0, slE eInt p0), (1, slE eInt p1), (8, HV.int .i64 x9), (9, slE eInt p0), (10, HV.int .i64 ((p0).length : Int)), (11, HV.int .i64 a1), (28, HV.bool (decide (x9 ≠ 0)))], []⟩) (le_q rfl rfl) ?_
  clear hK K
  refine AW.cond rfl (fun hc => ?_) (fun hc => ?_)
  ·have hc := of_decide_eq_true hc
   have h := ifT hc h
   refine AW.rgs rfl fun K hK => ?_
   refine mv rfl rfl ?_
   refine mv rfl rfl ?_
   refine b_fin hK (s' := ⟨[(4, HV.int .i64 x9)], []⟩) (le_q rfl rfl) ?_
   clear hK K
   have h := hr4 _ h
   refine AW.ret ?_
   have h := Option.some.inj h
   subst h
   exact ret_pure (hs := [HV.int .i64 x9]) (q := HV.int .i64 x9) (.inr rfl) (resT rfl rfl) rfl trivial
  have hc := of_decide_eq_false hc
  have h := ifF hc h
  refine AW.skip ?_
  refine AW.rg rfl fun K hK => ?_
  refine bv rfl (v_bin rfl rfl b_add) ?_
  refine mv rfl rfl ?_
  refine b_nil (hK _ ?_)
  clear hK K
  exact to_le (s' := ⟨[(0, slE eInt p0), (1, slE eInt p1), (9, slE eInt p0), (10, HV.int .i64 ((p0).length : Int)), (11, HV.int .i64 (IntKind.wrap .i64 (a1 + 1)))], []⟩) (AS.le_of ⟨rfl, rfl, rfl, rfl, rfl, trivial⟩ trivial) ⟨IntKind.wrap .i64 (a1 + 1), (), h, rfl⟩
 have hc := of_decide_eq_false hc
 have h := ifF hc h
 refine AW.exit ?_
 exact to_le (s' := ⟨[(0, slE eInt p0), (1, slE eInt p1)], []⟩) (AS.le_of ⟨rfl, rfl, trivial⟩ trivial) ⟨(), (), h, rfl⟩

set_option maxHeartbeats 1600000 in
set_option maxRecDepth 100000 in
theorem w_graph_by_api_Edge_1 {p0 : TFromLabelTo} {p1 : TFromLabelTo} {r : Int} (h : m_graph_by_api_Edge_1 p0 p1 = some r) : Pure Tryz.prog 179 [HV.agg [HV.int .i64 p0.1, HV.int .i64 p0.2.1, HV.int .i64 p0.2.2], HV.agg [HV.int .i64 p1.1, HV.int .i64 p1.2.1, HV.int .i64 p1.2.2], HV.fptr [HV.fn (.func 134) [] []] 0] (· = HV.int .i64 r) := by
 unfold m_graph_by_api_Edge_1 at h
 refine Pure.of_body Tryz.func179 rfl rfl (Nat.le_of_ble_eq_true rfl) fun hf => ?_
 unfold Tryz.f179
 dsimp only [enumS, Nat.reduceAdd]
 refine AW.rgs rfl fun K hK => ?_
 refine b_op rfl (o_box rfl rfl rfl ?_)
 refine b_op rfl (o_box rfl rfl rfl ?_)
 refine mv rfl rfl ?_
 refine b_fin hK (s' := ⟨[(2, HV.fptr [HV.fn (.func 134) [] []] 0), (3, HV.fptr [HV.int .i64 p0.1, HV.int .i64 p0.2.1, HV.int .i64 p0.2.2] 0), (4, HV.fptr [HV.int .i64 p1.1, HV.int .i64 p1.2.1, HV.int .i64 p1.2.2] 0)], []⟩) (le_q rfl rfl) ?_
 clear hK K
 refine AW.dgs 8 follows rfl rfl fun K hK => ?_
 refine sv rfl (v_loadF ty149 rfl (l_lit rfl rfl)) ?_
 refine sv rfl (v_loadF ty128 rfl (l_litA rfl (Nat.le_of_ble_eq_true rfl) rfl)) ?_
 obtain ⟨x1, h2, h⟩ := bS h
 refine s_op rfl rfl (ops_call rfl rfl rfl rfl (ACallD.pure0 (w_graph_list h2)) ?_)
 refine sv rfl (v_loadF ty149 rfl (l_lit rfl rfl)) ?_
 refine sv rfl (v_loadF ty128 rfl (l_litA rfl (Nat.le_of_ble_eq_true rfl) rfl)) ?_
 obtain ⟨x3, h4, h⟩ := bS h
 refine s_op rfl rfl (ops_call rfl rfl rfl rfl (ACallD.pure0 (w_graph_list h4)) ?_)
 obtain ⟨x5, h6, h⟩ := bS h
 refine s_op rfl rfl (ops_call rfl rfl rfl rfl (ACallD.pure0 (w_slices_Compare_Lint_int h6)) ?_)
 refine sm rfl rfl ?_
 refine s_nil ?_
 refine b_fin hK (s' := ⟨[(5, HV.int .i64 x5)], []⟩) (le_q rfl rfl) ?_
 clear hK K
 refine AW.ret ?_
 have h := Option.some.inj h
 subst h
 exact ret_pure (hs := [HV.int .i64 x5]) (q := HV.int .i64 x5) (.inr rfl) (resT rfl rfl) rfl trivial

set_option maxHeartbeats 1600000 in
set_option maxRecDepth 100000 in
theorem w_graph_by_api_Edge  : Pure Tryz.prog 133 [HV.fn (.func 134) [] []] (· = HV.fn (.func 179) [] [HV.fptr [HV.fn (.func 134) [] []] 0]) := by
 refine Pure.of_body Tryz.func133 rfl rfl (Nat.le_of_ble_eq_true rfl) fun hf => ?_
 unfold Tryz.f133
 dsimp only [enumS, Nat.reduceAdd]
 refine AW.rgs rfl fun K hK => ?_
 refine b_op rfl (o_box rfl rfl rfl ?_)
 refine mv rfl rfl ?_
 refine b_fin hK (s' := ⟨[(1, HV.fptr [HV.fn (.func 134) [] []] 0)], []⟩) (le_q rfl rfl) ?_
 clear hK K
 refine AW.rgs rfl fun K hK => ?_
 refine bv rfl (v_func rfl rfl) ?_
 refine mv rfl rfl ?_
 refine b_fin hK (s' := ⟨[(2, HV.fn (.func 179) [] [HV.fptr [HV.fn (.func 134) [] []] 0])], []⟩) (le_q rfl rfl) ?_
 clear hK K
 refine AW.ret ?_
 exact ret_pure (hs := [HV.fn (.func 179) [] [HV.fptr [HV.fn (.func 134) [] []] 0]]) (q := HV.fn (.func 179) [] [HV.fptr [HV.fn (.func 134) [] []] 0]) (.inr rfl) (resT rfl rfl) rfl ⟨trivial, ⟨⟨⟨trivial, trivial⟩, trivial⟩, trivial⟩⟩

end Go.AW

namespace Go.AW
open Go Go.Proofs
set_option linter.unusedVariables false
set_option maxHeartbeats 1600000 in
set_option maxRecDepth 100000 in
theorem w_graph_Check {p0 : TLabelsStatesEdges} {r : Int} (h : m_graph_Check p0 = some r) : Pure Tryz.prog 83 [HV.agg [HV.int .i64 p0.1, HV.int .i64 p0.2.1, slE eFromLabelTo p0.2.2]] (· = HV.int .i64 r) := by
 unfold m_graph_Check at h
 refine Pure.of_body Tryz.func83 rfl rfl (Nat.le_of_ble_eq_true rfl) fun hf => ?_
 unfold Tryz.f83
 dsimp only [enumS, Nat.reduceAdd]
 refine AW.rgs rfl fun K hK => ?_
 refine b_op rfl (o_box rfl rfl rfl ?_)
 refine mv rfl rfl ?_
 refine b_fin hK (s' := ⟨[(1, HV.fptr [HV.int .i64 p0.1, HV.int .i64 p0.2.1, slE eFromLabelTo p0.2.2] 0)], []⟩) (le_q rfl rfl) ?_
 clear hK K
 refine AW.seq (AW.block ?_)
 refine AW.seqJ h (S := Bool) (V := Unit) (fun a v => ⟨[(1, HV.fptr [HV.int .i64 p0.1, HV.int .i64 p0.2.1, slE eFromLabelTo p0.2.2] 0), (6, HV.bool a)], []⟩) (fun a1 w2 h => ?_) (fun k3 h => ?_)
 ·refine AW.cond rfl (fun hc => ?_) (fun hc => ?_)
  ·have h := ifT hc h
   refine AW.rgs rfl fun K hK => ?_
   refine mv rfl rfl ?_
   refine b_fin hK (s' := ⟨[(2, HV.int .i64 12)], []⟩) (le_q rfl rfl) ?_
   clear hK K
   refine AW.ret ?_
   have h := Option.some.inj h
   subst h
   exact ret_pure (hs := [HV.int .i64 12]) (q := HV.int .i64 12) (.inr rfl) (resT rfl rfl) rfl trivial
  have h := ifF (bF' hc) h
  refine AW.rgs rfl fun K hK => ?_
  refine bv rfl (v_fieldAddrF fo27_1 rfl) ?_
  refine bv rfl (v_loadF ty3 rfl (l_lit rfl rfl)) ?_
  refine bv rfl (v_bin rfl rfl b_lss) ?_
  refine mv rfl rfl ?_
  refine b_fin hK (s' := ⟨[(1, HV.fptr [HV.int .i64 p0.1, HV.int .i64 p0.2.1, slE eFromLabelTo p0.2.2] 0), (15, HV.bool (decide (p0.2.1 < 0)))], []⟩) (le_q rfl rfl) ?_
  clear hK K
  refine AW.cond rfl (fun hc => ?_) (fun hc => ?_)
  ·have hc := of_decide_eq_true hc
   have h := ifT hc h
   refine AW.rgs rfl fun K hK => ?_
   refine mv rfl rfl ?_
   refine b_fin hK (s' := ⟨[(2, HV.int .i64 2)], []⟩) (le_q rfl rfl) ?_
   clear hK K
   refine AW.ret ?_
   have h := Option.some.inj h
   subst h
   exact ret_pure (hs := [HV.int .i64 2]) (q := HV.int .i64 2) (.inr rfl) (resT rfl rfl) rfl trivial
  have hc := of_decide_eq_false hc
  have h := ifF hc h
  refine AW.seqJ h (S := Bool) (V := Unit) (fun a v => ⟨[(1, HV.fptr [HV.int .i64 p0.1, HV.int .i64 p0.2.1, slE eFromLabelTo p0.2.2] 0), (19, HV.bool a)], []⟩) (fun a4 w5 h => ?_) (fun k6 h => ?_)
  ·refine AW.cond rfl (fun hc => ?_) (fun hc => ?_)
   ·have h := ifT hc h
    refine AW.rgs rfl fun K hK => ?_
    refine mv rfl rfl ?_
    refine b_fin hK (s' := ⟨[(2, HV.int .i64 4)], []⟩) (le_q rfl rfl) ?_
    clear hK K
    refine AW.ret ?_
    have h := Option.some.inj h
    subst h
    exact ret_pure (hs := [HV.int .i64 4]) (q := HV.int .i64 4) (.inr rfl) (resT rfl rfl) rfl trivial
   have h := ifF (bF' hc) h
   refine AW.skip ?_
   refine AW.rgs rfl fun K hK => ?_
   refine b_op rfl (o_call rfl rfl rfl rfl (ACallD.pure0 (w_graph_by_api_Edge )) ?_)
   refine mv rfl rfl ?_
   refine b_fin hK (s' := ⟨[(1, HV.fptr [HV.int .i64 p0.1, HV.int .i64 p0.2.1, slE eFromLabelTo p0.2.2] 0), (3, HV.fn (.func 179) [] [HV.fptr [HV.fn (.func 134) [] []] 0])], []⟩) (le_q rfl rfl) ?_
   clear hK K
   refine AW.seq ?_
   refine AW.rgs rfl fun K hK => ?_
   refine bv rfl (v_fieldAddrF fo27_2 rfl) ?_
   refine bv rfl (v_loadF ty25 rfl (l_lit rfl rfl)) ?_
   refine bv rfl (v_lenF rfl rfl ty25 rfl) ?_
   refine mv rfl rfl ?_
   refine b_fin hK (s' := ⟨[(1, HV.fptr [HV.int .i64 p0.1, HV.int .i64 p0.2.1, slE eFromLabelTo p0.2.2] 0), (3, HV.fn (.func 179) [] [HV.fptr [HV.fn (.func 134) [] []] 0]), (31, slE eFromLabelTo p0.2.2), (32, HV.int .i64 ((p0.2.2).length : Int)), (33, HV.int .i64 0)], []⟩) (le_q rfl rfl) ?_
   clear hK K
   refine AW.lpR h (by first | exact up_then | exact up_to) (S := Int) (V := Unit) (fun a v => ⟨[(1, HV.fptr [HV.int .i64 p0.1, HV.int .i64 p0.2.1, slE eFromLabelTo p0.2.2] 0), (3, HV.fn (.func 179) [] [HV.fptr [HV.fn (.func 134) [] []] 0]), (31, slE eFromLabelTo p0.2.2), (32, HV.int .i64 ((p0.2.2).length : Int)), (33, HV.int .i64 a)], []⟩) ?_ (X := Unit) (W := Unit) (fun a v => ⟨[], []⟩) (fun a27 w28 h => ?_) (fun a7 w8 st9 h hr10=> ?_)
   ·exact to_le (s' := ⟨[(1, HV.fptr [HV.int .i64 p0.1, HV.int .i64 p0.2.1, slE eFromLabelTo p0.2.2] 0), (3, HV.fn (.func 179) [] [HV.fptr [HV.fn (.func 134) [] []] 0]), (31, slE eFromLabelTo p0.2.2), (32, HV.int .i64 ((p0.2.2).length : Int)), (33, HV.int .i64 0)], []⟩) (AS.le_of ⟨rfl, rfl, rfl, rfl, rfl, trivial⟩ trivial) ⟨(), rfl⟩
   ·refine AW.rgs rfl fun K hK => ?_
    refine mv rfl rfl ?_
    refine b_fin hK (s' := ⟨[(2, HV.int .i64 0)], []⟩) (le_q rfl rfl) ?_
    clear hK K
    refine AW.ret ?_
    have h := Option.some.inj h
    subst h
    exact ret_pure (hs := [HV.int .i64 0]) (q := HV.int .i64 0) (.inr rfl) (resT rfl rfl) rfl trivial
   refine AW.rgs rfl fun K hK => ?_
   refine bv rfl (v_bin rfl rfl b_lss) ?_
   refine b_fin hK (s' := ⟨[(1, HV.fptr [HV.int .i64 p0.1, HV.int .i64 p0.2.1, slE eFromLabelTo p0.2.2] 0), (3, HV.fn (.func 179) [] [HV.fptr [HV.fn (.func 134) [] []] 0]), (31, slE eFromLabelTo p0.2.2), (32, HV.int .i64 ((p0.2.2).length : Int)), (33, HV.int .i64 a7), (34, HV.bool (decide (a7 < ((p0.2.2).length : Int))))], []⟩) (le_q rfl rfl) ?_
   clear hK K
   refine AW.cseq rfl (fun hc => ?_) (fun hc => ?_)
   ·have hc := of_decide_eq_true hc
    have h := ifT hc h
    refine AW.skip ?_
    refine AW.seq (AW.block ?_)
    refine AW.rgs rfl fun K hK => ?_
    refine mv rfl rfl ?_
    obtain ⟨x11, h12, h⟩ := bS h
    refine bv rfl (v_idxF ty25 es25 rfl rfl (idx_lt h12)) ?_
    refine bv rfl (v_loadF ty128 rfl (l_agg eFromLabelTo h12 rfl rfl)) ?_
    refine b_op rfl (o_alloc (fid := 83) (zs := [HV.int .i64 0, HV.int .i64 0, HV.int .i64 0]) 83005 rfl rfl ty128 rfl (fun v13 => ?_))
    refine mv rfl rfl ?_
    refine b_op rfl (o_store (cs := [HV.int .i64 x11.1, HV.int .i64 x11.2.1, HV.int .i64 x11.2.2]) (zs := [HV.int .i64 x11.1, HV.int .i64 x11.2.1, HV.int .i64 x11.2.2]) rfl rfl rfl ty128 rfl rfl rfl rfl rfl ?_)
    refine b_fin hK (s' := ⟨[(1, HV.fptr [HV.int .i64 p0.1, HV.int .i64 p0.2.1, slE eFromLabelTo p0.2.2] 0), (3, HV.fn (.func 179) [] [HV.fptr [HV.fn (.func 134) [] []] 0]), (4, HV.int .i64 a7), (5, HV.ptr 83005 v13 0), (31, slE eFromLabelTo p0.2.2), (32, HV.int .i64 ((p0.2.2).length : Int)), (33, HV.int .i64 a7)], [(83005, v13, .arr 3 128 [HV.int .i64 x11.1, HV.int .i64 x11.2.1, HV.int .i64 x11.2.2])]⟩) (le_q rfl rfl) ?_
    clear hK K
    refine AW.seq ?_
    refine AW.seqJ h (S := Bool) (V := Unit) (fun a v => ⟨[(1, HV.fptr [HV.int .i64 p0.1, HV.int .i64 p0.2.1, slE eFromLabelTo p0.2.2] 0), (3, HV.fn (.func 179) [] [HV.fptr [HV.fn (.func 134) [] []] 0]), (4, HV.int .i64 a7), (5, HV.ptr 83005 v13 0), (31, slE eFromLabelTo p0.2.2), (32, HV.int .i64 ((p0.2.2).length : Int)), (33, HV.int .i64 a7), (62, HV.bool a)], [(83005, v13, .arr 3 128 [HV.int .i64 x11.1, HV.int .i64 x11.2.1, HV.int .i64 x11.2.2])]⟩) (fun a14 w15 h => ?_) (fun k16 h => ?_)
    ·refine AW.cond rfl (fun hc => ?_) (fun hc => ?_)
     ·have h := ifT hc h
      refine AW.rgs rfl fun K hK => ?_
      refine mv rfl rfl ?_
      refine b_fin hK (s' := ⟨[(2, HV.int .i64 2)], []⟩) (le_q rfl rfl) ?_
      clear hK K
      have h := hr10 _ h
      refine AW.ret ?_
      have h := Option.some.inj h
      subst h
      exact ret_pure (hs := [HV.int .i64 2]) (q := HV.int .i64 2) (.inr rfl) (resT rfl rfl) rfl trivial
     have h := ifF (bF' hc) h
     refine AW.skip ?_
     refine AW.seqJ h (S := Bool) (V := Unit) (fun a v => ⟨[(1, HV.fptr [HV.int .i64 p0.1, HV.int .i64 p0.2.1, slE eFromLabelTo p0.2.2] 0), (3, HV.fn (.func 179) [] [HV.fptr [HV.fn (.func 134) [] []] 0]), (31, slE eFromLabelTo p0.2.2), (32, HV.int .i64 ((p0.2.2).length : Int)), (33, HV.int .i64 a7), (76, HV.bool a)], []⟩) (fun a17 w18 h => ?_) (fun k19 h => ?_)
     ·refine AW.cond rfl (fun hc => ?_) (fun hc => ?_)
      ·have h := ifT hc h
       refine AW.rgs rfl fun K hK => ?_
       refine mv rfl rfl ?_
       refine b_fin hK (s' := ⟨[(2, HV.int .i64 10)], []⟩) (le_q rfl rfl) ?_
       clear hK K
       have h := hr10 _ h
       refine AW.ret ?_
       have h := Option.some.inj h
       subst h
       exact ret_pure (hs := [HV.int .i64 10]) (q := HV.int .i64 10) (.inr rfl) (resT rfl rfl) rfl trivial
      have h := ifF (bF' hc) h
      refine AW.skip ?_
      refine AW.rg rfl fun K hK => ?_
      refine bv rfl (v_bin rfl rfl b_add) ?_
      refine mv rfl rfl ?_
      refine b_nil (hK _ ?_)
      clear hK K
      exact to_le (s' := ⟨[(1, HV.fptr [HV.int .i64 p0.1, HV.int .i64 p0.2.1, slE eFromLabelTo p0.2.2] 0), (3, HV.fn (.func 179) [] [HV.fptr [HV.fn (.func 134) [] []] 0]), (31, slE eFromLabelTo p0.2.2), (32, HV.int .i64 ((p0.2.2).length : Int)), (33, HV.int .i64 (IntKind.wrap .i64 (a7 + 1)))], []⟩) (AS.le_of ⟨rfl, rfl, rfl, rfl, rfl, trivial⟩ trivial) ⟨IntKind.wrap .i64 (a7 + 1), (), h, rfl⟩
     refine AW.dg 14 follows rfl rfl fun K hK => ?_
     refine sm rfl rfl ?_
     refine sv rfl (v_bin rfl rfl b_gtr) ?_
     refine sm rfl rfl ?_
     by_cases hg24 : 0 < a7
     ·have h := ifT hg24 h
      refine s_T rfl rfl rfl rfl rfl (decide_eq_true hg24) (ops_val rfl (mv_val rfl rfl).2 ?_)
      refine s_T rfl rfl rfl rfl rfl rfl (ops_val rfl (v_fieldAddrF fo27_2 rfl) ?_)
      refine s_T rfl rfl rfl rfl rfl rfl (ops_val rfl (v_loadF ty25 rfl (l_lit rfl rfl)) ?_)
      refine s_T rfl rfl rfl rfl rfl rfl (ops_val rfl (mv_val rfl rfl).2 ?_)
      refine s_T rfl rfl rfl rfl rfl rfl (ops_val rfl (v_bin rfl rfl b_sub) ?_)
      obtain ⟨x20, h21, h⟩ := bS h
      refine s_T rfl rfl rfl rfl rfl rfl (ops_val rfl (v_idxF ty25 es25 rfl rfl (idx_lt h21)) ?_)
      refine s_T rfl rfl rfl rfl rfl rfl (ops_val rfl (v_loadF ty128 rfl (l_agg eFromLabelTo h21 rfl rfl)) ?_)
      refine s_T rfl rfl rfl rfl rfl rfl (ops_val rfl (v_loadP ty128 rfl rfl (l_litA rfl (Nat.le_of_ble_eq_true rfl) rfl)) ?_)
      obtain ⟨x22, h23, h⟩ := bS h
      refine s_T rfl rfl rfl rfl rfl rfl (ops_call rfl rfl rfl rfl (ACallD.pure0 (w_graph_by_api_Edge_1 h23)) ?_)
      refine s_T rfl rfl rfl rfl rfl rfl (ops_val rfl (v_bin rfl rfl b_geq) ?_)
      refine sv rfl (v_pickT rfl rfl rfl) ?_
      refine s_nil ?_
      refine b_nil (hK _ ?_)
      clear hK K
      exact to_le (s' := ⟨[(1, HV.fptr [HV.int .i64 p0.1, HV.int .i64 p0.2.1, slE eFromLabelTo p0.2.2] 0), (3, HV.fn (.func 179) [] [HV.fptr [HV.fn (.func 134) [] []] 0]), (31, slE eFromLabelTo p0.2.2), (32, HV.int .i64 ((p0.2.2).length : Int)), (33, HV.int .i64 a7), (76, HV.bool (decide (0 ≤ x22)))], []⟩) (AS.le_of ⟨rfl, rfl, rfl, rfl, rfl, rfl, trivial⟩ trivial) ⟨decide (0 ≤ x22), (), h, rfl⟩
     have h := ifF hg24 h
     refine s_F rfl rfl rfl rfl rfl (decide_eq_false hg24) ?_
     refine s_F rfl rfl rfl rfl rfl rfl ?_
     refine s_F rfl rfl rfl rfl rfl rfl ?_
     refine s_F rfl rfl rfl rfl rfl rfl ?_
     refine s_F rfl rfl rfl rfl rfl rfl ?_
     refine s_F rfl rfl rfl rfl rfl rfl ?_
     refine s_F rfl rfl rfl rfl rfl rfl ?_
     refine s_F rfl rfl rfl rfl rfl rfl ?_
     refine s_F rfl rfl rfl rfl rfl rfl ?_
     refine s_F rfl rfl rfl rfl rfl rfl ?_
     refine sv rfl (v_pickF rfl rfl rfl) ?_
     refine s_nil ?_
     refine b_nil (hK _ ?_)
     clear hK K
     exact to_le (s' := ⟨[(1, HV.fptr [HV.int .i64 p0.1, HV.int .i64 p0.2.1, slE eFromLabelTo p0.2.2] 0), (3, HV.fn (.func 179) [] [HV.fptr [HV.fn (.func 134) [] []] 0]), (31, slE eFromLabelTo p0.2.2), (32, HV.int .i64 ((p0.2.2).length : Int)), (33, HV.int .i64 a7), (76, HV.bool false)], []⟩) (AS.le_of ⟨rfl, rfl, rfl, rfl, rfl, rfl, trivial⟩ trivial) ⟨false, (), h, rfl⟩
    refine AW.rg rfl fun K hK => ?_
    refine bv rfl (v_fieldAddrP fo128_0 rfl rfl) ?_
    refine bv rfl (v_loadP ty3 rfl rfl (l_lit rfl rfl)) ?_
    refine bv rfl (v_fieldAddrP fo128_1 rfl rfl) ?_
    refine bv rfl (v_loadP ty3 rfl rfl (l_lit rfl rfl)) ?_
    refine bv rfl (v_fieldAddrP fo128_2 rfl rfl) ?_
    refine bv rfl (v_loadP ty3 rfl rfl (l_lit rfl rfl)) ?_
    refine bv rfl (v_min3 rfl rfl rfl rfl) ?_
    refine bv rfl (v_bin rfl rfl b_lss) ?_
    refine mv rfl rfl ?_
    by_cases hg26 : (min (min x11.1 x11.2.1) x11.2.2) < 0
    ·have h := ifT hg26 h
     refine b_F rfl rfl rfl rfl rfl (decide_eq_true hg26) ?_
     refine b_F rfl rfl rfl rfl rfl rfl ?_
     refine b_F rfl rfl rfl rfl rfl rfl ?_
     refine b_F rfl rfl rfl rfl rfl rfl ?_
     refine b_F rfl rfl rfl rfl rfl rfl ?_
     refine b_F rfl rfl rfl rfl rfl rfl ?_
     refine b_F rfl rfl rfl rfl rfl rfl ?_
     refine b_F rfl rfl rfl rfl rfl rfl ?_
     refine bv rfl (v_pickT rfl rfl rfl) ?_
     refine mv rfl rfl ?_
     refine b_F rfl rfl rfl rfl rfl rfl ?_
     refine b_F rfl rfl rfl rfl rfl rfl ?_
     refine b_F rfl rfl rfl rfl rfl rfl ?_
     refine b_F rfl rfl rfl rfl rfl rfl ?_
     refine b_F rfl rfl rfl rfl rfl rfl ?_
     refine bv rfl (v_pickT rfl rfl rfl) ?_
     refine b_nil (hK _ ?_)
     clear hK K
     exact to_le (s' := ⟨[(1, HV.fptr [HV.int .i64 p0.1, HV.int .i64 p0.2.1, slE eFromLabelTo p0.2.2] 0), (3, HV.fn (.func 179) [] [HV.fptr [HV.fn (.func 134) [] []] 0]), (4, HV.int .i64 a7), (5, HV.ptr 83005 v13 0), (31, slE eFromLabelTo p0.2.2), (32, HV.int .i64 ((p0.2.2).length : Int)), (33, HV.int .i64 a7), (62, HV.bool true)], [(83005, v13, .arr 3 128 [HV.int .i64 x11.1, HV.int .i64 x11.2.1, HV.int .i64 x11.2.2])]⟩) (AS.le_of ⟨rfl, rfl, rfl, rfl, rfl, rfl, rfl, rfl, trivial⟩ ⟨rfl, trivial⟩) ⟨true, (), h, rfl⟩
    have h := ifF hg26 h
    refine b_T rfl rfl rfl rfl (decide_eq_false hg26) (o_val rfl (v_fieldAddrP fo128_0 rfl rfl) ?_)
    refine b_T rfl rfl rfl rfl rfl (o_val rfl (v_loadP ty3 rfl rfl (l_lit rfl rfl)) ?_)
    refine b_T rfl rfl rfl rfl rfl (o_val rfl (v_fieldAddrP fo128_2 rfl rfl) ?_)
    refine b_T rfl rfl rfl rfl rfl (o_val rfl (v_loadP ty3 rfl rfl (l_lit rfl rfl)) ?_)
    refine b_T rfl rfl rfl rfl rfl (o_val rfl (v_max rfl rfl rfl) ?_)
    refine b_T rfl rfl rfl rfl rfl (o_val rfl (v_fieldAddrF fo27_1 rfl) ?_)
    refine b_T rfl rfl rfl rfl rfl (o_val rfl (v_loadF ty3 rfl (l_lit rfl rfl)) ?_)
    refine b_T rfl rfl rfl rfl rfl (o_val rfl (v_bin rfl rfl b_geq) ?_)
    refine bv rfl (v_pickF rfl rfl rfl) ?_
    refine mv rfl rfl ?_
    by_cases hg25 : p0.2.1 ≤ (max x11.1 x11.2.2)
    ·have h := ifT hg25 h
     refine b_F rfl rfl rfl rfl rfl (decide_eq_true hg25) ?_
     refine b_F rfl rfl rfl rfl rfl rfl ?_
     refine b_F rfl rfl rfl rfl rfl rfl ?_
     refine b_F rfl rfl rfl rfl rfl rfl ?_
     refine b_F rfl rfl rfl rfl rfl rfl ?_
     refine bv rfl (v_pickT rfl rfl rfl) ?_
     refine b_nil (hK _ ?_)
     clear hK K
     exact to_le (s' := ⟨[(1, HV.fptr [HV.int .i64 p0.1, HV.int .i64 p0.2.1, slE eFromLabelTo p0.2.2] 0), (3, HV.fn (.func 179) [] [HV.fptr [HV.fn (.func 134) [] []] 0]), (4, HV.int .i64 a7), (5, HV.ptr 83005 v13 0), (31, slE eFromLabelTo p0.2.2), (32, HV.int .i64 ((p0.2.2).length : Int)), (33, HV.int .i64 a7), (62, HV.bool true)], [(83005, v13, .arr 3 128 [HV.int .i64 x11.1, HV.int .i64 x11.2.1, HV.int .i64 x11.2.2])]⟩) (AS.le_of ⟨rfl, rfl, rfl, rfl, rfl, rfl, rfl, rfl, trivial⟩ ⟨rfl, trivial⟩) ⟨true, (), h, rfl⟩
    have h := ifF hg25 h
    refine b_T rfl rfl rfl rfl (decide_eq_false hg25) (o_val rfl (v_fieldAddrP fo128_1 rfl rfl) ?_)
    refine b_T rfl rfl rfl rfl rfl (o_val rfl (v_loadP ty3 rfl rfl (l_lit rfl rfl)) ?_)
    refine b_T rfl rfl rfl rfl rfl (o_val rfl (v_fieldAddrF fo27_0 rfl) ?_)
    refine b_T rfl rfl rfl rfl rfl (o_val rfl (v_loadF ty3 rfl (l_lit rfl rfl)) ?_)
    refine b_T rfl rfl rfl rfl rfl (o_val rfl (v_bin rfl rfl b_geq) ?_)
    refine bv rfl (v_pickF rfl rfl rfl) ?_
    refine b_nil (hK _ ?_)
    clear hK K
    exact to_le (s' := ⟨[(1, HV.fptr [HV.int .i64 p0.1, HV.int .i64 p0.2.1, slE eFromLabelTo p0.2.2] 0), (3, HV.fn (.func 179) [] [HV.fptr [HV.fn (.func 134) [] []] 0]), (4, HV.int .i64 a7), (5, HV.ptr 83005 v13 0), (31, slE eFromLabelTo p0.2.2), (32, HV.int .i64 ((p0.2.2).length : Int)), (33, HV.int .i64 a7), (62, HV.bool (decide (p0.1 ≤ x11.2.1)))], [(83005, v13, .arr 3 128 [HV.int .i64 x11.1, HV.int .i64 x11.2.1, HV.int .i64 x11.2.2])]⟩) (AS.le_of ⟨rfl, rfl, rfl, rfl, rfl, rfl, rfl, rfl, trivial⟩ ⟨rfl, trivial⟩) ⟨decide (p0.1 ≤ x11.2.1), (), h, rfl⟩
   have hc := of_decide_eq_false hc
   have h := ifF hc h
   refine AW.exit ?_
   exact to_le (s' := ⟨[], []⟩) (AS.le_of trivial trivial) ⟨(), (), h, rfl⟩
  refine AW.rg rfl fun K hK => ?_
  refine bv rfl (v_fieldAddrF fo27_1 rfl) ?_
  refine bv rfl (v_loadF ty3 rfl (l_lit rfl rfl)) ?_
  refine bv rfl (v_bin rfl rfl b_gtr) ?_
  refine mv rfl rfl ?_
  by_cases hg29 : 64 < p0.2.1
  ·have h := ifT hg29 h
   refine b_F rfl rfl rfl rfl rfl (decide_eq_true hg29) ?_
   refine b_F rfl rfl rfl rfl rfl rfl ?_
   refine b_F rfl rfl rfl rfl rfl rfl ?_
   refine b_F rfl rfl rfl rfl rfl rfl ?_
   refine bv rfl (v_pickT rfl rfl rfl) ?_
   refine mv rfl rfl ?_
   refine b_nil (hK _ ?_)
   clear hK K
   exact to_le (s' := ⟨[(1, HV.fptr [HV.int .i64 p0.1, HV.int .i64 p0.2.1, slE eFromLabelTo p0.2.2] 0), (19, HV.bool true)], []⟩) (AS.le_of ⟨rfl, rfl, trivial⟩ trivial) ⟨true, (), h, rfl⟩
  have h := ifF hg29 h
  refine b_T rfl rfl rfl rfl (decide_eq_false hg29) (o_val rfl (v_fieldAddrF fo27_2 rfl) ?_)
  refine b_T rfl rfl rfl rfl rfl (o_val rfl (v_loadF ty25 rfl (l_lit rfl rfl)) ?_)
  refine b_T rfl rfl rfl rfl rfl (o_val rfl (v_lenF rfl rfl ty25 rfl) ?_)
  refine b_T rfl rfl rfl rfl rfl (o_val rfl (v_bin rfl rfl b_gtr) ?_)
  refine bv rfl (v_pickF rfl rfl rfl) ?_
  refine mv rfl rfl ?_
  refine b_nil (hK _ ?_)
  clear hK K
  exact to_le (s' := ⟨[(1, HV.fptr [HV.int .i64 p0.1, HV.int .i64 p0.2.1, slE eFromLabelTo p0.2.2] 0), (19, HV.bool (decide (1024 < ((p0.2.2).length : Int))))], []⟩) (AS.le_of ⟨rfl, rfl, trivial⟩ trivial) ⟨decide (1024 < ((p0.2.2).length : Int)), (), h, rfl⟩
 refine AW.rg rfl fun K hK => ?_
 refine bv rfl (v_fieldAddrF fo27_0 rfl) ?_
 refine bv rfl (v_loadF ty3 rfl (l_lit rfl rfl)) ?_
 refine bv rfl (v_bin rfl rfl b_lss) ?_
 refine mv rfl rfl ?_
 by_cases hg30 : p0.1 < 1
 ·have h := ifT hg30 h
  refine b_F rfl rfl rfl rfl rfl (decide_eq_true hg30) ?_
  refine b_F rfl rfl rfl rfl rfl rfl ?_
  refine b_F rfl rfl rfl rfl rfl rfl ?_
  refine bv rfl (v_pickT rfl rfl rfl) ?_
  refine mv rfl rfl ?_
  refine b_nil (hK _ ?_)
  clear hK K
  exact to_le (s' := ⟨[(1, HV.fptr [HV.int .i64 p0.1, HV.int .i64 p0.2.1, slE eFromLabelTo p0.2.2] 0), (6, HV.bool true)], []⟩) (AS.le_of ⟨rfl, rfl, trivial⟩ trivial) ⟨true, (), h, rfl⟩
 have h := ifF hg30 h
 refine b_T rfl rfl rfl rfl (decide_eq_false hg30) (o_val rfl (v_fieldAddrF fo27_0 rfl) ?_)
 refine b_T rfl rfl rfl rfl rfl (o_val rfl (v_loadF ty3 rfl (l_lit rfl rfl)) ?_)
 refine b_T rfl rfl rfl rfl rfl (o_val rfl (v_bin rfl rfl b_gtr) ?_)
 refine bv rfl (v_pickF rfl rfl rfl) ?_
 refine mv rfl rfl ?_
 refine b_nil (hK _ ?_)
 clear hK K
 exact to_le (s' := ⟨[(1, HV.fptr [HV.int .i64 p0.1, HV.int .i64 p0.2.1, slE eFromLabelTo p0.2.2] 0), (6, HV.bool (decide (256 < p0.1)))], []⟩) (AS.le_of ⟨rfl, rfl, trivial⟩ trivial) ⟨decide (256 < p0.1), (), h, rfl⟩

set_option maxHeartbeats 1600000 in
set_option maxRecDepth 100000 in
theorem w_word_known {p0 : Int} {r : Bool} (h : m_word_known p0 = some r) : Pure Tryz.prog 140 [HV.int .i64 p0] (· = HV.bool r) := by
 unfold m_word_known at h
 refine Pure.of_body Tryz.func140 rfl rfl (Nat.le_of_ble_eq_true rfl) fun hf => ?_
 unfold Tryz.f140
 dsimp only [enumS, Nat.reduceAdd]
 refine AW.rgs rfl fun K hK => ?_
 refine mv rfl rfl ?_
 refine b_fin hK (s' := ⟨[(0, HV.int .i64 p0)], []⟩) (le_q rfl rfl) ?_
 clear hK K
 refine AW.seqJ h (S := Bool) (V := Unit) (fun a v => ⟨[(2, HV.bool a)], []⟩) (fun a1 w2 h => ?_) (fun k3 h => ?_)
 ·refine AW.ret ?_
  have h := Option.some.inj h
  subst h
  exact ret_pure (hs := [HV.bool a1]) (q := HV.bool a1) (.inr rfl) (resT rfl rfl) rfl trivial
 refine AW.rg rfl fun K hK => ?_
 refine mv rfl rfl ?_
 refine bv rfl (v_bin rfl rfl b_geq) ?_
 refine mv rfl rfl ?_
 by_cases hg4 : 1 ≤ p0
 ·have h := ifT hg4 h
  refine b_T rfl rfl rfl rfl (decide_eq_true hg4) (o_val rfl (mv_val rfl rfl).2 ?_)
  refine b_T rfl rfl rfl rfl rfl (o_val rfl (v_bin rfl rfl b_leq) ?_)
  refine bv rfl (v_pickT rfl rfl rfl) ?_
  refine mv rfl rfl ?_
  refine b_nil (hK _ ?_)
  clear hK K
  exact to_le (s' := ⟨[(2, HV.bool (decide (p0 ≤ 16)))], []⟩) (AS.le_of ⟨rfl, trivial⟩ trivial) ⟨decide (p0 ≤ 16), (), h, rfl⟩
 have h := ifF hg4 h
 refine b_F rfl rfl rfl rfl rfl (decide_eq_false hg4) ?_
 refine b_F rfl rfl rfl rfl rfl rfl ?_
 refine bv rfl (v_pickF rfl rfl rfl) ?_
 refine mv rfl rfl ?_
 refine b_nil (hK _ ?_)
 clear hK K
 exact to_le (s' := ⟨[(2, HV.bool false)], []⟩) (AS.le_of ⟨rfl, trivial⟩ trivial) ⟨false, (), h, rfl⟩

set_option maxHeartbeats 1600000 in
set_option maxRecDepth 100000 in
theorem w_word_Check {p0 : Int} {p1 : List UInt8} {r : Int} (h : m_word_Check p0 p1 = some r) : Pure Tryz.prog 92 [HV.int .i64 p0, HV.str p1] (· = HV.int .i64 r) := by
 unfold m_word_Check at h
 refine Pure.of_body Tryz.func92 rfl rfl (Nat.le_of_ble_eq_true rfl) fun hf => ?_
 unfold Tryz.f92
 dsimp only [enumS, Nat.reduceAdd]
 refine AW.rgs rfl fun K hK => ?_
 refine mv rfl rfl ?_
 refine b_fin hK (s' := ⟨[(0, HV.int .i64 p0), (1, HV.str p1)], []⟩) (le_q rfl rfl) ?_
 clear hK K
 refine AW.seq (AW.block ?_)
 refine AW.rgs rfl fun K hK => ?_
 refine mv rfl rfl ?_
 obtain ⟨x1, h2, h⟩ := bS h
 refine b_op rfl (o_call rfl rfl rfl rfl (ACallD.pure0 (w_word_known h2)) ?_)
 refine bv rfl (v_not rfl) ?_
 refine mv rfl rfl ?_
 refine b_fin hK (s' := ⟨[(0, HV.int .i64 p0), (1, HV.str p1), (6, HV.bool (!x1))], []⟩) (le_q rfl rfl) ?_
 clear hK K
 refine AW.cond rfl (fun hc => ?_) (fun hc => ?_)
 ·have h := ifT hc h
  refine AW.rgs rfl fun K hK => ?_
  refine mv rfl rfl ?_
  refine b_fin hK (s' := ⟨[(4, HV.int .i64 12)], []⟩) (le_q rfl rfl) ?_
  clear hK K
  refine AW.ret ?_
  have h := Option.some.inj h
  subst h
  exact ret_pure (hs := [HV.int .i64 12]) (q := HV.int .i64 12) (.inr rfl) (resT rfl rfl) rfl trivial
 have h := ifF (bF' hc) h
 refine AW.rgs rfl fun K hK => ?_
 refine mv rfl rfl ?_
 refine bv rfl (v_lenS rfl rfl ty9 rfl) ?_
 refine bv rfl (v_bin rfl rfl b_gtr) ?_
 refine mv rfl rfl ?_
 refine b_fin hK (s' := ⟨[(0, HV.int .i64 p0), (1, HV.str p1), (10, HV.bool (decide (65536 < ((p1).length : Int))))], []⟩) (le_q rfl rfl) ?_
 clear hK K
 refine AW.cond rfl (fun hc => ?_) (fun hc => ?_)
 ·have hc := of_decide_eq_true hc
  have h := ifT hc h
  refine AW.rgs rfl fun K hK => ?_
  refine mv rfl rfl ?_
  refine b_fin hK (s' := ⟨[(4, HV.int .i64 4)], []⟩) (le_q rfl rfl) ?_
  clear hK K
  refine AW.ret ?_
  have h := Option.some.inj h
  subst h
  exact ret_pure (hs := [HV.int .i64 4]) (q := HV.int .i64 4) (.inr rfl) (resT rfl rfl) rfl trivial
 have hc := of_decide_eq_false hc
 have h := ifF hc h
 refine AW.skip ?_
 refine AW.seq ?_
 refine AW.rgs rfl fun K hK => ?_
 refine mv rfl rfl ?_
 refine bv rfl (v_lenS rfl rfl ty9 rfl) ?_
 refine mv rfl rfl ?_
 refine b_fin hK (s' := ⟨[(0, HV.int .i64 p0), (1, HV.str p1), (15, HV.int .i64 ((p1).length : Int)), (16, HV.int .i64 0)], []⟩) (le_q rfl rfl) ?_
 clear hK K
 refine AW.lpR h (by first | exact up_then | exact up_to) (S := Int) (V := Unit) (fun a v => ⟨[(0, HV.int .i64 p0), (1, HV.str p1), (15, HV.int .i64 ((p1).length : Int)), (16, HV.int .i64 a)], []⟩) ?_ (X := Unit) (W := Unit) (fun a v => ⟨[], []⟩) (fun a12 w13 h => ?_) (fun a3 w4 st5 h hr6=> ?_)
 ·exact to_le (s' := ⟨[(0, HV.int .i64 p0), (1, HV.str p1), (15, HV.int .i64 ((p1).length : Int)), (16, HV.int .i64 0)], []⟩) (AS.le_of ⟨rfl, rfl, rfl, rfl, trivial⟩ trivial) ⟨(), rfl⟩
 ·refine AW.rgs rfl fun K hK => ?_
  refine mv rfl rfl ?_
  refine b_fin hK (s' := ⟨[(4, HV.int .i64 0)], []⟩) (le_q rfl rfl) ?_
  clear hK K
  refine AW.ret ?_
  have h := Option.some.inj h
  subst h
  exact ret_pure (hs := [HV.int .i64 0]) (q := HV.int .i64 0) (.inr rfl) (resT rfl rfl) rfl trivial
 refine AW.rgs rfl fun K hK => ?_
 refine bv rfl (v_bin rfl rfl b_lss) ?_
 refine b_fin hK (s' := ⟨[(0, HV.int .i64 p0), (1, HV.str p1), (15, HV.int .i64 ((p1).length : Int)), (16, HV.int .i64 a3), (17, HV.bool (decide (a3 < ((p1).length : Int))))], []⟩) (le_q rfl rfl) ?_
 clear hK K
 refine AW.cseq rfl (fun hc => ?_) (fun hc => ?_)
 ·have hc := of_decide_eq_true hc
  have h := ifT hc h
  refine AW.skip ?_
  refine AW.seq (AW.block ?_)
  refine AW.rgs rfl fun K hK => ?_
  refine mv rfl rfl ?_
  refine mv rfl rfl ?_
  refine b_fin hK (s' := ⟨[(0, HV.int .i64 p0), (1, HV.str p1), (5, HV.int .i64 a3), (15, HV.int .i64 ((p1).length : Int)), (16, HV.int .i64 a3)], []⟩) (le_q rfl rfl) ?_
  clear hK K
  refine AW.dgs 7 follows rfl rfl fun K hK => ?_
  refine sm rfl rfl ?_
  obtain ⟨h7, h⟩ := ifN h
  refine sv rfl (v_sliceS ty9 rfl rfl rfl h7) ?_
  refine sm rfl rfl ?_
  refine sm rfl rfl ?_
  obtain ⟨x8, h9, h⟩ := bS h
  refine sv rfl (v_idxS ty9 rfl rfl h9) ?_
  obtain ⟨x10, h11, h⟩ := bS h
  refine s_op rfl rfl (ops_call rfl rfl rfl rfl (ACallD.pure0 (w_strings_IndexByte h11)) ?_)
  refine sv rfl (v_bin rfl rfl b_lss) ?_
  refine s_nil ?_
  refine b_fin hK (s' := ⟨[(0, HV.int .i64 p0), (1, HV.str p1), (15, HV.int .i64 ((p1).length : Int)), (16, HV.int .i64 a3), (25, HV.bool (decide (x10 < 0)))], []⟩) (le_q rfl rfl) ?_
  clear hK K
  refine AW.cond rfl (fun hc => ?_) (fun hc => ?_)
  ·have hc := of_decide_eq_true hc
   have h := ifT hc h
   refine AW.rgs rfl fun K hK => ?_
   refine mv rfl rfl ?_
   refine b_fin hK (s' := ⟨[(4, HV.int .i64 13)], []⟩) (le_q rfl rfl) ?_
   clear hK K
   have h := hr6 _ h
   refine AW.ret ?_
   have h := Option.some.inj h
   subst h
   exact ret_pure (hs := [HV.int .i64 13]) (q := HV.int .i64 13) (.inr rfl) (resT rfl rfl) rfl trivial
  have hc := of_decide_eq_false hc
  have h := ifF hc h
  refine AW.skip ?_
  refine AW.rg rfl fun K hK => ?_
  refine bv rfl (v_bin rfl rfl b_add) ?_
  refine mv rfl rfl ?_
  refine b_nil (hK _ ?_)
  clear hK K
  exact to_le (s' := ⟨[(0, HV.int .i64 p0), (1, HV.str p1), (15, HV.int .i64 ((p1).length : Int)), (16, HV.int .i64 (IntKind.wrap .i64 (a3 + 1)))], []⟩) (AS.le_of ⟨rfl, rfl, rfl, rfl, trivial⟩ trivial) ⟨IntKind.wrap .i64 (a3 + 1), (), h, rfl⟩
 have hc := of_decide_eq_false hc
 have h := ifF hc h
 refine AW.exit ?_
 exact to_le (s' := ⟨[], []⟩) (AS.le_of trivial trivial) ⟨(), (), h, rfl⟩

set_option maxHeartbeats 1600000 in
set_option maxRecDepth 100000 in
theorem w_language_check {p0 : TLabelsStatesEdges} {r : Int} (h : m_language_check p0 = some r) : Pure Tryz.prog 110 [HV.agg [HV.int .i64 p0.1, HV.int .i64 p0.2.1, slE eFromLabelTo p0.2.2]] (· = HV.int .i64 r) := by
 unfold m_language_check at h
 refine Pure.of_body Tryz.func110 rfl rfl (Nat.le_of_ble_eq_true rfl) fun hf => ?_
 unfold Tryz.f110
 dsimp only [enumS, Nat.reduceAdd]
 refine AW.rgs rfl fun K hK => ?_
 refine b_op rfl (o_box rfl rfl rfl ?_)
 refine mv rfl rfl ?_
 refine b_fin hK (s' := ⟨[(1, HV.fptr [HV.int .i64 p0.1, HV.int .i64 p0.2.1, slE eFromLabelTo p0.2.2] 0)], []⟩) (le_q rfl rfl) ?_
 clear hK K
 refine AW.seq (AW.block ?_)
 refine AW.rgs rfl fun K hK => ?_
 refine bv rfl (v_loadF ty27 rfl (l_litA rfl (Nat.le_of_ble_eq_true rfl) rfl)) ?_
 obtain ⟨x1, h2, h⟩ := bS h
 refine b_op rfl (o_call rfl rfl rfl rfl (ACallD.pure0 (w_graph_Check h2)) ?_)
 refine bv rfl (v_bin rfl rfl b_neq) ?_
 refine mv rfl rfl ?_
 refine b_fin hK (s' := ⟨[(1, HV.fptr [HV.int .i64 p0.1, HV.int .i64 p0.2.1, slE eFromLabelTo p0.2.2] 0), (3, HV.bool (decide (x1 ≠ 0)))], []⟩) (le_q rfl rfl) ?_
 clear hK K
 refine AW.cond rfl (fun hc => ?_) (fun hc => ?_)
 ·have hc := of_decide_eq_true hc
  have h := ifT hc h
  refine AW.rgs rfl fun K hK => ?_
  refine mv rfl rfl ?_
  refine b_fin hK (s' := ⟨[(2, HV.int .i64 1)], []⟩) (le_q rfl rfl) ?_
  clear hK K
  refine AW.ret ?_
  have h := Option.some.inj h
  subst h
  exact ret_pure (hs := [HV.int .i64 1]) (q := HV.int .i64 1) (.inr rfl) (resT rfl rfl) rfl trivial
 have hc := of_decide_eq_false hc
 have h := ifF hc h
 refine AW.rgs rfl fun K hK => ?_
 refine bv rfl (v_fieldAddrF fo27_0 rfl) ?_
 refine bv rfl (v_loadF ty3 rfl (l_lit rfl rfl)) ?_
 refine bv rfl (v_bin rfl rfl b_gtr) ?_
 refine mv rfl rfl ?_
 refine b_fin hK (s' := ⟨[(7, HV.bool (decide (16 < p0.1)))], []⟩) (le_q rfl rfl) ?_
 clear hK K
 refine AW.cond rfl (fun hc => ?_) (fun hc => ?_)
 ·have hc := of_decide_eq_true hc
  have h := ifT hc h
  refine AW.rgs rfl fun K hK => ?_
  refine mv rfl rfl ?_
  refine b_fin hK (s' := ⟨[(2, HV.int .i64 12)], []⟩) (le_q rfl rfl) ?_
  clear hK K
  refine AW.ret ?_
  have h := Option.some.inj h
  subst h
  exact ret_pure (hs := [HV.int .i64 12]) (q := HV.int .i64 12) (.inr rfl) (resT rfl rfl) rfl trivial
 have hc := of_decide_eq_false hc
 have h := ifF hc h
 refine AW.skip ?_
 refine AW.rgs rfl fun K hK => ?_
 refine mv rfl rfl ?_
 refine b_fin hK (s' := ⟨[(2, HV.int .i64 0)], []⟩) (le_q rfl rfl) ?_
 clear hK K
 refine AW.ret ?_
 have h := Option.some.inj h
 subst h
 exact ret_pure (hs := [HV.int .i64 0]) (q := HV.int .i64 0) (.inr rfl) (resT rfl rfl) rfl trivial

set_option maxHeartbeats 1600000 in
set_option maxRecDepth 100000 in
theorem w_language_spells {p0 : TLabelsStatesEdges} {p1 : List UInt8} {r : Int} (h : m_language_spells p0 p1 = some r) : Pure Tryz.prog 60 [HV.agg [HV.int .i64 p0.1, HV.int .i64 p0.2.1, slE eFromLabelTo p0.2.2], HV.str p1] (· = HV.int .i64 r) := by
 unfold m_language_spells at h
 refine Pure.of_body Tryz.func60 rfl rfl (Nat.le_of_ble_eq_true rfl) fun hf => ?_
 unfold Tryz.f60
 dsimp only [enumS, Nat.reduceAdd]
 refine AW.rgs rfl fun K hK => ?_
 refine b_op rfl (o_box rfl rfl rfl ?_)
 refine mv rfl rfl ?_
 refine b_fin hK (s' := ⟨[(1, HV.str p1), (2, HV.fptr [HV.int .i64 p0.1, HV.int .i64 p0.2.1, slE eFromLabelTo p0.2.2] 0)], []⟩) (le_q rfl rfl) ?_
 clear hK K
 refine AW.seq ?_
 refine AW.rgs rfl fun K hK => ?_
 refine bv rfl (v_loadF ty27 rfl (l_litA rfl (Nat.le_of_ble_eq_true rfl) rfl)) ?_
 obtain ⟨x1, h2, h⟩ := bS h
 refine b_op rfl (o_call rfl rfl rfl rfl (ACallD.pure0 (w_language_check h2)) ?_)
 refine mv rfl rfl ?_
 refine b_fin hK (s' := ⟨[(1, HV.str p1), (2, HV.fptr [HV.int .i64 p0.1, HV.int .i64 p0.2.1, slE eFromLabelTo p0.2.2] 0), (5, HV.int .i64 x1)], []⟩) (le_q rfl rfl) ?_
 clear hK K
 refine AW.rgs rfl fun K hK => ?_
 refine mv rfl rfl ?_
 refine bv rfl (v_bin rfl rfl b_neq) ?_
 refine b_fin hK (s' := ⟨[(1, HV.str p1), (2, HV.fptr [HV.int .i64 p0.1, HV.int .i64 p0.2.1, slE eFromLabelTo p0.2.2] 0), (5, HV.int .i64 x1), (9, HV.bool (decide (x1 ≠ 0)))], []⟩) (le_q rfl rfl) ?_
 clear hK K
 refine AW.cond rfl (fun hc => ?_) (fun hc => ?_)
 ·have hc := of_decide_eq_true hc
  have h := ifT hc h
  refine AW.rgs rfl fun K hK => ?_
  refine mv rfl rfl ?_
  refine mv rfl rfl ?_
  refine b_fin hK (s' := ⟨[(4, HV.int .i64 x1)], []⟩) (le_q rfl rfl) ?_
  clear hK K
  refine AW.ret ?_
  have h := Option.some.inj h
  subst h
  exact ret_pure (hs := [HV.int .i64 x1]) (q := HV.int .i64 x1) (.inr rfl) (resT rfl rfl) rfl trivial
 have hc := of_decide_eq_false hc
 have h := ifF hc h
 refine AW.skip ?_
 refine AW.rgs rfl fun K hK => ?_
 refine bv rfl (v_fieldAddrF fo27_0 rfl) ?_
 refine bv rfl (v_loadF ty3 rfl (l_lit rfl rfl)) ?_
 refine mv rfl rfl ?_
 obtain ⟨x3, h4, h⟩ := bS h
 refine b_op rfl (o_call rfl rfl rfl rfl (ACallD.pure0 (w_word_Check h4)) ?_)
 refine mv rfl rfl ?_
 refine b_fin hK (s' := ⟨[(4, HV.int .i64 x3)], []⟩) (le_q rfl rfl) ?_
 clear hK K
 refine AW.ret ?_
 have h := Option.some.inj h
 subst h
 exact ret_pure (hs := [HV.int .i64 x3]) (q := HV.int .i64 x3) (.inr rfl) (resT rfl rfl) rfl trivial

set_option maxHeartbeats 1600000 in
set_option maxRecDepth 100000 in
theorem w_graph_checkSet {p0 : TLabelsStatesEdges} {p1 : List (Int)} {r : Int} (h : m_graph_checkSet p0 p1 = some r) : Pure Tryz.prog 158 [HV.agg [HV.int .i64 p0.1, HV.int .i64 p0.2.1, slE eFromLabelTo p0.2.2], slE eInt p1] (· = HV.int .i64 r) := by
 unfold m_graph_checkSet at h
 refine Pure.of_body Tryz.func158 rfl rfl (Nat.le_of_ble_eq_true rfl) fun hf => ?_
 unfold Tryz.f158
 dsimp only [enumS, Nat.reduceAdd]
 refine AW.rgs rfl fun K hK => ?_
 refine b_op rfl (o_box rfl rfl rfl ?_)
 refine mv rfl rfl ?_
 refine b_fin hK (s' := ⟨[(1, slE eInt p1), (2, HV.fptr [HV.int .i64 p0.1, HV.int .i64 p0.2.1, slE eFromLabelTo p0.2.2] 0)], []⟩) (le_q rfl rfl) ?_
 clear hK K
 refine AW.seq ?_
 refine AW.rgs rfl fun K hK => ?_
 refine mv rfl rfl ?_
 refine bv rfl (v_lenF rfl rfl ty31 rfl) ?_
 refine mv rfl rfl ?_
 refine b_fin hK (s' := ⟨[(1, slE eInt p1), (2, HV.fptr [HV.int .i64 p0.1, HV.int .i64 p0.2.1, slE eFromLabelTo p0.2.2] 0), (7, slE eInt p1), (8, HV.int .i64 ((p1).length : Int)), (9, HV.int .i64 0)], []⟩) (le_q rfl rfl) ?_
 clear hK K
 refine AW.lpR h (by first | exact up_then | exact up_to) (S := Int) (V := Unit) (fun a v => ⟨[(1, slE eInt p1), (2, HV.fptr [HV.int .i64 p0.1, HV.int .i64 p0.2.1, slE eFromLabelTo p0.2.2] 0), (7, slE eInt p1), (8, HV.int .i64 ((p1).length : Int)), (9, HV.int .i64 a)], []⟩) ?_ (X := Unit) (W := Unit) (fun a v => ⟨[], []⟩) (fun a17 w18 h => ?_) (fun a1 w2 st3 h hr4=> ?_)
 ·exact to_le (s' := ⟨[(1, slE eInt p1), (2, HV.fptr [HV.int .i64 p0.1, HV.int .i64 p0.2.1, slE eFromLabelTo p0.2.2] 0), (7, slE eInt p1), (8, HV.int .i64 ((p1).length : Int)), (9, HV.int .i64 0)], []⟩) (AS.le_of ⟨rfl, rfl, rfl, rfl, rfl, trivial⟩ trivial) ⟨(), rfl⟩
 ·refine AW.rgs rfl fun K hK => ?_
  refine mv rfl rfl ?_
  refine b_fin hK (s' := ⟨[(4, HV.int .i64 0)], []⟩) (le_q rfl rfl) ?_
  clear hK K
  refine AW.ret ?_
  have h := Option.some.inj h
  subst h
  exact ret_pure (hs := [HV.int .i64 0]) (q := HV.int .i64 0) (.inr rfl) (resT rfl rfl) rfl trivial
 refine AW.rgs rfl fun K hK => ?_
 refine bv rfl (v_bin rfl rfl b_lss) ?_
 refine b_fin hK (s' := ⟨[(1, slE eInt p1), (2, HV.fptr [HV.int .i64 p0.1, HV.int .i64 p0.2.1, slE eFromLabelTo p0.2.2] 0), (7, slE eInt p1), (8, HV.int .i64 ((p1).length : Int)), (9, HV.int .i64 a1), (10, HV.bool (decide (a1 < ((p1).length : Int))))], []⟩) (le_q rfl rfl) ?_
 clear hK K
 refine AW.cseq rfl (fun hc => ?_) (fun hc => ?_)
 ·have hc := of_decide_eq_true hc
  have h := ifT hc h
  refine AW.skip ?_
  refine AW.seq (AW.block ?_)
  refine AW.rgs rfl fun K hK => ?_
  refine mv rfl rfl ?_
  obtain ⟨x5, h6, h⟩ := bS h
  refine bv rfl (v_idxF ty31 es31 rfl rfl (idx_lt h6)) ?_
  refine bv rfl (v_loadF ty3 rfl (l_cell eInt h6 (o := 0) rfl rfl)) ?_
  refine mv rfl rfl ?_
  refine mv rfl rfl ?_
  refine b_fin hK (s' := ⟨[(1, slE eInt p1), (2, HV.fptr [HV.int .i64 p0.1, HV.int .i64 p0.2.1, slE eFromLabelTo p0.2.2] 0), (5, HV.int .i64 a1), (6, HV.int .i64 x5), (7, slE eInt p1), (8, HV.int .i64 ((p1).length : Int)), (9, HV.int .i64 a1)], []⟩) (le_q rfl rfl) ?_
  clear hK K
  refine AW.seq ?_
  refine AW.seqJ h (S := Bool) (V := Unit) (fun a v => ⟨[(1, slE eInt p1), (2, HV.fptr [HV.int .i64 p0.1, HV.int .i64 p0.2.1, slE eFromLabelTo p0.2.2] 0), (5, HV.int .i64 a1), (6, HV.int .i64 x5), (7, slE eInt p1), (8, HV.int .i64 ((p1).length : Int)), (9, HV.int .i64 a1), (21, HV.bool a)], []⟩) (fun a7 w8 h => ?_) (fun k9 h => ?_)
  ·refine AW.cond rfl (fun hc => ?_) (fun hc => ?_)
   ·have h := ifT hc h
    refine AW.rgs rfl fun K hK => ?_
    refine mv rfl rfl ?_
    refine b_fin hK (s' := ⟨[(4, HV.int .i64 25)], []⟩) (le_q rfl rfl) ?_
    clear hK K
    have h := hr4 _ h
    refine AW.ret ?_
    have h := Option.some.inj h
    subst h
    exact ret_pure (hs := [HV.int .i64 25]) (q := HV.int .i64 25) (.inr rfl) (resT rfl rfl) rfl trivial
   have h := ifF (bF' hc) h
   refine AW.skip ?_
   refine AW.seqJ h (S := Bool) (V := Unit) (fun a v => ⟨[(1, slE eInt p1), (2, HV.fptr [HV.int .i64 p0.1, HV.int .i64 p0.2.1, slE eFromLabelTo p0.2.2] 0), (7, slE eInt p1), (8, HV.int .i64 ((p1).length : Int)), (9, HV.int .i64 a1), (32, HV.bool a)], []⟩) (fun a10 w11 h => ?_) (fun k12 h => ?_)
   ·refine AW.cond rfl (fun hc => ?_) (fun hc => ?_)
    ·have h := ifT hc h
     refine AW.rgs rfl fun K hK => ?_
     refine mv rfl rfl ?_
     refine b_fin hK (s' := ⟨[(4, HV.int .i64 10)], []⟩) (le_q rfl rfl) ?_
     clear hK K
     have h := hr4 _ h
     refine AW.ret ?_
     have h := Option.some.inj h
     subst h
     exact ret_pure (hs := [HV.int .i64 10]) (q := HV.int .i64 10) (.inr rfl) (resT rfl rfl) rfl trivial
    have h := ifF (bF' hc) h
    refine AW.skip ?_
    refine AW.rg rfl fun K hK => ?_
    refine bv rfl (v_bin rfl rfl b_add) ?_
    refine mv rfl rfl ?_
    refine b_nil (hK _ ?_)
    clear hK K
    exact to_le (s' := ⟨[(1, slE eInt p1), (2, HV.fptr [HV.int .i64 p0.1, HV.int .i64 p0.2.1, slE eFromLabelTo p0.2.2] 0), (7, slE eInt p1), (8, HV.int .i64 ((p1).length : Int)), (9, HV.int .i64 (IntKind.wrap .i64 (a1 + 1)))], []⟩) (AS.le_of ⟨rfl, rfl, rfl, rfl, rfl, trivial⟩ trivial) ⟨IntKind.wrap .i64 (a1 + 1), (), h, rfl⟩
   refine AW.rg rfl fun K hK => ?_
   refine mv rfl rfl ?_
   refine bv rfl (v_bin rfl rfl b_gtr) ?_
   refine mv rfl rfl ?_
   by_cases hg15 : 0 < a1
   ·have h := ifT hg15 h
    refine b_T rfl rfl rfl rfl (decide_eq_true hg15) (o_val rfl (mv_val rfl rfl).2 ?_)
    refine b_T rfl rfl rfl rfl rfl (o_val rfl (mv_val rfl rfl).2 ?_)
    refine b_T rfl rfl rfl rfl rfl (o_val rfl (mv_val rfl rfl).2 ?_)
    refine b_T rfl rfl rfl rfl rfl (o_val rfl (v_bin rfl rfl b_sub) ?_)
    obtain ⟨x13, h14, h⟩ := bS h
    refine b_T rfl rfl rfl rfl rfl (o_val rfl (v_idxF ty31 es31 rfl rfl (idx_lt h14)) ?_)
    refine b_T rfl rfl rfl rfl rfl (o_val rfl (v_loadF ty3 rfl (l_cell eInt h14 (o := 0) rfl rfl)) ?_)
    refine b_T rfl rfl rfl rfl rfl (o_val rfl (v_bin rfl rfl b_leq) ?_)
    refine bv rfl (v_pickT rfl rfl rfl) ?_
    refine b_nil (hK _ ?_)
    clear hK K
    exact to_le (s' := ⟨[(1, slE eInt p1), (2, HV.fptr [HV.int .i64 p0.1, HV.int .i64 p0.2.1, slE eFromLabelTo p0.2.2] 0), (7, slE eInt p1), (8, HV.int .i64 ((p1).length : Int)), (9, HV.int .i64 a1), (32, HV.bool (decide (x5 ≤ x13)))], []⟩) (AS.le_of ⟨rfl, rfl, rfl, rfl, rfl, rfl, trivial⟩ trivial) ⟨decide (x5 ≤ x13), (), h, rfl⟩
   have h := ifF hg15 h
   refine b_F rfl rfl rfl rfl rfl (decide_eq_false hg15) ?_
   refine b_F rfl rfl rfl rfl rfl rfl ?_
   refine b_F rfl rfl rfl rfl rfl rfl ?_
   refine b_F rfl rfl rfl rfl rfl rfl ?_
   refine b_F rfl rfl rfl rfl rfl rfl ?_
   refine b_F rfl rfl rfl rfl rfl rfl ?_
   refine b_F rfl rfl rfl rfl rfl rfl ?_
   refine bv rfl (v_pickF rfl rfl rfl) ?_
   refine b_nil (hK _ ?_)
   clear hK K
   exact to_le (s' := ⟨[(1, slE eInt p1), (2, HV.fptr [HV.int .i64 p0.1, HV.int .i64 p0.2.1, slE eFromLabelTo p0.2.2] 0), (7, slE eInt p1), (8, HV.int .i64 ((p1).length : Int)), (9, HV.int .i64 a1), (32, HV.bool false)], []⟩) (AS.le_of ⟨rfl, rfl, rfl, rfl, rfl, rfl, trivial⟩ trivial) ⟨false, (), h, rfl⟩
  refine AW.rg rfl fun K hK => ?_
  refine mv rfl rfl ?_
  refine bv rfl (v_bin rfl rfl b_lss) ?_
  refine mv rfl rfl ?_
  by_cases hg16 : x5 < 0
  ·have h := ifT hg16 h
   refine b_F rfl rfl rfl rfl rfl (decide_eq_true hg16) ?_
   refine b_F rfl rfl rfl rfl rfl rfl ?_
   refine b_F rfl rfl rfl rfl rfl rfl ?_
   refine b_F rfl rfl rfl rfl rfl rfl ?_
   refine bv rfl (v_pickT rfl rfl rfl) ?_
   refine b_nil (hK _ ?_)
   clear hK K
   exact to_le (s' := ⟨[(1, slE eInt p1), (2, HV.fptr [HV.int .i64 p0.1, HV.int .i64 p0.2.1, slE eFromLabelTo p0.2.2] 0), (5, HV.int .i64 a1), (6, HV.int .i64 x5), (7, slE eInt p1), (8, HV.int .i64 ((p1).length : Int)), (9, HV.int .i64 a1), (21, HV.bool true)], []⟩) (AS.le_of ⟨rfl, rfl, rfl, rfl, rfl, rfl, rfl, rfl, trivial⟩ trivial) ⟨true, (), h, rfl⟩
  have h := ifF hg16 h
  refine b_T rfl rfl rfl rfl (decide_eq_false hg16) (o_val rfl (mv_val rfl rfl).2 ?_)
  refine b_T rfl rfl rfl rfl rfl (o_val rfl (v_fieldAddrF fo27_1 rfl) ?_)
  refine b_T rfl rfl rfl rfl rfl (o_val rfl (v_loadF ty3 rfl (l_lit rfl rfl)) ?_)
  refine b_T rfl rfl rfl rfl rfl (o_val rfl (v_bin rfl rfl b_geq) ?_)
  refine bv rfl (v_pickF rfl rfl rfl) ?_
  refine b_nil (hK _ ?_)
  clear hK K
  exact to_le (s' := ⟨[(1, slE eInt p1), (2, HV.fptr [HV.int .i64 p0.1, HV.int .i64 p0.2.1, slE eFromLabelTo p0.2.2] 0), (5, HV.int .i64 a1), (6, HV.int .i64 x5), (7, slE eInt p1), (8, HV.int .i64 ((p1).length : Int)), (9, HV.int .i64 a1), (21, HV.bool (decide (p0.2.1 ≤ x5)))], []⟩) (AS.le_of ⟨rfl, rfl, rfl, rfl, rfl, rfl, rfl, rfl, trivial⟩ trivial) ⟨decide (p0.2.1 ≤ x5), (), h, rfl⟩
 have hc := of_decide_eq_false hc
 have h := ifF hc h
 refine AW.exit ?_
 exact to_le (s' := ⟨[], []⟩) (AS.le_of trivial trivial) ⟨(), (), h, rfl⟩

set_option maxHeartbeats 1600000 in
set_option maxRecDepth 100000 in
theorem w_graph_leaving (p0 : TLabelsStatesEdges) (p1 : Int) : Pure Tryz.prog 159 [HV.agg [HV.int .i64 p0.1, HV.int .i64 p0.2.1, slE eFromLabelTo p0.2.2], HV.int .i64 p1] (· = HV.fn (.func 194) [] [HV.fptr [HV.int .i64 p0.1, HV.int .i64 p0.2.1, slE eFromLabelTo p0.2.2] 0, HV.fptr [HV.int .i64 p1] 0]) := by
 refine Pure.of_body Tryz.func159 rfl rfl (Nat.le_of_ble_eq_true rfl) fun hf => ?_
 unfold Tryz.f159
 dsimp only [enumS, Nat.reduceAdd]
 refine AW.rgs rfl fun K hK => ?_
 refine b_op rfl (o_box rfl rfl rfl ?_)
 refine b_op rfl (o_box rfl rfl rfl ?_)
 refine mv rfl rfl ?_
 refine b_fin hK (s' := ⟨[(2, HV.fptr [HV.int .i64 p0.1, HV.int .i64 p0.2.1, slE eFromLabelTo p0.2.2] 0), (3, HV.fptr [HV.int .i64 p1] 0)], []⟩) (le_q rfl rfl) ?_
 clear hK K
 refine AW.rgs rfl fun K hK => ?_
 refine bv rfl (v_func rfl rfl) ?_
 refine mv rfl rfl ?_
 refine b_fin hK (s' := ⟨[(4, HV.fn (.func 194) [] [HV.fptr [HV.int .i64 p0.1, HV.int .i64 p0.2.1, slE eFromLabelTo p0.2.2] 0, HV.fptr [HV.int .i64 p1] 0])], []⟩) (le_q rfl rfl) ?_
 clear hK K
 refine AW.ret ?_
 exact ret_pure (hs := [HV.fn (.func 194) [] [HV.fptr [HV.int .i64 p0.1, HV.int .i64 p0.2.1, slE eFromLabelTo p0.2.2] 0, HV.fptr [HV.int .i64 p1] 0]]) (q := HV.fn (.func 194) [] [HV.fptr [HV.int .i64 p0.1, HV.int .i64 p0.2.1, slE eFromLabelTo p0.2.2] 0, HV.fptr [HV.int .i64 p1] 0]) (.inr rfl) (resT rfl rfl) rfl ⟨trivial, ⟨⟨trivial, trivial, (clean_slE fun _ _ => ⟨trivial, trivial, trivial, trivial⟩), trivial⟩, ⟨trivial, trivial⟩, trivial⟩⟩

set_option maxHeartbeats 1600000 in
set_option maxRecDepth 100000 in
theorem w_graph_Step {p0 : TLabelsStatesEdges} {p1 : List (Int)} {p2 : Int} {r : (List (Int)) × Int} (h : m_graph_Step p0 p1 p2 = some r) : Pure Tryz.prog 108 [HV.agg [HV.int .i64 p0.1, HV.int .i64 p0.2.1, slE eFromLabelTo p0.2.2], slE eInt p1, HV.int .i64 p2] (· = HV.tup [slE eInt r.1, HV.int .i64 r.2]) := by
 unfold m_graph_Step at h
 refine Pure.of_body Tryz.func108 rfl rfl (Nat.le_of_ble_eq_true rfl) fun hf => ?_
 unfold Tryz.f108
 dsimp only [enumS, Nat.reduceAdd]
 refine AW.rgs rfl fun K hK => ?_
 refine b_op rfl (o_box rfl rfl rfl ?_)
 refine b_op rfl (o_box rfl rfl rfl ?_)
 refine mv rfl rfl ?_
 refine mv rfl rfl ?_
 refine b_fin hK (s' := ⟨[(1, slE eInt p1), (3, HV.fptr [HV.int .i64 p0.1, HV.int .i64 p0.2.1, slE eFromLabelTo p0.2.2] 0), (5, HV.fptr [HV.int .i64 p2] 0)], []⟩) (le_q rfl rfl) ?_
 clear hK K
 refine AW.seq ?_
 refine AW.rgs rfl fun K hK => ?_
 refine bv rfl (v_loadF ty27 rfl (l_litA rfl (Nat.le_of_ble_eq_true rfl) rfl)) ?_
 obtain ⟨x1, h2, h⟩ := bS h
 refine b_op rfl (o_call rfl rfl rfl rfl (ACallD.pure0 (w_graph_Check h2)) ?_)
 refine bv rfl (v_bin rfl rfl b_neq) ?_
 refine b_fin hK (s' := ⟨[(1, slE eInt p1), (3, HV.fptr [HV.int .i64 p0.1, HV.int .i64 p0.2.1, slE eFromLabelTo p0.2.2] 0), (5, HV.fptr [HV.int .i64 p2] 0), (16, HV.bool (decide (x1 ≠ 0)))], []⟩) (le_q rfl rfl) ?_
 clear hK K
 refine AW.cond rfl (fun hc => ?_) (fun hc => ?_)
 ·have hc := of_decide_eq_true hc
  have h := ifT hc h
  refine AW.rgs rfl fun K hK => ?_
  refine mv rfl rfl ?_
  refine mv rfl rfl ?_
  refine b_fin hK (s' := ⟨[(6, HV.v (.slice none 0 0)), (7, HV.int .i64 1)], []⟩) (le_q rfl rfl) ?_
  clear hK K
  refine AW.to (to_weak ⟨[(6, slE eInt ([] : List Int)), (7, HV.int .i64 1)], []⟩ ⟨⟨_, rfl, .nil _⟩, ⟨_, rfl, .refl _⟩, trivial⟩ trivial ?_)
  refine AW.ret ?_
  have h := Option.some.inj h
  subst h
  exact ret_pure (hs := [slE eInt ([] : List Int), HV.int .i64 1]) (q := HV.tup [slE eInt ([] : List Int), HV.int .i64 1]) (.inr rfl) (resT rfl (resT rfl rfl)) rfl ⟨(clean_slE fun _ _ => ⟨trivial, trivial⟩), trivial, trivial⟩
 have hc := of_decide_eq_false hc
 have h := ifF hc h
 refine AW.skip ?_
 refine AW.seq ?_
 refine AW.rgs rfl fun K hK => ?_
 refine bv rfl (v_loadF ty27 rfl (l_litA rfl (Nat.le_of_ble_eq_true rfl) rfl)) ?_
 refine mv rfl rfl ?_
 obtain ⟨x3, h4, h⟩ := bS h
 refine b_op rfl (o_call rfl rfl rfl rfl (ACallD.pure0 (w_graph_checkSet h4)) ?_)
 refine mv rfl rfl ?_
 refine b_fin hK (s' := ⟨[(1, slE eInt p1), (3, HV.fptr [HV.int .i64 p0.1, HV.int .i64 p0.2.1, slE eFromLabelTo p0.2.2] 0), (5, HV.fptr [HV.int .i64 p2] 0), (8, HV.int .i64 x3)], []⟩) (le_q rfl rfl) ?_
 clear hK K
 refine AW.rgs rfl fun K hK => ?_
 refine mv rfl rfl ?_
 refine bv rfl (v_bin rfl rfl b_neq) ?_
 refine b_fin hK (s' := ⟨[(1, slE eInt p1), (3, HV.fptr [HV.int .i64 p0.1, HV.int .i64 p0.2.1, slE eFromLabelTo p0.2.2] 0), (5, HV.fptr [HV.int .i64 p2] 0), (8, HV.int .i64 x3), (21, HV.bool (decide (x3 ≠ 0)))], []⟩) (le_q rfl rfl) ?_
 clear hK K
 refine AW.cond rfl (fun hc => ?_) (fun hc => ?_)
 ·have hc := of_decide_eq_true hc
  have h := ifT hc h
  refine AW.rgs rfl fun K hK => ?_
  refine mv rfl rfl ?_
  refine mv rfl rfl ?_
  refine mv rfl rfl ?_
  refine b_fin hK (s' := ⟨[(6, HV.v (.slice none 0 0)), (7, HV.int .i64 x3)], []⟩) (le_q rfl rfl) ?_
  clear hK K
  refine AW.to (to_weak ⟨[(6, slE eInt ([] : List Int)), (7, HV.int .i64 x3)], []⟩ ⟨⟨_, rfl, .nil _⟩, ⟨_, rfl, .refl _⟩, trivial⟩ trivial ?_)
  refine AW.ret ?_
  have h := Option.some.inj h
  subst h
  exact ret_pure (hs := [slE eInt ([] : List Int), HV.int .i64 x3]) (q := HV.tup [slE eInt ([] : List Int), HV.int .i64 x3]) (.inr rfl) (resT rfl (resT rfl rfl)) rfl ⟨(clean_slE fun _ _ => ⟨trivial, trivial⟩), trivial, trivial⟩
 have hc := of_decide_eq_false hc
 have h := ifF hc h
 refine AW.skip ?_
 refine AW.seq ?_
 refine AW.seqJ h (S := Bool) (V := Unit) (fun a v => ⟨[(1, slE eInt p1), (3, HV.fptr [HV.int .i64 p0.1, HV.int .i64 p0.2.1, slE eFromLabelTo p0.2.2] 0), (5, HV.fptr [HV.int .i64 p2] 0), (30, HV.bool a)], []⟩) (fun a5 w6 h => ?_) (fun k7 h => ?_)
 ·refine AW.cond rfl (fun hc => ?_) (fun hc => ?_)
  ·have h := ifT hc h
   refine AW.rgs rfl fun K hK => ?_
   refine mv rfl rfl ?_
   refine mv rfl rfl ?_
   refine b_fin hK (s' := ⟨[(6, HV.v (.slice none 0 0)), (7, HV.int .i64 2)], []⟩) (le_q rfl rfl) ?_
   clear hK K
   refine AW.to (to_weak ⟨[(6, slE eInt ([] : List Int)), (7, HV.int .i64 2)], []⟩ ⟨⟨_, rfl, .nil _⟩, ⟨_, rfl, .refl _⟩, trivial⟩ trivial ?_)
   refine AW.ret ?_
   have h := Option.some.inj h
   subst h
   exact ret_pure (hs := [slE eInt ([] : List Int), HV.int .i64 2]) (q := HV.tup [slE eInt ([] : List Int), HV.int .i64 2]) (.inr rfl) (resT rfl (resT rfl rfl)) rfl ⟨(clean_slE fun _ _ => ⟨trivial, trivial⟩), trivial, trivial⟩
  have h := ifF (bF' hc) h
  refine AW.skip ?_
  refine AW.rgs rfl fun K hK => ?_
  refine b_op rfl (o_alloc (fid := 108) (zs := [HV.v (.slice none 0 0)]) 108009 rfl rfl ty31 rfl (fun v8 => ?_))
  refine b_fin hK (s' := ⟨[(1, slE eInt p1), (3, HV.fptr [HV.int .i64 p0.1, HV.int .i64 p0.2.1, slE eFromLabelTo p0.2.2] 0), (5, HV.fptr [HV.int .i64 p2] 0), (9, HV.ptr 108009 v8 0)], [(108009, v8, .arr 1 31 [HV.v (.slice none 0 0)])]⟩) (le_q rfl rfl) ?_
  clear hK K
  refine AW.seq ?_
  refine AW.rgs rfl fun K hK => ?_
  refine mv rfl rfl ?_
  refine bv rfl (v_lenF rfl rfl ty31 rfl) ?_
  refine mv rfl rfl ?_
  refine b_fin hK (s' := ⟨[(3, HV.fptr [HV.int .i64 p0.1, HV.int .i64 p0.2.1, slE eFromLabelTo p0.2.2] 0), (5, HV.fptr [HV.int .i64 p2] 0), (9, HV.ptr 108009 v8 0), (31, slE eInt p1), (32, HV.int .i64 ((p1).length : Int)), (33, HV.int .i64 0)], [(108009, v8, .arr 1 31 [HV.v (.slice none 0 0)])]⟩) (le_q rfl rfl) ?_
  clear hK K
  refine AW.lpX h (by first | exact up_then | exact up_to) (S := Int × (List Int)) (V := Nat) (fun a v => ⟨[(3, HV.fptr [HV.int .i64 p0.1, HV.int .i64 p0.2.1, slE eFromLabelTo p0.2.2] 0), (5, HV.fptr [HV.int .i64 p2] 0), (9, HV.ptr 108009 v8 0), (31, slE eInt p1), (32, HV.int .i64 ((p1).length : Int)), (33, HV.int .i64 a.1)], [(108009, v8, .arr 1 31 [HV.ar 108050 v eInt.k 0 ((a.2).length)]), (108050, v, .arr eInt.k 3 (eInt.E a.2))]⟩) ?_ (X := (List Int)) (W := Nat) (fun a v => ⟨[(9, HV.ptr 108009 v8 0)], [(108009, v8, .arr 1 31 [HV.ar 108050 v eInt.k 0 ((a).length)]), (108050, v, .arr eInt.k 3 (eInt.E a))]⟩) (fun a31 w32 h => ?_) (fun a9 w10 st11 h => ?_)
  ·refine to_bind (to_ownC 108050 108009 v8 1 0 eInt.k 3 31 rfl rfl (by decide) fun v30 => ?_)
   exact to_le (s' := ⟨[(3, HV.fptr [HV.int .i64 p0.1, HV.int .i64 p0.2.1, slE eFromLabelTo p0.2.2] 0), (5, HV.fptr [HV.int .i64 p2] 0), (9, HV.ptr 108009 v8 0), (31, slE eInt p1), (32, HV.int .i64 ((p1).length : Int)), (33, HV.int .i64 0)], [(108009, v8, .arr 1 31 [HV.ar 108050 v30 eInt.k 0 ((([] : List Int)).length)]), (108050, v30, .arr eInt.k 3 (eInt.E ([] : List Int)))]⟩) (AS.le_of ⟨rfl, rfl, rfl, rfl, rfl, rfl, trivial⟩ ⟨hle rfl (by first | rfl | simp only [List.length_set, sortI_len, sortS_len]), rfl, trivial⟩) ⟨v30, rfl⟩
  ·refine AW.rgs rfl fun K hK => ?_
   refine bv rfl (v_loadP ty31 rfl rfl (l_lit rfl rfl)) ?_
   obtain ⟨h33, h⟩ := ifN h
   refine b_op rfl (o_sortI c_sortI (l := a31) rfl rfl rfl rfl h33 ?_)
   refine b_fin hK (s' := ⟨[(9, HV.ptr 108009 v8 0)], [(108009, v8, .arr 1 31 [HV.ar 108050 w32 eInt.k 0 ((sortI a31).length)]), (108050, w32, .arr eInt.k 3 (eInt.E (sortI a31)))]⟩) (AS.le_of ⟨rfl, trivial⟩ ⟨hle rfl (by first | rfl | simp only [List.length_set, sortI_len, sortS_len]), rfl, trivial⟩) ?_
   clear hK K
   refine AW.rgs rfl fun K hK => ?_
   refine bv rfl (v_loadP ty31 rfl rfl (l_lit rfl rfl)) ?_
   refine b_op rfl (o_callK (q := slE eInt (compact_ (sortI a31))) [(108009, v8, .arr 1 31 [HV.ar 108050 w32 eInt.k 0 ((sortI a31).length)])] rfl rfl rfl rfl (fun K hK => c_compactI (H' := [(108009, v8, .arr 1 31 [HV.ar 108050 w32 eInt.k 0 ((sortI a31).length)])]) (l := sortI a31) rfl rfl (leH_get ⟨rfl, trivial⟩) rfl hK) ?_)
   refine mv rfl rfl ?_
   refine mv rfl rfl ?_
   refine b_fin hK (s' := ⟨[(6, slE eInt (compact_ (sortI a31))), (7, HV.int .i64 0)], []⟩) (le_q rfl rfl) ?_
   clear hK K
   refine AW.ret ?_
   have h := Option.some.inj h
   subst h
   exact ret_pure (hs := [slE eInt (compact_ (sortI a31)), HV.int .i64 0]) (q := HV.tup [slE eInt (compact_ (sortI a31)), HV.int .i64 0]) (.inr rfl) (resT rfl (resT rfl rfl)) rfl ⟨(clean_slE fun _ _ => ⟨trivial, trivial⟩), trivial, trivial⟩
  refine AW.rgs rfl fun K hK => ?_
  refine bv rfl (v_bin rfl rfl b_lss) ?_
  refine b_fin hK (s' := ⟨[(3, HV.fptr [HV.int .i64 p0.1, HV.int .i64 p0.2.1, slE eFromLabelTo p0.2.2] 0), (5, HV.fptr [HV.int .i64 p2] 0), (9, HV.ptr 108009 v8 0), (31, slE eInt p1), (32, HV.int .i64 ((p1).length : Int)), (33, HV.int .i64 a9.1), (34, HV.bool (decide (a9.1 < ((p1).length : Int))))], [(108009, v8, .arr 1 31 [HV.ar 108050 w10 eInt.k 0 ((a9.2).length)]), (108050, w10, .arr eInt.k 3 (eInt.E a9.2))]⟩) (le_q rfl rfl) ?_
  clear hK K
  refine AW.cseq rfl (fun hc => ?_) (fun hc => ?_)
  ·have hc := of_decide_eq_true hc
   have h := ifT hc h
   refine AW.skip ?_
   refine AW.seq (AW.block ?_)
   refine AW.rgs rfl fun K hK => ?_
   obtain ⟨x13, h14, h⟩ := bS h
   refine bv rfl (v_idxF ty31 es31 rfl rfl (idx_lt h14)) ?_
   refine bv rfl (v_loadF ty3 rfl (l_cell eInt h14 (o := 0) rfl rfl)) ?_
   refine mv rfl rfl ?_
   refine b_fin hK (s' := ⟨[(3, HV.fptr [HV.int .i64 p0.1, HV.int .i64 p0.2.1, slE eFromLabelTo p0.2.2] 0), (5, HV.fptr [HV.int .i64 p2] 0), (9, HV.ptr 108009 v8 0), (11, HV.int .i64 x13), (31, slE eInt p1), (32, HV.int .i64 ((p1).length : Int)), (33, HV.int .i64 a9.1)], [(108009, v8, .arr 1 31 [HV.ar 108050 w10 eInt.k 0 ((a9.2).length)]), (108050, w10, .arr eInt.k 3 (eInt.E a9.2))]⟩) (le_q rfl rfl) ?_
   clear hK K
   refine AW.rgs rfl fun K hK => ?_
   refine bv rfl (v_loadF ty27 rfl (l_litA rfl (Nat.le_of_ble_eq_true rfl) rfl)) ?_
   refine mv rfl rfl ?_
   refine b_op rfl (o_call rfl rfl rfl rfl (ACallD.pure0 (w_graph_leaving p0 x13)) ?_)
   refine b_fin hK (s' := ⟨[(3, HV.fptr [HV.int .i64 p0.1, HV.int .i64 p0.2.1, slE eFromLabelTo p0.2.2] 0), (5, HV.fptr [HV.int .i64 p2] 0), (9, HV.ptr 108009 v8 0), (31, slE eInt p1), (32, HV.int .i64 ((p1).length : Int)), (33, HV.int .i64 a9.1), (39, HV.fn (.func 194) [] [HV.fptr [HV.int .i64 p0.1, HV.int .i64 p0.2.1, slE eFromLabelTo p0.2.2] 0, HV.fptr [HV.int .i64 x13] 0])], [(108009, v8, .arr 1 31 [HV.ar 108050 w10 eInt.k 0 ((a9.2).length)]), (108050, w10, .arr eInt.k 3 (eInt.E a9.2))]⟩) (le_q rfl rfl) ?_
   clear hK K
   refine AW.block ?_
   refine AW.to (to_le (s' := ⟨[(3, HV.fptr [HV.int .i64 p0.1, HV.int .i64 p0.2.1, slE eFromLabelTo p0.2.2] 0), (5, HV.fptr [HV.int .i64 p2] 0), (9, HV.ptr 108009 v8 0), (31, slE eInt p1), (32, HV.int .i64 ((p1).length : Int)), (33, HV.int .i64 a9.1), (39, HV.fn (.func 194) [] [HV.fptr [HV.int .i64 p0.1, HV.int .i64 p0.2.1, slE eFromLabelTo p0.2.2] 0, HV.fptr [HV.int .i64 x13] 0])], [(108009, v8, .arr 1 31 [HV.ar 108050 w10 eInt.k 0 ((a9.2).length)]), (108050, w10, .arr eInt.k 3 (eInt.E a9.2))]⟩) (le_q rfl rfl) ?_)
   obtain ⟨L15, h16, h⟩ := bS h
   refine AW.rangeY (c := .ret) 108900 (fun x => [HV.int .i64 x.1, HV.agg [HV.int .i64 x.2.1, HV.int .i64 x.2.2.1, HV.int .i64 x.2.2.2]]) h (by first | exact up_then | exact up_to) rfl (iy_graph_leaving h16) (S := (List Int)) (V := Nat) (fun a v => [(108009, v8, .arr 1 31 [HV.ar 108050 v eInt.k 0 ((a).length)]), (108050, v, .arr eInt.k 3 (eInt.E a))]) w10 (X := Unit) (W := Unit) (fun _ _ => []) (fun _ _ => rfl) (fun _ _ => rfl) rfl (fun _ => rfl) (fun a26 w27 h => ?_) (fun a28 w29 h => ?_) (fun Lo l22 v20 a17 x19 w18 st21 h => ?_)
   ·refine AW.rg rfl fun K hK => ?_
    refine bv rfl (v_bin rfl rfl b_add) ?_
    refine mv rfl rfl ?_
    refine b_nil (hK _ ?_)
    clear hK K
    exact to_le (s' := ⟨[(3, HV.fptr [HV.int .i64 p0.1, HV.int .i64 p0.2.1, slE eFromLabelTo p0.2.2] 0), (5, HV.fptr [HV.int .i64 p2] 0), (9, HV.ptr 108009 v8 0), (31, slE eInt p1), (32, HV.int .i64 ((p1).length : Int)), (33, HV.int .i64 (IntKind.wrap .i64 (a9.1 + 1)))], [(108009, v8, .arr 1 31 [HV.ar 108050 w27 eInt.k 0 ((a26).length)]), (108050, w27, .arr eInt.k 3 (eInt.E a26))]⟩) (AS.le_of ⟨rfl, rfl, rfl, rfl, rfl, rfl, trivial⟩ ⟨rfl, rfl, trivial⟩) ⟨(IntKind.wrap .i64 (a9.1 + 1), a26), w27, h, rfl⟩
   ·cases h
   refine AW.rg rfl fun K hK => ?_
   refine b_op rfl (o_alloc (fid := 108) (zs := [HV.int .i64 0, HV.int .i64 0, HV.int .i64 0]) 108013 rfl rfl ty128 rfl (fun v23 => ?_))
   refine b_op rfl (o_store (cs := [HV.int .i64 x19.2.1, HV.int .i64 x19.2.2.1, HV.int .i64 x19.2.2.2]) (zs := [HV.int .i64 x19.2.1, HV.int .i64 x19.2.2.1, HV.int .i64 x19.2.2.2]) rfl rfl rfl ty128 rfl rfl rfl rfl rfl ?_)
   refine b_nil (hK _ ?_)
   clear hK K
   refine ⟨rfl, rfl, ?_⟩
   refine AW.block ?_
   refine AW.rgs rfl fun K hK => ?_
   refine bv rfl (v_fieldAddrP fo128_1 rfl rfl) ?_
   refine bv rfl (v_loadP ty3 rfl rfl (l_lit rfl rfl)) ?_
   refine bv rfl (v_loadF ty3 rfl (l_lit rfl rfl)) ?_
   refine bv rfl (v_bin rfl rfl b_eql) ?_
   refine b_fin hK (s' := ⟨[(3, HV.fptr [HV.int .i64 p0.1, HV.int .i64 p0.2.1, slE eFromLabelTo p0.2.2] 0), (5, HV.fptr [HV.int .i64 p2] 0), (9, HV.ptr 108009 v8 0), (13, HV.ptr 108013 v23 0), (31, slE eInt p1), (32, HV.int .i64 ((p1).length : Int)), (33, HV.int .i64 a9.1), (41, HV.agg [HV.int .i64 x19.2.1, HV.int .i64 x19.2.2.1, HV.int .i64 x19.2.2.2]), (45, HV.bool (decide (x19.2.2.1 = p2)))], [(108900, v20, Lo .busy none), (108009, v8, .arr 1 31 [HV.ar 108050 w18 eInt.k 0 ((a17).length)]), (108050, w18, .arr eInt.k 3 (eInt.E a17)), (108013, v23, .arr 3 128 [HV.int .i64 x19.2.1, HV.int .i64 x19.2.2.1, HV.int .i64 x19.2.2.2])]⟩) (le_q rfl rfl) ?_
   clear hK K
   refine AW.cond rfl (fun hc => ?_) (fun hc => ?_)
   ·have hc := of_decide_eq_true hc
    have h := ifT hc h
    refine AW.rg rfl fun K hK => ?_
    refine bv rfl (v_loadP ty31 rfl rfl (l_lit rfl rfl)) ?_
    refine bv rfl (v_fieldAddrP fo128_2 rfl rfl) ?_
    refine bv rfl (v_loadP ty3 rfl rfl (l_lit rfl rfl)) ?_
    refine b_op rfl (o_bsl rfl rfl (as_of (cs := [HV.int .i64 x19.2.2.2]) ty31 ty3 rfl rfl rfl rfl rfl) ?_)
    obtain ⟨h25, h⟩ := ifN h
    refine b_op rfl (o_appE eInt (l := a17) (m := [x19.2.2.2]) rfl rfl ty31 ty31 ty3 rfl rfl rfl rfl rfl h25 (fun v24 => ?_))
    refine b_op rfl (o_store (cs := [HV.ar 108050 v24 eInt.k 0 ((a17 ++ [x19.2.2.2]).length)]) (zs := [HV.ar 108050 v24 eInt.k 0 ((a17 ++ [x19.2.2.2]).length)]) rfl rfl rfl ty31 rfl rfl rfl rfl rfl ?_)
    refine b_nil (hK _ ?_)
    clear hK K
    exact ⟨a17 ++ [x19.2.2.2], v24, h, (AS.le_of trivial ⟨rfl, rfl, rfl, trivial⟩)⟩
   have hc := of_decide_eq_false hc
   have h := ifF hc h
   refine AW.skip ?_
   exact ⟨a17, w18, h, (AS.le_of trivial ⟨rfl, rfl, rfl, trivial⟩)⟩
  have hc := of_decide_eq_false hc
  have h := ifF hc h
  refine AW.exit ?_
  exact to_le (s' := ⟨[(9, HV.ptr 108009 v8 0)], [(108009, v8, .arr 1 31 [HV.ar 108050 w10 eInt.k 0 ((a9.2).length)]), (108050, w10, .arr eInt.k 3 (eInt.E a9.2))]⟩) (AS.le_of ⟨rfl, trivial⟩ ⟨rfl, rfl, trivial⟩) ⟨a9.2, w10, h, rfl⟩
 refine AW.rg rfl fun K hK => ?_
 refine bv rfl (v_loadF ty3 rfl (l_lit rfl rfl)) ?_
 refine bv rfl (v_bin rfl rfl b_lss) ?_
 refine mv rfl rfl ?_
 by_cases hg34 : p2 < 0
 ·have h := ifT hg34 h
  refine b_F rfl rfl rfl rfl rfl (decide_eq_true hg34) ?_
  refine b_F rfl rfl rfl rfl rfl rfl ?_
  refine b_F rfl rfl rfl rfl rfl rfl ?_
  refine b_F rfl rfl rfl rfl rfl rfl ?_
  refine bv rfl (v_pickT rfl rfl rfl) ?_
  refine b_nil (hK _ ?_)
  clear hK K
  exact to_le (s' := ⟨[(1, slE eInt p1), (3, HV.fptr [HV.int .i64 p0.1, HV.int .i64 p0.2.1, slE eFromLabelTo p0.2.2] 0), (5, HV.fptr [HV.int .i64 p2] 0), (30, HV.bool true)], []⟩) (AS.le_of ⟨rfl, rfl, rfl, rfl, trivial⟩ trivial) ⟨true, (), h, rfl⟩
 have h := ifF hg34 h
 refine b_T rfl rfl rfl rfl (decide_eq_false hg34) (o_val rfl (v_loadF ty3 rfl (l_lit rfl rfl)) ?_)
 refine b_T rfl rfl rfl rfl rfl (o_val rfl (v_fieldAddrF fo27_0 rfl) ?_)
 refine b_T rfl rfl rfl rfl rfl (o_val rfl (v_loadF ty3 rfl (l_lit rfl rfl)) ?_)
 refine b_T rfl rfl rfl rfl rfl (o_val rfl (v_bin rfl rfl b_geq) ?_)
 refine bv rfl (v_pickF rfl rfl rfl) ?_
 refine b_nil (hK _ ?_)
 clear hK K
 exact to_le (s' := ⟨[(1, slE eInt p1), (3, HV.fptr [HV.int .i64 p0.1, HV.int .i64 p0.2.1, slE eFromLabelTo p0.2.2] 0), (5, HV.fptr [HV.int .i64 p2] 0), (30, HV.bool (decide (p0.1 ≤ p2)))], []⟩) (AS.le_of ⟨rfl, rfl, rfl, rfl, trivial⟩ trivial) ⟨decide (p0.1 ≤ p2), (), h, rfl⟩

end Go.AW

namespace Go.AW
open Go Go.Proofs
set_option linter.unusedVariables false
set_option maxHeartbeats 1600000 in
set_option maxRecDepth 100000 in
theorem w_language_step {p0 : TLabelsStatesEdges} {p1 : List (Int)} {p2 : Int} {r : (List (Int))} (h : m_language_step p0 p1 p2 = some r) : Pure Tryz.prog 111 [HV.agg [HV.int .i64 p0.1, HV.int .i64 p0.2.1, slE eFromLabelTo p0.2.2], slE eInt p1, HV.int .u8 p2] (· = slE eInt r) := by
 unfold m_language_step at h
 refine Pure.of_body Tryz.func111 rfl rfl (Nat.le_of_ble_eq_true rfl) fun hf => ?_
 unfold Tryz.f111
 dsimp only [enumS, Nat.reduceAdd]
 refine AW.rgs rfl fun K hK => ?_
 refine b_op rfl (o_box rfl rfl rfl ?_)
 refine mv rfl rfl ?_
 refine b_fin hK (s' := ⟨[(1, slE eInt p1), (2, HV.int .u8 p2), (3, HV.fptr [HV.int .i64 p0.1, HV.int .i64 p0.2.1, slE eFromLabelTo p0.2.2] 0)], []⟩) (le_q rfl rfl) ?_
 clear hK K
 refine AW.dgs 10 follows rfl rfl fun K hK => ?_
 refine sv rfl (v_loadF ty27 rfl (l_litA rfl (Nat.le_of_ble_eq_true rfl) rfl)) ?_
 refine sm rfl rfl ?_
 refine sm rfl rfl ?_
 obtain ⟨x1, h2, h⟩ := bS h
 refine s_op rfl rfl (ops_call rfl rfl rfl rfl (ACallD.pure0 (w_strings_IndexByte h2)) ?_)
 obtain ⟨x3, h4, h⟩ := bS h
 refine s_op rfl rfl (ops_call rfl rfl rfl rfl (ACallD.pure0 (w_graph_Step h4)) ?_)
 refine sm rfl rfl ?_
 refine sv rfl (v_extract rfl rfl) ?_
 refine sv rfl (v_extract rfl rfl) ?_
 refine sm rfl rfl ?_
 refine sm rfl rfl ?_
 refine s_nil ?_
 refine b_fin hK (s' := ⟨[(7, slE eInt x3.1)], []⟩) (le_q rfl rfl) ?_
 clear hK K
 refine AW.rgs rfl fun K hK => ?_
 refine mv rfl rfl ?_
 refine mv rfl rfl ?_
 refine b_fin hK (s' := ⟨[(6, slE eInt x3.1)], []⟩) (le_q rfl rfl) ?_
 clear hK K
 refine AW.ret ?_
 have h := Option.some.inj h
 subst h
 exact ret_pure (hs := [slE eInt x3.1]) (q := slE eInt x3.1) (.inr rfl) (resT rfl rfl) rfl (clean_slE fun _ _ => ⟨trivial, trivial⟩)

set_option maxHeartbeats 1600000 in
set_option maxRecDepth 100000 in
theorem w_language_ends {p0 : TLabelsStatesEdges} {p1 : List (Int)} {p2 : List UInt8} {r : (List (Int))} (h : m_language_ends p0 p1 p2 = some r) : Pure Tryz.prog 61 [HV.agg [HV.int .i64 p0.1, HV.int .i64 p0.2.1, slE eFromLabelTo p0.2.2], slE eInt p1, HV.str p2] (· = slE eInt r) := by
 unfold m_language_ends at h
 refine Pure.of_body Tryz.func61 rfl rfl (Nat.le_of_ble_eq_true rfl) fun hf => ?_
 unfold Tryz.f61
 dsimp only [enumS, Nat.reduceAdd]
 refine AW.rgs rfl fun K hK => ?_
 refine b_op rfl (o_box rfl rfl rfl ?_)
 refine mv rfl rfl ?_
 refine b_fin hK (s' := ⟨[(1, slE eInt p1), (2, HV.str p2), (3, HV.fptr [HV.int .i64 p0.1, HV.int .i64 p0.2.1, slE eFromLabelTo p0.2.2] 0)], []⟩) (le_q rfl rfl) ?_
 clear hK K
 refine AW.seq ?_
 refine AW.rgs rfl fun K hK => ?_
 refine mv rfl rfl ?_
 refine b_fin hK (s' := ⟨[(1, slE eInt p1), (2, HV.str p2), (3, HV.fptr [HV.int .i64 p0.1, HV.int .i64 p0.2.1, slE eFromLabelTo p0.2.2] 0), (7, HV.int .i64 0)], []⟩) (le_q rfl rfl) ?_
 clear hK K
 refine AW.lpX h (by first | exact up_then | exact up_to) (S := (List Int) × Int) (V := Unit) (fun a v => ⟨[(1, slE eInt a.1), (2, HV.str p2), (3, HV.fptr [HV.int .i64 p0.1, HV.int .i64 p0.2.1, slE eFromLabelTo p0.2.2] 0), (7, HV.int .i64 a.2)], []⟩) ?_ (X := (List Int)) (W := Unit) (fun a v => ⟨[(1, slE eInt a)], []⟩) (fun a13 w14 h => ?_) (fun a1 w2 st3 h => ?_)
 ·exact to_le (s' := ⟨[(1, slE eInt p1), (2, HV.str p2), (3, HV.fptr [HV.int .i64 p0.1, HV.int .i64 p0.2.1, slE eFromLabelTo p0.2.2] 0), (7, HV.int .i64 0)], []⟩) (AS.le_of ⟨rfl, rfl, rfl, rfl, trivial⟩ trivial) ⟨(), rfl⟩
 ·refine AW.rgs rfl fun K hK => ?_
  refine mv rfl rfl ?_
  refine mv rfl rfl ?_
  refine b_fin hK (s' := ⟨[(6, slE eInt a13)], []⟩) (le_q rfl rfl) ?_
  clear hK K
  refine AW.ret ?_
  have h := Option.some.inj h
  subst h
  exact ret_pure (hs := [slE eInt a13]) (q := slE eInt a13) (.inr rfl) (resT rfl rfl) rfl (clean_slE fun _ _ => ⟨trivial, trivial⟩)
 refine AW.seq ?_
 refine AW.seqJ h (S := Bool) (V := Unit) (fun a v => ⟨[(1, slE eInt a1.1), (2, HV.str p2), (3, HV.fptr [HV.int .i64 p0.1, HV.int .i64 p0.2.1, slE eFromLabelTo p0.2.2] 0), (7, HV.int .i64 a1.2), (16, HV.bool a)], []⟩) (fun a5 w6 h => ?_) (fun k7 h => ?_)
 ·refine AW.cond rfl (fun hc => ?_) (fun hc => ?_)
  ·have h := ifT hc h
   refine AW.skip ?_
   refine AW.seq (AW.block ?_)
   refine AW.dg 7 follows rfl rfl fun K hK => ?_
   refine sv rfl (v_loadF ty27 rfl (l_litA rfl (Nat.le_of_ble_eq_true rfl) rfl)) ?_
   refine sm rfl rfl ?_
   refine sm rfl rfl ?_
   refine sm rfl rfl ?_
   obtain ⟨x8, h9, h⟩ := bS h
   refine sv rfl (v_idxS ty9 rfl rfl h9) ?_
   obtain ⟨x10, h11, h⟩ := bS h
   refine s_op rfl rfl (ops_call rfl rfl rfl rfl (ACallD.pure0 (w_language_step h11)) ?_)
   refine sm rfl rfl ?_
   refine s_nil ?_
   refine b_fin hK (s' := ⟨[(1, slE eInt x10), (2, HV.str p2), (3, HV.fptr [HV.int .i64 p0.1, HV.int .i64 p0.2.1, slE eFromLabelTo p0.2.2] 0), (7, HV.int .i64 a1.2)], []⟩) (le_q rfl rfl) ?_
   clear hK K
   refine AW.rg rfl fun K hK => ?_
   refine mv rfl rfl ?_
   refine bv rfl (v_bin rfl rfl b_add) ?_
   refine mv rfl rfl ?_
   refine b_nil (hK _ ?_)
   clear hK K
   exact to_le (s' := ⟨[(1, slE eInt x10), (2, HV.str p2), (3, HV.fptr [HV.int .i64 p0.1, HV.int .i64 p0.2.1, slE eFromLabelTo p0.2.2] 0), (7, HV.int .i64 (IntKind.wrap .i64 (a1.2 + 1)))], []⟩) (AS.le_of ⟨rfl, rfl, rfl, rfl, trivial⟩ trivial) ⟨(x10, IntKind.wrap .i64 (a1.2 + 1)), (), h, rfl⟩
  have h := ifF (bF' hc) h
  refine AW.exit ?_
  exact to_le (s' := ⟨[(1, slE eInt a1.1)], []⟩) (AS.le_of ⟨rfl, trivial⟩ trivial) ⟨a1.1, (), h, rfl⟩
 refine AW.rg rfl fun K hK => ?_
 refine mv rfl rfl ?_
 refine mv rfl rfl ?_
 refine bv rfl (v_lenS rfl rfl ty9 rfl) ?_
 refine bv rfl (v_bin rfl rfl b_lss) ?_
 refine mv rfl rfl ?_
 by_cases hg12 : a1.2 < ((p2).length : Int)
 ·have h := ifT hg12 h
  refine b_T rfl rfl rfl rfl (decide_eq_true hg12) (o_val rfl (mv_val rfl rfl).2 ?_)
  refine b_T rfl rfl rfl rfl rfl (o_val rfl (v_lenF rfl rfl ty31 rfl) ?_)
  refine b_T rfl rfl rfl rfl rfl (o_val rfl (v_bin rfl rfl b_gtr) ?_)
  refine bv rfl (v_pickT rfl rfl rfl) ?_
  refine b_nil (hK _ ?_)
  clear hK K
  exact to_le (s' := ⟨[(1, slE eInt a1.1), (2, HV.str p2), (3, HV.fptr [HV.int .i64 p0.1, HV.int .i64 p0.2.1, slE eFromLabelTo p0.2.2] 0), (7, HV.int .i64 a1.2), (16, HV.bool (decide (0 < ((a1.1).length : Int))))], []⟩) (AS.le_of ⟨rfl, rfl, rfl, rfl, rfl, trivial⟩ trivial) ⟨decide (0 < ((a1.1).length : Int)), (), h, rfl⟩
 have h := ifF hg12 h
 refine b_F rfl rfl rfl rfl rfl (decide_eq_false hg12) ?_
 refine b_F rfl rfl rfl rfl rfl rfl ?_
 refine b_F rfl rfl rfl rfl rfl rfl ?_
 refine bv rfl (v_pickF rfl rfl rfl) ?_
 refine b_nil (hK _ ?_)
 clear hK K
 exact to_le (s' := ⟨[(1, slE eInt a1.1), (2, HV.str p2), (3, HV.fptr [HV.int .i64 p0.1, HV.int .i64 p0.2.1, slE eFromLabelTo p0.2.2] 0), (7, HV.int .i64 a1.2), (16, HV.bool false)], []⟩) (AS.le_of ⟨rfl, rfl, rfl, rfl, rfl, trivial⟩ trivial) ⟨false, (), h, rfl⟩

set_option maxHeartbeats 1600000 in
set_option maxRecDepth 100000 in
theorem w_language_states {p0 : TLabelsStatesEdges} {r : (List (Int))} (h : m_language_states p0 = some r) : Pure Tryz.prog 62 [HV.agg [HV.int .i64 p0.1, HV.int .i64 p0.2.1, slE eFromLabelTo p0.2.2]] (· = slE eInt r) := by
 unfold m_language_states at h
 refine Pure.of_body Tryz.func62 rfl rfl (Nat.le_of_ble_eq_true rfl) fun hf => ?_
 unfold Tryz.f62
 dsimp only [enumS, Nat.reduceAdd]
 refine AW.rgs rfl fun K hK => ?_
 refine b_op rfl (o_box rfl rfl rfl ?_)
 refine mv rfl rfl ?_
 refine b_fin hK (s' := ⟨[(1, HV.fptr [HV.int .i64 p0.1, HV.int .i64 p0.2.1, slE eFromLabelTo p0.2.2] 0)], []⟩) (le_q rfl rfl) ?_
 clear hK K
 refine AW.rgs rfl fun K hK => ?_
 refine bv rfl (v_fieldAddrF fo27_1 rfl) ?_
 refine bv rfl (v_loadF ty3 rfl (l_lit rfl rfl)) ?_
 obtain ⟨h2, h⟩ := ifN h
 refine b_op rfl (o_makeE (fid := 62) eInt (0 : Int) 62007 rfl rfl ty31 rfl rfl ty3 rfl rfl h2 (fun v1 => ?_))
 refine mv rfl rfl ?_
 refine b_fin hK (s' := ⟨[(3, HV.ar 62007 v1 eInt.k 0 ((List.replicate (p0.2.1).toNat (0 : Int)).length))], [(62007, v1, .arr eInt.k 3 (eInt.E (List.replicate (p0.2.1).toNat (0 : Int))))]⟩) (le_q rfl rfl) ?_
 clear hK K
 refine AW.seq ?_
 refine AW.rgs rfl fun K hK => ?_
 refine mv rfl rfl ?_
 refine bv rfl (v_lenA rfl rfl ty31 rfl rfl) ?_
 refine mv rfl rfl ?_
 refine b_fin hK (s' := ⟨[(3, HV.ar 62007 v1 eInt.k 0 ((List.replicate (p0.2.1).toNat (0 : Int)).length)), (9, HV.int .i64 (((List.replicate (p0.2.1).toNat (0 : Int)).length : Nat) : Int)), (10, HV.int .i64 0)], [(62007, v1, .arr eInt.k 3 (eInt.E (List.replicate (p0.2.1).toNat (0 : Int))))]⟩) (le_q rfl rfl) ?_
 clear hK K
 refine AW.lpX h (by first | exact up_then | exact up_to) (S := Int × (List Int)) (V := Unit) (fun a v => ⟨[(3, HV.ar 62007 v1 eInt.k 0 ((a.2).length)), (9, HV.int .i64 (((List.replicate (p0.2.1).toNat (0 : Int)).length : Nat) : Int)), (10, HV.int .i64 a.1)], [(62007, v1, .arr eInt.k 3 (eInt.E a.2))]⟩) ?_ (X := (List Int)) (W := Unit) (fun a v => ⟨[(3, HV.ar 62007 v1 eInt.k 0 ((a).length))], [(62007, v1, .arr eInt.k 3 (eInt.E a))]⟩) (fun a9 w10 h => ?_) (fun a3 w4 st5 h => ?_)
 ·exact to_le (s' := ⟨[(3, HV.ar 62007 v1 eInt.k 0 ((List.replicate (p0.2.1).toNat (0 : Int)).length)), (9, HV.int .i64 (((List.replicate (p0.2.1).toNat (0 : Int)).length : Nat) : Int)), (10, HV.int .i64 0)], [(62007, v1, .arr eInt.k 3 (eInt.E (List.replicate (p0.2.1).toNat (0 : Int))))]⟩) (AS.le_of ⟨rfl, rfl, rfl, trivial⟩ ⟨rfl, trivial⟩) ⟨(), rfl⟩
 ·refine AW.rgs rfl fun K hK => ?_
  refine mv rfl rfl ?_
  refine mv rfl rfl ?_
  refine b_fin hK (s' := ⟨[(2, HV.ar 62007 v1 eInt.k 0 ((a9).length))], [(62007, v1, .arr eInt.k 3 (eInt.E a9))]⟩) (le_q rfl rfl) ?_
  clear hK K
  refine AW.to (to_frz 2 [(62007, v1, .arr eInt.k 3 (eInt.E a9))] ⟨[(2, slE eInt a9)], []⟩ ⟨⟨_, rfl, frz_slE eInt (l := a9) rfl fun _ _ => rfl⟩, trivial⟩ trivial ⟨rfl, trivial⟩ ⟨rfl, trivial⟩ ?_)
  refine AW.ret ?_
  have h := Option.some.inj h
  subst h
  exact ret_pure (hs := [slE eInt a9]) (q := slE eInt a9) (.inr rfl) (resT rfl rfl) rfl (clean_slE fun _ _ => ⟨trivial, trivial⟩)
 refine AW.rgs rfl fun K hK => ?_
 refine bv rfl (v_bin rfl rfl b_lss) ?_
 refine b_fin hK (s' := ⟨[(3, HV.ar 62007 v1 eInt.k 0 ((a3.2).length)), (9, HV.int .i64 (((List.replicate (p0.2.1).toNat (0 : Int)).length : Nat) : Int)), (10, HV.int .i64 a3.1), (11, HV.bool (decide (a3.1 < (((List.replicate (p0.2.1).toNat (0 : Int)).length : Nat) : Int))))], [(62007, v1, .arr eInt.k 3 (eInt.E a3.2))]⟩) (le_q rfl rfl) ?_
 clear hK K
 refine AW.cseq rfl (fun hc => ?_) (fun hc => ?_)
 ·have hc := of_decide_eq_true hc
  have h := ifT hc h
  refine AW.skip ?_
  refine AW.seq (AW.block ?_)
  refine AW.rgs rfl fun K hK => ?_
  refine mv rfl rfl ?_
  refine mv rfl rfl ?_
  refine b_fin hK (s' := ⟨[(3, HV.ar 62007 v1 eInt.k 0 ((a3.2).length)), (4, HV.int .i64 a3.1), (9, HV.int .i64 (((List.replicate (p0.2.1).toNat (0 : Int)).length : Nat) : Int)), (10, HV.int .i64 a3.1)], [(62007, v1, .arr eInt.k 3 (eInt.E a3.2))]⟩) (le_q rfl rfl) ?_
  clear hK K
  refine AW.rg rfl fun K hK => ?_
  refine mv rfl rfl ?_
  refine mv rfl rfl ?_
  refine mv rfl rfl ?_
  obtain ⟨x7, h8, h⟩ := bS h
  refine bv rfl (v_idxA ty31 es31 rfl rfl (idx_lt h8) rfl) ?_
  refine b_op rfl (o_storeE eInt (l := a3.2) (j := a3.1) (v := a3.1) rfl rfl rfl ty3 rfl rfl rfl (idx_lt h8) ?_)
  refine b_fin hK (s' := ⟨[(3, HV.ar 62007 v1 eInt.k 0 (((a3.2).set (a3.1).toNat a3.1).length)), (9, HV.int .i64 (((List.replicate (p0.2.1).toNat (0 : Int)).length : Nat) : Int)), (10, HV.int .i64 a3.1)], [(62007, v1, .arr eInt.k 3 (eInt.E ((a3.2).set (a3.1).toNat a3.1)))]⟩) (AS.le_of ⟨arl (by first | rfl | simp only [List.length_set, sortI_len, sortS_len]), rfl, rfl, trivial⟩ ⟨rfl, trivial⟩) ?_
  clear hK K
  refine AW.rg rfl fun K hK => ?_
  refine bv rfl (v_bin rfl rfl b_add) ?_
  refine mv rfl rfl ?_
  refine b_nil (hK _ ?_)
  clear hK K
  exact to_le (s' := ⟨[(3, HV.ar 62007 v1 eInt.k 0 (((a3.2).set (a3.1).toNat a3.1).length)), (9, HV.int .i64 (((List.replicate (p0.2.1).toNat (0 : Int)).length : Nat) : Int)), (10, HV.int .i64 (IntKind.wrap .i64 (a3.1 + 1)))], [(62007, v1, .arr eInt.k 3 (eInt.E ((a3.2).set (a3.1).toNat a3.1)))]⟩) (AS.le_of ⟨rfl, rfl, rfl, trivial⟩ ⟨rfl, trivial⟩) ⟨(IntKind.wrap .i64 (a3.1 + 1), (a3.2).set (a3.1).toNat a3.1), (), h, rfl⟩
 have hc := of_decide_eq_false hc
 have h := ifF hc h
 refine AW.exit ?_
 exact to_le (s' := ⟨[(3, HV.ar 62007 v1 eInt.k 0 ((a3.2).length))], [(62007, v1, .arr eInt.k 3 (eInt.E a3.2))]⟩) (AS.le_of ⟨rfl, trivial⟩ ⟨rfl, trivial⟩) ⟨a3.2, (), h, rfl⟩

set_option maxHeartbeats 1600000 in
set_option maxRecDepth 100000 in
theorem w_language_Accepts {p0 : TLabelsStatesEdges} {p1 : List UInt8} {r : Bool × Int} (h : m_language_Accepts p0 p1 = some r) : Pure Tryz.prog 16 [HV.agg [HV.int .i64 p0.1, HV.int .i64 p0.2.1, slE eFromLabelTo p0.2.2], HV.str p1] (· = HV.tup [HV.bool r.1, HV.int .i64 r.2]) := by
 unfold m_language_Accepts at h
 refine Pure.of_body Tryz.func16 rfl rfl (Nat.le_of_ble_eq_true rfl) fun hf => ?_
 unfold Tryz.f16
 dsimp only [enumS, Nat.reduceAdd]
 refine AW.rgs rfl fun K hK => ?_
 refine b_op rfl (o_box rfl rfl rfl ?_)
 refine mv rfl rfl ?_
 refine mv rfl rfl ?_
 refine b_fin hK (s' := ⟨[(1, HV.str p1), (2, HV.fptr [HV.int .i64 p0.1, HV.int .i64 p0.2.1, slE eFromLabelTo p0.2.2] 0)], []⟩) (le_q rfl rfl) ?_
 clear hK K
 refine AW.seq ?_
 refine AW.rgs rfl fun K hK => ?_
 refine bv rfl (v_loadF ty27 rfl (l_litA rfl (Nat.le_of_ble_eq_true rfl) rfl)) ?_
 refine mv rfl rfl ?_
 obtain ⟨x1, h2, h⟩ := bS h
 refine b_op rfl (o_call rfl rfl rfl rfl (ACallD.pure0 (w_language_spells h2)) ?_)
 refine mv rfl rfl ?_
 refine b_fin hK (s' := ⟨[(1, HV.str p1), (2, HV.fptr [HV.int .i64 p0.1, HV.int .i64 p0.2.1, slE eFromLabelTo p0.2.2] 0), (6, HV.int .i64 x1)], []⟩) (le_q rfl rfl) ?_
 clear hK K
 refine AW.rgs rfl fun K hK => ?_
 refine mv rfl rfl ?_
 refine bv rfl (v_bin rfl rfl b_neq) ?_
 refine b_fin hK (s' := ⟨[(1, HV.str p1), (2, HV.fptr [HV.int .i64 p0.1, HV.int .i64 p0.2.1, slE eFromLabelTo p0.2.2] 0), (6, HV.int .i64 x1), (11, HV.bool (decide (x1 ≠ 0)))], []⟩) (le_q rfl rfl) ?_
 clear hK K
 refine AW.cond rfl (fun hc => ?_) (fun hc => ?_)
 ·have hc := of_decide_eq_true hc
  have h := ifT hc h
  refine AW.rgs rfl fun K hK => ?_
  refine mv rfl rfl ?_
  refine mv rfl rfl ?_
  refine mv rfl rfl ?_
  refine b_fin hK (s' := ⟨[(4, HV.bool false), (5, HV.int .i64 x1)], []⟩) (le_q rfl rfl) ?_
  clear hK K
  refine AW.ret ?_
  have h := Option.some.inj h
  subst h
  exact ret_pure (hs := [HV.bool false, HV.int .i64 x1]) (q := HV.tup [HV.bool false, HV.int .i64 x1]) (.inr rfl) (resT rfl (resT rfl rfl)) rfl ⟨trivial, trivial, trivial⟩
 have hc := of_decide_eq_false hc
 have h := ifF hc h
 refine AW.skip ?_
 refine AW.dgs 9 follows rfl rfl fun K hK => ?_
 refine sv rfl (v_loadF ty27 rfl (l_litA rfl (Nat.le_of_ble_eq_true rfl) rfl)) ?_
 refine sv rfl (v_loadF ty27 rfl (l_litA rfl (Nat.le_of_ble_eq_true rfl) rfl)) ?_
 obtain ⟨x3, h4, h⟩ := bS h
 refine s_op rfl rfl (ops_call rfl rfl rfl rfl (ACallD.pure0 (w_language_states h4)) ?_)
 refine sm rfl rfl ?_
 obtain ⟨x5, h6, h⟩ := bS h
 refine s_op rfl rfl (ops_call rfl rfl rfl rfl (ACallD.pure0 (w_language_ends h6)) ?_)
 refine sv rfl (v_lenF rfl rfl ty31 rfl) ?_
 refine sv rfl (v_bin rfl rfl b_gtr) ?_
 refine sm rfl rfl ?_
 refine sm rfl rfl ?_
 refine s_nil ?_
 refine b_fin hK (s' := ⟨[(4, HV.bool (decide (0 < ((x5).length : Int)))), (5, HV.int .i64 0)], []⟩) (le_q rfl rfl) ?_
 clear hK K
 refine AW.ret ?_
 have h := Option.some.inj h
 subst h
 exact ret_pure (hs := [HV.bool (decide (0 < ((x5).length : Int))), HV.int .i64 0]) (q := HV.tup [HV.bool (decide (0 < ((x5).length : Int))), HV.int .i64 0]) (.inr rfl) (resT rfl (resT rfl rfl)) rfl ⟨trivial, trivial, trivial⟩

set_option maxHeartbeats 1600000 in
set_option maxRecDepth 100000 in
theorem w_merging_accepts {p0 : TLabelsStatesEdges} {p1 : List UInt8} {r : Bool} (h : m_merging_accepts p0 p1 = some r) : Pure Tryz.prog 72 [HV.agg [HV.int .i64 p0.1, HV.int .i64 p0.2.1, slE eFromLabelTo p0.2.2], HV.str p1] (· = HV.bool r) := by
 unfold m_merging_accepts at h
 refine Pure.of_body Tryz.func72 rfl rfl (Nat.le_of_ble_eq_true rfl) fun hf => ?_
 unfold Tryz.f72
 dsimp only [enumS, Nat.reduceAdd]
 refine AW.rgs rfl fun K hK => ?_
 refine b_op rfl (o_box rfl rfl rfl ?_)
 refine mv rfl rfl ?_
 refine b_fin hK (s' := ⟨[(1, HV.str p1), (2, HV.fptr [HV.int .i64 p0.1, HV.int .i64 p0.2.1, slE eFromLabelTo p0.2.2] 0)], []⟩) (le_q rfl rfl) ?_
 clear hK K
 refine AW.rgs rfl fun K hK => ?_
 refine bv rfl (v_loadF ty27 rfl (l_litA rfl (Nat.le_of_ble_eq_true rfl) rfl)) ?_
 refine mv rfl rfl ?_
 obtain ⟨x1, h2, h⟩ := bS h
 refine b_op rfl (o_call rfl rfl rfl rfl (ACallD.pure0 (w_language_Accepts h2)) ?_)
 refine mv rfl rfl ?_
 refine bv rfl (v_extract rfl rfl) ?_
 refine bv rfl (v_extract rfl rfl) ?_
 refine mv rfl rfl ?_
 refine mv rfl rfl ?_
 refine b_fin hK (s' := ⟨[(5, HV.bool x1.1), (6, HV.int .i64 x1.2)], []⟩) (le_q rfl rfl) ?_
 clear hK K
 refine AW.seqJ h (S := Bool) (V := Unit) (fun a v => ⟨[(4, HV.bool a)], []⟩) (fun a3 w4 h => ?_) (fun k5 h => ?_)
 ·refine AW.ret ?_
  have h := Option.some.inj h
  subst h
  exact ret_pure (hs := [HV.bool a3]) (q := HV.bool a3) (.inr rfl) (resT rfl rfl) rfl trivial
 refine AW.rg rfl fun K hK => ?_
 refine mv rfl rfl ?_
 refine bv rfl (v_bin rfl rfl b_eql) ?_
 refine mv rfl rfl ?_
 by_cases hg6 : x1.2 = 0
 ·have h := ifT hg6 h
  refine b_T rfl rfl rfl rfl (decide_eq_true hg6) (o_val rfl (mv_val rfl rfl).2 ?_)
  refine bv rfl (v_pickT rfl rfl rfl) ?_
  refine mv rfl rfl ?_
  refine b_nil (hK _ ?_)
  clear hK K
  exact to_le (s' := ⟨[(4, HV.bool x1.1)], []⟩) (AS.le_of ⟨rfl, trivial⟩ trivial) ⟨x1.1, (), h, rfl⟩
 have h := ifF hg6 h
 refine b_F rfl rfl rfl rfl rfl (decide_eq_false hg6) ?_
 refine bv rfl (v_pickF rfl rfl rfl) ?_
 refine mv rfl rfl ?_
 refine b_nil (hK _ ?_)
 clear hK K
 exact to_le (s' := ⟨[(4, HV.bool false)], []⟩) (AS.le_of ⟨rfl, trivial⟩ trivial) ⟨false, (), h, rfl⟩

set_option maxHeartbeats 1600000 in
set_option maxRecDepth 100000 in
theorem w_merging_Check_1 {p0 : List UInt8} {c0 : TLabelsStatesEdges} {r : Bool} (h : m_merging_Check_1 p0 c0 = some r) : Pure Tryz.prog 85 [HV.str p0, HV.fptr [HV.int .i64 c0.1, HV.int .i64 c0.2.1, slE eFromLabelTo c0.2.2] 0] (· = HV.bool r) := by
 unfold m_merging_Check_1 at h
 refine Pure.of_body Tryz.func85 rfl rfl (Nat.le_of_ble_eq_true rfl) fun hf => ?_
 unfold Tryz.f85
 dsimp only [enumS, Nat.reduceAdd]
 refine AW.rgs rfl fun K hK => ?_
 refine mv rfl rfl ?_
 refine b_fin hK (s' := ⟨[(0, HV.str p0), (1, HV.fptr [HV.int .i64 c0.1, HV.int .i64 c0.2.1, slE eFromLabelTo c0.2.2] 0)], []⟩) (le_q rfl rfl) ?_
 clear hK K
 refine AW.rgs rfl fun K hK => ?_
 refine bv rfl (v_loadF ty27 rfl (l_litA rfl (Nat.le_of_ble_eq_true rfl) rfl)) ?_
 refine mv rfl rfl ?_
 obtain ⟨x1, h2, h⟩ := bS h
 refine b_op rfl (o_call rfl rfl rfl rfl (ACallD.pure0 (w_merging_accepts h2)) ?_)
 refine bv rfl (v_not rfl) ?_
 refine mv rfl rfl ?_
 refine b_fin hK (s' := ⟨[(3, HV.bool (!x1))], []⟩) (le_q rfl rfl) ?_
 clear hK K
 refine AW.ret ?_
 have h := Option.some.inj h
 subst h
 exact ret_pure (hs := [HV.bool (!x1)]) (q := HV.bool (!x1)) (.inr rfl) (resT rfl rfl) rfl trivial

set_option maxHeartbeats 1600000 in
set_option maxRecDepth 100000 in
theorem w_merging_joins_1 {p0 : List UInt8} {c0 : TLabelsStatesEdges} {c1 : List UInt8} {c2 : List UInt8} {r : Bool} (h : m_merging_joins_1 p0 c0 c1 c2 = some r) : Pure Tryz.prog 136 [HV.str p0, HV.fptr [HV.int .i64 c0.1, HV.int .i64 c0.2.1, slE eFromLabelTo c0.2.2] 0, HV.fptr [HV.str c1] 0, HV.fptr [HV.str c2] 0] (· = HV.bool r) := by
 unfold m_merging_joins_1 at h
 refine Pure.of_body Tryz.func136 rfl rfl (Nat.le_of_ble_eq_true rfl) fun hf => ?_
 unfold Tryz.f136
 dsimp only [enumS, Nat.reduceAdd]
 refine AW.rgs rfl fun K hK => ?_
 refine mv rfl rfl ?_
 refine b_fin hK (s' := ⟨[(0, HV.str p0), (1, HV.fptr [HV.int .i64 c0.1, HV.int .i64 c0.2.1, slE eFromLabelTo c0.2.2] 0), (2, HV.fptr [HV.str c1] 0), (3, HV.fptr [HV.str c2] 0)], []⟩) (le_q rfl rfl) ?_
 clear hK K
 refine AW.rgs rfl fun K hK => ?_
 refine bv rfl (v_loadF ty27 rfl (l_litA rfl (Nat.le_of_ble_eq_true rfl) rfl)) ?_
 refine bv rfl (v_loadF ty9 rfl (l_lit rfl rfl)) ?_
 refine mv rfl rfl ?_
 obtain ⟨h1, h⟩ := ifN h
 refine bv rfl (v_bin rfl rfl (b_sadd h1)) ?_
 refine bv rfl (v_loadF ty9 rfl (l_lit rfl rfl)) ?_
 obtain ⟨h2, h⟩ := ifN h
 refine bv rfl (v_bin rfl rfl (b_sadd h2)) ?_
 obtain ⟨x3, h4, h⟩ := bS h
 refine b_op rfl (o_call rfl rfl rfl rfl (ACallD.pure0 (w_merging_accepts h4)) ?_)
 refine mv rfl rfl ?_
 refine b_fin hK (s' := ⟨[(5, HV.bool x3)], []⟩) (le_q rfl rfl) ?_
 clear hK K
 refine AW.ret ?_
 have h := Option.some.inj h
 subst h
 exact ret_pure (hs := [HV.bool x3]) (q := HV.bool x3) (.inr rfl) (resT rfl rfl) rfl trivial

set_option maxHeartbeats 1600000 in
set_option maxRecDepth 100000 in
theorem w_merging_joins {p0 : TLabelsStatesEdges} {p1 : List (List UInt8)} {p2 : List UInt8} {p3 : List UInt8} {r : Bool} (h : m_merging_joins p0 p1 p2 p3 = some r) : Pure Tryz.prog 86 [HV.agg [HV.int .i64 p0.1, HV.int .i64 p0.2.1, slE eFromLabelTo p0.2.2], slE eStr p1, HV.str p2, HV.str p3] (· = HV.bool r) := by
 unfold m_merging_joins at h
 refine Pure.of_body Tryz.func86 rfl rfl (Nat.le_of_ble_eq_true rfl) fun hf => ?_
 unfold Tryz.f86
 dsimp only [enumS, Nat.reduceAdd]
 refine AW.rgs rfl fun K hK => ?_
 refine b_op rfl (o_box rfl rfl rfl ?_)
 refine b_op rfl (o_box rfl rfl rfl ?_)
 refine b_op rfl (o_box rfl rfl rfl ?_)
 refine mv rfl rfl ?_
 refine b_fin hK (s' := ⟨[(1, slE eStr p1), (4, HV.fptr [HV.int .i64 p0.1, HV.int .i64 p0.2.1, slE eFromLabelTo p0.2.2] 0), (6, HV.fptr [HV.str p2] 0), (7, HV.fptr [HV.str p3] 0)], []⟩) (le_q rfl rfl) ?_
 clear hK K
 refine AW.rgs rfl fun K hK => ?_
 refine mv rfl rfl ?_
 refine bv rfl (v_func rfl rfl) ?_
 obtain ⟨x1, h2, h⟩ := bS h
 refine b_op rfl (o_call rfl rfl rfl rfl (ACallD.pure0 (w_slices_ContainsFunc_Lstring_stringG h2 (fun _ _ h => w_merging_joins_1 h))) ?_)
 refine mv rfl rfl ?_
 refine b_fin hK (s' := ⟨[(8, HV.bool x1)], []⟩) (le_q rfl rfl) ?_
 clear hK K
 refine AW.ret ?_
 have h := Option.some.inj h
 subst h
 exact ret_pure (hs := [HV.bool x1]) (q := HV.bool x1) (.inr rfl) (resT rfl rfl) rfl trivial

set_option maxHeartbeats 1600000 in
set_option maxRecDepth 100000 in
theorem w_merging_Check {p0 : TWordsMerges} {p1 : TLabelsStatesEdges} {r : Int} (h : m_merging_Check p0 p1 = some r) : Pure Tryz.prog 35 [HV.agg [slE eStr p0.1, slE eStr p0.2], HV.agg [HV.int .i64 p1.1, HV.int .i64 p1.2.1, slE eFromLabelTo p1.2.2]] (· = HV.int .i64 r) := by
 unfold m_merging_Check at h
 refine Pure.of_body Tryz.func35 rfl rfl (Nat.le_of_ble_eq_true rfl) fun hf => ?_
 unfold Tryz.f35
 dsimp only [enumS, Nat.reduceAdd]
 refine AW.rgs rfl fun K hK => ?_
 refine b_op rfl (o_box rfl rfl rfl ?_)
 refine b_op rfl (o_box rfl rfl rfl ?_)
 refine mv rfl rfl ?_
 refine b_fin hK (s' := ⟨[(2, HV.fptr [slE eStr p0.1, slE eStr p0.2] 0), (3, HV.fptr [HV.int .i64 p1.1, HV.int .i64 p1.2.1, slE eFromLabelTo p1.2.2] 0)], []⟩) (le_q rfl rfl) ?_
 clear hK K
 refine AW.seq ?_
 refine AW.rgs rfl fun K hK => ?_
 refine bv rfl (v_loadF ty27 rfl (l_litA rfl (Nat.le_of_ble_eq_true rfl) rfl)) ?_
 obtain ⟨x1, h2, h⟩ := bS h
 refine b_op rfl (o_call rfl rfl rfl rfl (ACallD.pure0 (w_graph_Check h2)) ?_)
 refine bv rfl (v_bin rfl rfl b_neq) ?_
 refine b_fin hK (s' := ⟨[(2, HV.fptr [slE eStr p0.1, slE eStr p0.2] 0), (3, HV.fptr [HV.int .i64 p1.1, HV.int .i64 p1.2.1, slE eFromLabelTo p1.2.2] 0), (12, HV.bool (decide (x1 ≠ 0)))], []⟩) (le_q rfl rfl) ?_
 clear hK K
 refine AW.cond rfl (fun hc => ?_) (fun hc => ?_)
 ·have hc := of_decide_eq_true hc
  have h := ifT hc h
  refine AW.rgs rfl fun K hK => ?_
  refine mv rfl rfl ?_
  refine b_fin hK (s' := ⟨[(4, HV.int .i64 1)], []⟩) (le_q rfl rfl) ?_
  clear hK K
  refine AW.ret ?_
  have h := Option.some.inj h
  subst h
  exact ret_pure (hs := [HV.int .i64 1]) (q := HV.int .i64 1) (.inr rfl) (resT rfl rfl) rfl trivial
 have hc := of_decide_eq_false hc
 have h := ifF hc h
 refine AW.skip ?_
 refine AW.seq ?_
 refine AW.rgs rfl fun K hK => ?_
 refine bv rfl (v_fieldAddrF fo27_0 rfl) ?_
 refine bv rfl (v_loadF ty3 rfl (l_lit rfl rfl)) ?_
 refine bv rfl (v_bin rfl rfl b_neq) ?_
 refine b_fin hK (s' := ⟨[(2, HV.fptr [slE eStr p0.1, slE eStr p0.2] 0), (3, HV.fptr [HV.int .i64 p1.1, HV.int .i64 p1.2.1, slE eFromLabelTo p1.2.2] 0), (15, HV.bool (decide (p1.1 ≠ 2)))], []⟩) (le_q rfl rfl) ?_
 clear hK K
 refine AW.cond rfl (fun hc => ?_) (fun hc => ?_)
 ·have hc := of_decide_eq_true hc
  have h := ifT hc h
  refine AW.rgs rfl fun K hK => ?_
  refine mv rfl rfl ?_
  refine b_fin hK (s' := ⟨[(4, HV.int .i64 12)], []⟩) (le_q rfl rfl) ?_
  clear hK K
  refine AW.ret ?_
  have h := Option.some.inj h
  subst h
  exact ret_pure (hs := [HV.int .i64 12]) (q := HV.int .i64 12) (.inr rfl) (resT rfl rfl) rfl trivial
 have hc := of_decide_eq_false hc
 have h := ifF hc h
 refine AW.skip ?_
 refine AW.seq ?_
 refine AW.rgs rfl fun K hK => ?_
 refine bv rfl (v_loadF ty24 rfl (l_litA rfl (Nat.le_of_ble_eq_true rfl) rfl)) ?_
 obtain ⟨x3, h4, h⟩ := bS h
 refine b_op rfl (o_call rfl rfl rfl rfl (ACallD.pure0 (w_merging_form h4)) ?_)
 refine mv rfl rfl ?_
 refine b_fin hK (s' := ⟨[(2, HV.fptr [slE eStr p0.1, slE eStr p0.2] 0), (3, HV.fptr [HV.int .i64 p1.1, HV.int .i64 p1.2.1, slE eFromLabelTo p1.2.2] 0), (5, HV.int .i64 x3)], []⟩) (le_q rfl rfl) ?_
 clear hK K
 refine AW.rgs rfl fun K hK => ?_
 refine mv rfl rfl ?_
 refine bv rfl (v_bin rfl rfl b_neq) ?_
 refine b_fin hK (s' := ⟨[(2, HV.fptr [slE eStr p0.1, slE eStr p0.2] 0), (3, HV.fptr [HV.int .i64 p1.1, HV.int .i64 p1.2.1, slE eFromLabelTo p1.2.2] 0), (5, HV.int .i64 x3), (19, HV.bool (decide (x3 ≠ 0)))], []⟩) (le_q rfl rfl) ?_
 clear hK K
 refine AW.cond rfl (fun hc => ?_) (fun hc => ?_)
 ·have hc := of_decide_eq_true hc
  have h := ifT hc h
  refine AW.rgs rfl fun K hK => ?_
  refine mv rfl rfl ?_
  refine mv rfl rfl ?_
  refine b_fin hK (s' := ⟨[(4, HV.int .i64 x3)], []⟩) (le_q rfl rfl) ?_
  clear hK K
  refine AW.ret ?_
  have h := Option.some.inj h
  subst h
  exact ret_pure (hs := [HV.int .i64 x3]) (q := HV.int .i64 x3) (.inr rfl) (resT rfl rfl) rfl trivial
 have hc := of_decide_eq_false hc
 have h := ifF hc h
 refine AW.skip ?_
 refine AW.seq ?_
 refine AW.rgs rfl fun K hK => ?_
 refine bv rfl (v_fieldAddrF fo24_0 rfl) ?_
 refine bv rfl (v_loadF ty22 rfl (l_lit rfl rfl)) ?_
 refine bv rfl (v_func rfl rfl) ?_
 obtain ⟨x5, h6, h⟩ := bS h
 refine b_op rfl (o_call rfl rfl rfl rfl (ACallD.pure0 (w_slices_ContainsFunc_Lstring_stringG h6 (fun _ _ h => w_merging_Check_1 h))) ?_)
 refine b_fin hK (s' := ⟨[(2, HV.fptr [slE eStr p0.1, slE eStr p0.2] 0), (3, HV.fptr [HV.int .i64 p1.1, HV.int .i64 p1.2.1, slE eFromLabelTo p1.2.2] 0), (24, HV.bool x5)], []⟩) (le_q rfl rfl) ?_
 clear hK K
 refine AW.cond rfl (fun hc => ?_) (fun hc => ?_)
 ·have h := ifT hc h
  refine AW.rgs rfl fun K hK => ?_
  refine mv rfl rfl ?_
  refine b_fin hK (s' := ⟨[(4, HV.int .i64 13)], []⟩) (le_q rfl rfl) ?_
  clear hK K
  refine AW.ret ?_
  have h := Option.some.inj h
  subst h
  exact ret_pure (hs := [HV.int .i64 13]) (q := HV.int .i64 13) (.inr rfl) (resT rfl rfl) rfl trivial
 have h := ifF (bF' hc) h
 refine AW.skip ?_
 refine AW.seq ?_
 refine AW.rgs rfl fun K hK => ?_
 refine bv rfl (v_fieldAddrF fo24_0 rfl) ?_
 refine bv rfl (v_loadF ty22 rfl (l_lit rfl rfl)) ?_
 refine bv rfl (v_lenF rfl rfl ty22 rfl) ?_
 refine mv rfl rfl ?_
 refine b_fin hK (s' := ⟨[(2, HV.fptr [slE eStr p0.1, slE eStr p0.2] 0), (3, HV.fptr [HV.int .i64 p1.1, HV.int .i64 p1.2.1, slE eFromLabelTo p1.2.2] 0), (26, slE eStr p0.1), (27, HV.int .i64 ((p0.1).length : Int)), (28, HV.int .i64 0)], []⟩) (le_q rfl rfl) ?_
 clear hK K
 refine AW.lpR h (by first | exact up_then | exact up_to) (S := Int) (V := Unit) (fun a v => ⟨[(2, HV.fptr [slE eStr p0.1, slE eStr p0.2] 0), (3, HV.fptr [HV.int .i64 p1.1, HV.int .i64 p1.2.1, slE eFromLabelTo p1.2.2] 0), (26, slE eStr p0.1), (27, HV.int .i64 ((p0.1).length : Int)), (28, HV.int .i64 a)], []⟩) ?_ (X := Unit) (W := Unit) (fun a v => ⟨[], []⟩) (fun a23 w24 h => ?_) (fun a7 w8 st9 h hr10=> ?_)
 ·exact to_le (s' := ⟨[(2, HV.fptr [slE eStr p0.1, slE eStr p0.2] 0), (3, HV.fptr [HV.int .i64 p1.1, HV.int .i64 p1.2.1, slE eFromLabelTo p1.2.2] 0), (26, slE eStr p0.1), (27, HV.int .i64 ((p0.1).length : Int)), (28, HV.int .i64 0)], []⟩) (AS.le_of ⟨rfl, rfl, rfl, rfl, rfl, trivial⟩ trivial) ⟨(), rfl⟩
 ·refine AW.rgs rfl fun K hK => ?_
  refine mv rfl rfl ?_
  refine b_fin hK (s' := ⟨[(4, HV.int .i64 0)], []⟩) (le_q rfl rfl) ?_
  clear hK K
  refine AW.ret ?_
  have h := Option.some.inj h
  subst h
  exact ret_pure (hs := [HV.int .i64 0]) (q := HV.int .i64 0) (.inr rfl) (resT rfl rfl) rfl trivial
 refine AW.rgs rfl fun K hK => ?_
 refine bv rfl (v_bin rfl rfl b_lss) ?_
 refine b_fin hK (s' := ⟨[(2, HV.fptr [slE eStr p0.1, slE eStr p0.2] 0), (3, HV.fptr [HV.int .i64 p1.1, HV.int .i64 p1.2.1, slE eFromLabelTo p1.2.2] 0), (26, slE eStr p0.1), (27, HV.int .i64 ((p0.1).length : Int)), (28, HV.int .i64 a7), (29, HV.bool (decide (a7 < ((p0.1).length : Int))))], []⟩) (le_q rfl rfl) ?_
 clear hK K
 refine AW.cseq rfl (fun hc => ?_) (fun hc => ?_)
 ·have hc := of_decide_eq_true hc
  have h := ifT hc h
  refine AW.skip ?_
  refine AW.seq (AW.block ?_)
  refine AW.rgs rfl fun K hK => ?_
  obtain ⟨x11, h12, h⟩ := bS h
  refine bv rfl (v_idxF ty22 es22 rfl rfl (idx_lt h12)) ?_
  refine bv rfl (v_loadF ty9 rfl (l_cell eStr h12 (o := 0) rfl rfl)) ?_
  refine mv rfl rfl ?_
  refine b_fin hK (s' := ⟨[(2, HV.fptr [slE eStr p0.1, slE eStr p0.2] 0), (3, HV.fptr [HV.int .i64 p1.1, HV.int .i64 p1.2.1, slE eFromLabelTo p1.2.2] 0), (7, HV.str x11), (26, slE eStr p0.1), (27, HV.int .i64 ((p0.1).length : Int)), (28, HV.int .i64 a7)], []⟩) (le_q rfl rfl) ?_
  clear hK K
  refine AW.rgs rfl fun K hK => ?_
  refine bv rfl (v_fieldAddrF fo24_0 rfl) ?_
  refine bv rfl (v_loadF ty22 rfl (l_lit rfl rfl)) ?_
  refine bv rfl (v_lenF rfl rfl ty22 rfl) ?_
  refine mv rfl rfl ?_
  refine b_fin hK (s' := ⟨[(2, HV.fptr [slE eStr p0.1, slE eStr p0.2] 0), (3, HV.fptr [HV.int .i64 p1.1, HV.int .i64 p1.2.1, slE eFromLabelTo p1.2.2] 0), (7, HV.str x11), (26, slE eStr p0.1), (27, HV.int .i64 ((p0.1).length : Int)), (28, HV.int .i64 a7), (33, slE eStr p0.1), (34, HV.int .i64 ((p0.1).length : Int)), (35, HV.int .i64 0)], []⟩) (le_q rfl rfl) ?_
  clear hK K
  refine AW.lpR h (by first | exact up_then | exact up_to) (S := Int) (V := Unit) (fun a v => ⟨[(2, HV.fptr [slE eStr p0.1, slE eStr p0.2] 0), (3, HV.fptr [HV.int .i64 p1.1, HV.int .i64 p1.2.1, slE eFromLabelTo p1.2.2] 0), (7, HV.str x11), (26, slE eStr p0.1), (27, HV.int .i64 ((p0.1).length : Int)), (28, HV.int .i64 a7), (33, slE eStr p0.1), (34, HV.int .i64 ((p0.1).length : Int)), (35, HV.int .i64 a)], []⟩) ?_ (X := Unit) (W := Unit) (fun a v => ⟨[(2, HV.fptr [slE eStr p0.1, slE eStr p0.2] 0), (3, HV.fptr [HV.int .i64 p1.1, HV.int .i64 p1.2.1, slE eFromLabelTo p1.2.2] 0), (26, slE eStr p0.1), (27, HV.int .i64 ((p0.1).length : Int)), (28, HV.int .i64 a7)], []⟩) (fun a21 w22 h => ?_) (fun a13 w14 st15 h hr16=> ?_)
  ·exact to_le (s' := ⟨[(2, HV.fptr [slE eStr p0.1, slE eStr p0.2] 0), (3, HV.fptr [HV.int .i64 p1.1, HV.int .i64 p1.2.1, slE eFromLabelTo p1.2.2] 0), (7, HV.str x11), (26, slE eStr p0.1), (27, HV.int .i64 ((p0.1).length : Int)), (28, HV.int .i64 a7), (33, slE eStr p0.1), (34, HV.int .i64 ((p0.1).length : Int)), (35, HV.int .i64 0)], []⟩) (AS.le_of ⟨rfl, rfl, rfl, rfl, rfl, rfl, rfl, rfl, rfl, trivial⟩ trivial) ⟨(), rfl⟩
  ·refine AW.rg rfl fun K hK => ?_
   refine bv rfl (v_bin rfl rfl b_add) ?_
   refine mv rfl rfl ?_
   refine b_nil (hK _ ?_)
   clear hK K
   exact to_le (s' := ⟨[(2, HV.fptr [slE eStr p0.1, slE eStr p0.2] 0), (3, HV.fptr [HV.int .i64 p1.1, HV.int .i64 p1.2.1, slE eFromLabelTo p1.2.2] 0), (26, slE eStr p0.1), (27, HV.int .i64 ((p0.1).length : Int)), (28, HV.int .i64 (IntKind.wrap .i64 (a7 + 1)))], []⟩) (AS.le_of ⟨rfl, rfl, rfl, rfl, rfl, trivial⟩ trivial) ⟨IntKind.wrap .i64 (a7 + 1), (), h, rfl⟩
  refine AW.rgs rfl fun K hK => ?_
  refine bv rfl (v_bin rfl rfl b_lss) ?_
  refine b_fin hK (s' := ⟨[(2, HV.fptr [slE eStr p0.1, slE eStr p0.2] 0), (3, HV.fptr [HV.int .i64 p1.1, HV.int .i64 p1.2.1, slE eFromLabelTo p1.2.2] 0), (7, HV.str x11), (26, slE eStr p0.1), (27, HV.int .i64 ((p0.1).length : Int)), (28, HV.int .i64 a7), (33, slE eStr p0.1), (34, HV.int .i64 ((p0.1).length : Int)), (35, HV.int .i64 a13), (36, HV.bool (decide (a13 < ((p0.1).length : Int))))], []⟩) (le_q rfl rfl) ?_
  clear hK K
  refine AW.cseq rfl (fun hc => ?_) (fun hc => ?_)
  ·have hc := of_decide_eq_true hc
   have h := ifT hc h
   refine AW.skip ?_
   refine AW.seq (AW.block ?_)
   refine AW.rgs rfl fun K hK => ?_
   obtain ⟨x17, h18, h⟩ := bS h
   refine bv rfl (v_idxF ty22 es22 rfl rfl (idx_lt h18)) ?_
   refine bv rfl (v_loadF ty9 rfl (l_cell eStr h18 (o := 0) rfl rfl)) ?_
   refine mv rfl rfl ?_
   refine b_fin hK (s' := ⟨[(2, HV.fptr [slE eStr p0.1, slE eStr p0.2] 0), (3, HV.fptr [HV.int .i64 p1.1, HV.int .i64 p1.2.1, slE eFromLabelTo p1.2.2] 0), (7, HV.str x11), (9, HV.str x17), (26, slE eStr p0.1), (27, HV.int .i64 ((p0.1).length : Int)), (28, HV.int .i64 a7), (33, slE eStr p0.1), (34, HV.int .i64 ((p0.1).length : Int)), (35, HV.int .i64 a13)], []⟩) (le_q rfl rfl) ?_
   clear hK K
   refine AW.rgs rfl fun K hK => ?_
   refine bv rfl (v_loadF ty27 rfl (l_litA rfl (Nat.le_of_ble_eq_true rfl) rfl)) ?_
   refine bv rfl (v_fieldAddrF fo24_1 rfl) ?_
   refine bv rfl (v_loadF ty22 rfl (l_lit rfl rfl)) ?_
   refine mv rfl rfl ?_
   refine mv rfl rfl ?_
   obtain ⟨x19, h20, h⟩ := bS h
   refine b_op rfl (o_call rfl rfl rfl rfl (ACallD.pure0 (w_merging_joins h20)) ?_)
   refine bv rfl (v_not rfl) ?_
   refine b_fin hK (s' := ⟨[(2, HV.fptr [slE eStr p0.1, slE eStr p0.2] 0), (3, HV.fptr [HV.int .i64 p1.1, HV.int .i64 p1.2.1, slE eFromLabelTo p1.2.2] 0), (7, HV.str x11), (26, slE eStr p0.1), (27, HV.int .i64 ((p0.1).length : Int)), (28, HV.int .i64 a7), (33, slE eStr p0.1), (34, HV.int .i64 ((p0.1).length : Int)), (35, HV.int .i64 a13), (45, HV.bool (!x19))], []⟩) (le_q rfl rfl) ?_
   clear hK K
   refine AW.cond rfl (fun hc => ?_) (fun hc => ?_)
   ·have h := ifT hc h
    refine AW.rgs rfl fun K hK => ?_
    refine mv rfl rfl ?_
    refine b_fin hK (s' := ⟨[(4, HV.int .i64 15)], []⟩) (le_q rfl rfl) ?_
    clear hK K
    have h := hr16 _ h
    have h := hr10 _ h
    refine AW.ret ?_
    have h := Option.some.inj h
    subst h
    exact ret_pure (hs := [HV.int .i64 15]) (q := HV.int .i64 15) (.inr rfl) (resT rfl rfl) rfl trivial
   have h := ifF (bF' hc) h
   refine AW.skip ?_
   refine AW.rg rfl fun K hK => ?_
   refine bv rfl (v_bin rfl rfl b_add) ?_
   refine mv rfl rfl ?_
   refine b_nil (hK _ ?_)
   clear hK K
   exact to_le (s' := ⟨[(2, HV.fptr [slE eStr p0.1, slE eStr p0.2] 0), (3, HV.fptr [HV.int .i64 p1.1, HV.int .i64 p1.2.1, slE eFromLabelTo p1.2.2] 0), (7, HV.str x11), (26, slE eStr p0.1), (27, HV.int .i64 ((p0.1).length : Int)), (28, HV.int .i64 a7), (33, slE eStr p0.1), (34, HV.int .i64 ((p0.1).length : Int)), (35, HV.int .i64 (IntKind.wrap .i64 (a13 + 1)))], []⟩) (AS.le_of ⟨rfl, rfl, rfl, rfl, rfl, rfl, rfl, rfl, rfl, trivial⟩ trivial) ⟨IntKind.wrap .i64 (a13 + 1), (), h, rfl⟩
  have hc := of_decide_eq_false hc
  have h := ifF hc h
  refine AW.exit ?_
  exact to_le (s' := ⟨[(2, HV.fptr [slE eStr p0.1, slE eStr p0.2] 0), (3, HV.fptr [HV.int .i64 p1.1, HV.int .i64 p1.2.1, slE eFromLabelTo p1.2.2] 0), (26, slE eStr p0.1), (27, HV.int .i64 ((p0.1).length : Int)), (28, HV.int .i64 a7)], []⟩) (AS.le_of ⟨rfl, rfl, rfl, rfl, rfl, trivial⟩ trivial) ⟨(), (), h, rfl⟩
 have hc := of_decide_eq_false hc
 have h := ifF hc h
 refine AW.exit ?_
 exact to_le (s' := ⟨[], []⟩) (AS.le_of trivial trivial) ⟨(), (), h, rfl⟩

set_option maxHeartbeats 1600000 in
set_option maxRecDepth 100000 in
theorem w_slices_IndexFunc_Lint_int {p0 : List (Int)} {p1 : Int → Option (Bool)} {g1 : FuncId} {z1 : List HV} {r : Int} (h : m_slices_IndexFunc_Lint_int p0 p1 = some r) (hf1 : ∀ a0 b, p1 a0 = some b → Pure Tryz.prog g1 ([HV.int .i64 a0] ++ z1) (· = HV.bool b)) : Pure Tryz.prog 156 [slE eInt p0, HV.fn (.func g1) [] z1] (· = HV.int .i64 r) := by
 unfold m_slices_IndexFunc_Lint_int at h
 refine Pure.of_body Tryz.func156 rfl rfl (Nat.le_of_ble_eq_true rfl) fun hf => ?_
 unfold Tryz.f156
 dsimp only [enumS, Nat.reduceAdd]
 refine AW.rgs rfl fun K hK => ?_
 refine mv rfl rfl ?_
 refine b_fin hK (s' := ⟨[(0, slE eInt p0), (1, HV.fn (.func g1) [] z1)], []⟩) (le_q rfl rfl) ?_
 clear hK K
 refine AW.seq ?_
 refine AW.rgs rfl fun K hK => ?_
 refine mv rfl rfl ?_
 refine bv rfl (v_lenF rfl rfl ty31 rfl) ?_
 refine mv rfl rfl ?_
 refine b_fin hK (s' := ⟨[(0, slE eInt p0), (1, HV.fn (.func g1) [] z1), (7, HV.int .i64 ((p0).length : Int)), (8, HV.int .i64 0)], []⟩) (le_q rfl rfl) ?_
 clear hK K
 refine AW.lpR h (by first | exact up_then | exact up_to) (S := Int) (V := Unit) (fun a v => ⟨[(0, slE eInt p0), (1, HV.fn (.func g1) [] z1), (7, HV.int .i64 ((p0).length : Int)), (8, HV.int .i64 a)], []⟩) ?_ (X := Unit) (W := Unit) (fun a v => ⟨[], []⟩) (fun a9 w10 h => ?_) (fun a1 w2 st3 h hr4=> ?_)
 ·exact to_le (s' := ⟨[(0, slE eInt p0), (1, HV.fn (.func g1) [] z1), (7, HV.int .i64 ((p0).length : Int)), (8, HV.int .i64 0)], []⟩) (AS.le_of ⟨rfl, rfl, rfl, rfl, trivial⟩ trivial) ⟨(), rfl⟩
 ·refine AW.rgs rfl fun K hK => ?_
  refine mv rfl rfl ?_
  refine b_fin hK (s' := ⟨[(4, HV.int .i64 (-1))], []⟩) (le_q rfl rfl) ?_
  clear hK K
  refine AW.ret ?_
  have h := Option.some.inj h
  subst h
  exact ret_pure (hs := [HV.int .i64 (-1)]) (q := HV.int .i64 (-1)) (.inr rfl) (resT rfl rfl) rfl trivial
 refine AW.rgs rfl fun K hK => ?_
 refine bv rfl (v_bin rfl rfl b_lss) ?_
 refine b_fin hK (s' := ⟨[(0, slE eInt p0), (1, HV.fn (.func g1) [] z1), (7, HV.int .i64 ((p0).length : Int)), (8, HV.int .i64 a1), (9, HV.bool (decide (a1 < ((p0).length : Int))))], []⟩) (le_q rfl rfl) ?_
 clear hK K
 refine AW.cseq rfl (fun hc => ?_) (fun hc => ?_)
 ·have hc := of_decide_eq_true hc
  have h := ifT hc h
  refine AW.skip ?_
  refine AW.seq (AW.block ?_)
  refine AW.rgs rfl fun K hK => ?_
  refine mv rfl rfl ?_
  refine mv rfl rfl ?_
  refine b_fin hK (s' := ⟨[(0, slE eInt p0), (1, HV.fn (.func g1) [] z1), (5, HV.int .i64 a1), (7, HV.int .i64 ((p0).length : Int)), (8, HV.int .i64 a1)], []⟩) (le_q rfl rfl) ?_
  clear hK K
  refine AW.rgs rfl fun K hK => ?_
  refine mv rfl rfl ?_
  refine mv rfl rfl ?_
  refine mv rfl rfl ?_
  obtain ⟨x5, h6, h⟩ := bS h
  refine bv rfl (v_idxF ty31 es31 rfl rfl (idx_lt h6)) ?_
  refine bv rfl (v_loadF ty3 rfl (l_cell eInt h6 (o := 0) rfl rfl)) ?_
  obtain ⟨x7, h8, h⟩ := bS h
  refine b_op rfl (o_call rfl rfl rfl rfl (ACallD.pure0 (hf1 _ _ h8)) ?_)
  refine b_fin hK (s' := ⟨[(0, slE eInt p0), (1, HV.fn (.func g1) [] z1), (5, HV.int .i64 a1), (7, HV.int .i64 ((p0).length : Int)), (8, HV.int .i64 a1), (16, HV.bool x7)], []⟩) (le_q rfl rfl) ?_
  clear hK K
  refine AW.cond rfl (fun hc => ?_) (fun hc => ?_)
  ·have h := ifT hc h
   refine AW.rgs rfl fun K hK => ?_
   refine mv rfl rfl ?_
   refine mv rfl rfl ?_
   refine b_fin hK (s' := ⟨[(4, HV.int .i64 a1)], []⟩) (le_q rfl rfl) ?_
   clear hK K
   have h := hr4 _ h
   refine AW.ret ?_
   have h := Option.some.inj h
   subst h
   exact ret_pure (hs := [HV.int .i64 a1]) (q := HV.int .i64 a1) (.inr rfl) (resT rfl rfl) rfl trivial
  have h := ifF (bF' hc) h
  refine AW.skip ?_
  refine AW.rg rfl fun K hK => ?_
  refine bv rfl (v_bin rfl rfl b_add) ?_
  refine mv rfl rfl ?_
  refine b_nil (hK _ ?_)
  clear hK K
  exact to_le (s' := ⟨[(0, slE eInt p0), (1, HV.fn (.func g1) [] z1), (7, HV.int .i64 ((p0).length : Int)), (8, HV.int .i64 (IntKind.wrap .i64 (a1 + 1)))], []⟩) (AS.le_of ⟨rfl, rfl, rfl, rfl, trivial⟩ trivial) ⟨IntKind.wrap .i64 (a1 + 1), (), h, rfl⟩
 have hc := of_decide_eq_false hc
 have h := ifF hc h
 refine AW.exit ?_
 exact to_le (s' := ⟨[], []⟩) (AS.le_of trivial trivial) ⟨(), (), h, rfl⟩

set_option maxHeartbeats 1600000 in
set_option maxRecDepth 100000 in
theorem w_slices_ContainsFunc_Lint_int {p0 : List (Int)} {p1 : Int → Option (Bool)} {g1 : FuncId} {z1 : List HV} {r : Bool} (h : m_slices_ContainsFunc_Lint_int p0 p1 = some r) (hf1 : ∀ a0 b, p1 a0 = some b → Pure Tryz.prog g1 ([HV.int .i64 a0] ++ z1) (· = HV.bool b)) : Pure Tryz.prog 105 [slE eInt p0, HV.fn (.func g1) [] z1] (· = HV.bool r) := by
 unfold m_slices_ContainsFunc_Lint_int at h
 refine Pure.of_body Tryz.func105 rfl rfl (Nat.le_of_ble_eq_true rfl) fun hf => ?_
 unfold Tryz.f105
 dsimp only [enumS, Nat.reduceAdd]
 refine AW.rgs rfl fun K hK => ?_
 refine mv rfl rfl ?_
 refine b_fin hK (s' := ⟨[(0, slE eInt p0), (1, HV.fn (.func g1) [] z1)], []⟩) (le_q rfl rfl) ?_
 clear hK K
 refine AW.rgs rfl fun K hK => ?_
 refine mv rfl rfl ?_
 refine mv rfl rfl ?_
 obtain ⟨x1, h2, h⟩ := bS h
 refine b_op rfl (o_call rfl rfl rfl rfl (ACallD.pure0 (w_slices_IndexFunc_Lint_int h2 hf1)) ?_)
 refine bv rfl (v_bin rfl rfl b_geq) ?_
 refine mv rfl rfl ?_
 refine b_fin hK (s' := ⟨[(4, HV.bool (decide (0 ≤ x1)))], []⟩) (le_q rfl rfl) ?_
 clear hK K
 refine AW.ret ?_
 have h := Option.some.inj h
 subst h
 exact ret_pure (hs := [HV.bool (decide (0 ≤ x1))]) (q := HV.bool (decide (0 ≤ x1))) (.inr rfl) (resT rfl rfl) rfl trivial

set_option maxHeartbeats 1600000 in
set_option maxRecDepth 100000 in
theorem w_merging_inputs_1 {p0 : Int} {c0 : TWordsMerges} {r : Bool} (h : m_merging_inputs_1 p0 c0 = some r) : Pure Tryz.prog 106 [HV.int .i64 p0, HV.fptr [slE eStr c0.1, slE eStr c0.2] 0] (· = HV.bool r) := by
 unfold m_merging_inputs_1 at h
 refine Pure.of_body Tryz.func106 rfl rfl (Nat.le_of_ble_eq_true rfl) fun hf => ?_
 unfold Tryz.f106
 dsimp only [enumS, Nat.reduceAdd]
 refine AW.rgs rfl fun K hK => ?_
 refine mv rfl rfl ?_
 refine b_fin hK (s' := ⟨[(0, HV.int .i64 p0), (1, HV.fptr [slE eStr c0.1, slE eStr c0.2] 0)], []⟩) (le_q rfl rfl) ?_
 clear hK K
 refine AW.seqJ h (S := Bool) (V := Unit) (fun a v => ⟨[(3, HV.bool a)], []⟩) (fun a1 w2 h => ?_) (fun k3 h => ?_)
 ·refine AW.ret ?_
  have h := Option.some.inj h
  subst h
  exact ret_pure (hs := [HV.bool a1]) (q := HV.bool a1) (.inr rfl) (resT rfl rfl) rfl trivial
 refine AW.rg rfl fun K hK => ?_
 refine mv rfl rfl ?_
 refine bv rfl (v_bin rfl rfl b_lss) ?_
 refine mv rfl rfl ?_
 by_cases hg4 : p0 < 0
 ·have h := ifT hg4 h
  refine b_F rfl rfl rfl rfl rfl (decide_eq_true hg4) ?_
  refine b_F rfl rfl rfl rfl rfl rfl ?_
  refine b_F rfl rfl rfl rfl rfl rfl ?_
  refine b_F rfl rfl rfl rfl rfl rfl ?_
  refine b_F rfl rfl rfl rfl rfl rfl ?_
  refine bv rfl (v_pickT rfl rfl rfl) ?_
  refine mv rfl rfl ?_
  refine b_nil (hK _ ?_)
  clear hK K
  exact to_le (s' := ⟨[(3, HV.bool true)], []⟩) (AS.le_of ⟨rfl, trivial⟩ trivial) ⟨true, (), h, rfl⟩
 have h := ifF hg4 h
 refine b_T rfl rfl rfl rfl (decide_eq_false hg4) (o_val rfl (mv_val rfl rfl).2 ?_)
 refine b_T rfl rfl rfl rfl rfl (o_val rfl (v_fieldAddrF fo24_0 rfl) ?_)
 refine b_T rfl rfl rfl rfl rfl (o_val rfl (v_loadF ty22 rfl (l_lit rfl rfl)) ?_)
 refine b_T rfl rfl rfl rfl rfl (o_val rfl (v_lenF rfl rfl ty22 rfl) ?_)
 refine b_T rfl rfl rfl rfl rfl (o_val rfl (v_bin rfl rfl b_geq) ?_)
 refine bv rfl (v_pickF rfl rfl rfl) ?_
 refine mv rfl rfl ?_
 refine b_nil (hK _ ?_)
 clear hK K
 exact to_le (s' := ⟨[(3, HV.bool (decide (((c0.1).length : Int) ≤ p0)))], []⟩) (AS.le_of ⟨rfl, trivial⟩ trivial) ⟨decide (((c0.1).length : Int) ≤ p0), (), h, rfl⟩

set_option maxHeartbeats 1600000 in
set_option maxRecDepth 100000 in
theorem w_merging_inputs {p0 : TWordsMerges} {p1 : TLabelsStatesEdges} {p2 : List (Int)} {r : Int} (h : m_merging_inputs p0 p1 p2 = some r) : Pure Tryz.prog 52 [HV.agg [slE eStr p0.1, slE eStr p0.2], HV.agg [HV.int .i64 p1.1, HV.int .i64 p1.2.1, slE eFromLabelTo p1.2.2], slE eInt p2] (· = HV.int .i64 r) := by
 unfold m_merging_inputs at h
 refine Pure.of_body Tryz.func52 rfl rfl (Nat.le_of_ble_eq_true rfl) fun hf => ?_
 unfold Tryz.f52
 dsimp only [enumS, Nat.reduceAdd]
 refine AW.rgs rfl fun K hK => ?_
 refine b_op rfl (o_box rfl rfl rfl ?_)
 refine b_op rfl (o_box rfl rfl rfl ?_)
 refine mv rfl rfl ?_
 refine b_fin hK (s' := ⟨[(2, slE eInt p2), (3, HV.fptr [slE eStr p0.1, slE eStr p0.2] 0), (4, HV.fptr [HV.int .i64 p1.1, HV.int .i64 p1.2.1, slE eFromLabelTo p1.2.2] 0)], []⟩) (le_q rfl rfl) ?_
 clear hK K
 refine AW.seq ?_
 refine AW.rgs rfl fun K hK => ?_
 refine bv rfl (v_loadF ty24 rfl (l_litA rfl (Nat.le_of_ble_eq_true rfl) rfl)) ?_
 refine bv rfl (v_loadF ty27 rfl (l_litA rfl (Nat.le_of_ble_eq_true rfl) rfl)) ?_
 obtain ⟨x1, h2, h⟩ := bS h
 refine b_op rfl (o_call rfl rfl rfl rfl (ACallD.pure0 (w_merging_Check h2)) ?_)
 refine bv rfl (v_bin rfl rfl b_neq) ?_
 refine b_fin hK (s' := ⟨[(2, slE eInt p2), (3, HV.fptr [slE eStr p0.1, slE eStr p0.2] 0), (10, HV.bool (decide (x1 ≠ 0)))], []⟩) (le_q rfl rfl) ?_
 clear hK K
 refine AW.cond rfl (fun hc => ?_) (fun hc => ?_)
 ·have hc := of_decide_eq_true hc
  have h := ifT hc h
  refine AW.rgs rfl fun K hK => ?_
  refine mv rfl rfl ?_
  refine b_fin hK (s' := ⟨[(6, HV.int .i64 1)], []⟩) (le_q rfl rfl) ?_
  clear hK K
  refine AW.ret ?_
  have h := Option.some.inj h
  subst h
  exact ret_pure (hs := [HV.int .i64 1]) (q := HV.int .i64 1) (.inr rfl) (resT rfl rfl) rfl trivial
 have hc := of_decide_eq_false hc
 have h := ifF hc h
 refine AW.skip ?_
 refine AW.seq ?_
 refine AW.rgs rfl fun K hK => ?_
 refine mv rfl rfl ?_
 refine bv rfl (v_func rfl rfl) ?_
 obtain ⟨x3, h4, h⟩ := bS h
 refine b_op rfl (o_call rfl rfl rfl rfl (ACallD.pure0 (w_slices_ContainsFunc_Lint_int h4 (fun _ _ h => w_merging_inputs_1 h))) ?_)
 refine b_fin hK (s' := ⟨[(13, HV.bool x3)], []⟩) (le_q rfl rfl) ?_
 clear hK K
 refine AW.cond rfl (fun hc => ?_) (fun hc => ?_)
 ·have h := ifT hc h
  refine AW.rgs rfl fun K hK => ?_
  refine mv rfl rfl ?_
  refine b_fin hK (s' := ⟨[(6, HV.int .i64 2)], []⟩) (le_q rfl rfl) ?_
  clear hK K
  refine AW.ret ?_
  have h := Option.some.inj h
  subst h
  exact ret_pure (hs := [HV.int .i64 2]) (q := HV.int .i64 2) (.inr rfl) (resT rfl rfl) rfl trivial
 have h := ifF (bF' hc) h
 refine AW.skip ?_
 refine AW.rgs rfl fun K hK => ?_
 refine mv rfl rfl ?_
 refine b_fin hK (s' := ⟨[(6, HV.int .i64 0)], []⟩) (le_q rfl rfl) ?_
 clear hK K
 refine AW.ret ?_
 have h := Option.some.inj h
 subst h
 exact ret_pure (hs := [HV.int .i64 0]) (q := HV.int .i64 0) (.inr rfl) (resT rfl rfl) rfl trivial

set_option maxHeartbeats 1600000 in
set_option maxRecDepth 100000 in
theorem w_runs_Disparity {p0 : List UInt8} {r : Int × Int} (h : m_runs_Disparity p0 = some r) : Pure Tryz.prog 63 [HV.str p0] (· = HV.tup [HV.int .i64 r.1, HV.int .i64 r.2]) := by
 unfold m_runs_Disparity at h
 refine Pure.of_body Tryz.func63 rfl rfl (Nat.le_of_ble_eq_true rfl) fun hf => ?_
 unfold Tryz.f63
 dsimp only [enumS, Nat.reduceAdd]
 refine AW.rgs rfl fun K hK => ?_
 refine mv rfl rfl ?_
 refine mv rfl rfl ?_
 refine b_fin hK (s' := ⟨[(0, HV.str p0)], []⟩) (le_q rfl rfl) ?_
 clear hK K
 refine AW.seq ?_
 refine AW.rgs rfl fun K hK => ?_
 refine mv rfl rfl ?_
 obtain ⟨x1, h2, h⟩ := bS h
 refine b_op rfl (o_call rfl rfl rfl rfl (ACallD.pure0 (w_word_Check h2)) ?_)
 refine mv rfl rfl ?_
 refine b_fin hK (s' := ⟨[(0, HV.str p0), (4, HV.int .i64 x1)], []⟩) (le_q rfl rfl) ?_
 clear hK K
 refine AW.rgs rfl fun K hK => ?_
 refine mv rfl rfl ?_
 refine bv rfl (v_bin rfl rfl b_neq) ?_
 refine b_fin hK (s' := ⟨[(0, HV.str p0), (4, HV.int .i64 x1), (8, HV.bool (decide (x1 ≠ 0)))], []⟩) (le_q rfl rfl) ?_
 clear hK K
 refine AW.cond rfl (fun hc => ?_) (fun hc => ?_)
 ·have hc := of_decide_eq_true hc
  have h := ifT hc h
  refine AW.rgs rfl fun K hK => ?_
  refine mv rfl rfl ?_
  refine mv rfl rfl ?_
  refine mv rfl rfl ?_
  refine b_fin hK (s' := ⟨[(2, HV.int .i64 0), (3, HV.int .i64 x1)], []⟩) (le_q rfl rfl) ?_
  clear hK K
  refine AW.ret ?_
  have h := Option.some.inj h
  subst h
  exact ret_pure (hs := [HV.int .i64 0, HV.int .i64 x1]) (q := HV.tup [HV.int .i64 0, HV.int .i64 x1]) (.inr rfl) (resT rfl (resT rfl rfl)) rfl ⟨trivial, trivial, trivial⟩
 have hc := of_decide_eq_false hc
 have h := ifF hc h
 refine AW.skip ?_
 refine AW.rgs rfl fun K hK => ?_
 refine mv rfl rfl ?_
 obtain ⟨x3, h4, h⟩ := bS h
 refine b_op rfl (o_call rfl rfl rfl rfl (ACallD.pure0 (w_strings_Count h4)) ?_)
 refine bv rfl (v_bin rfl rfl b_mul) ?_
 refine mv rfl rfl ?_
 refine bv rfl (v_lenS rfl rfl ty9 rfl) ?_
 refine bv rfl (v_bin rfl rfl b_sub) ?_
 refine mv rfl rfl ?_
 refine mv rfl rfl ?_
 refine b_fin hK (s' := ⟨[(2, HV.int .i64 (IntKind.wrap .i64 ((IntKind.wrap .i64 (2 * x3)) - ((p0).length : Int)))), (3, HV.int .i64 0)], []⟩) (le_q rfl rfl) ?_
 clear hK K
 refine AW.ret ?_
 have h := Option.some.inj h
 subst h
 exact ret_pure (hs := [HV.int .i64 (IntKind.wrap .i64 ((IntKind.wrap .i64 (2 * x3)) - ((p0).length : Int))), HV.int .i64 0]) (q := HV.tup [HV.int .i64 (IntKind.wrap .i64 ((IntKind.wrap .i64 (2 * x3)) - ((p0).length : Int))), HV.int .i64 0]) (.inr rfl) (resT rfl (resT rfl rfl)) rfl ⟨trivial, trivial, trivial⟩

set_option maxHeartbeats 1600000 in
set_option maxRecDepth 100000 in
theorem w_merging_weight {p0 : List UInt8} {r : Int} (h : m_merging_weight p0 = some r) : Pure Tryz.prog 55 [HV.str p0] (· = HV.int .i64 r) := by
 unfold m_merging_weight at h
 refine Pure.of_body Tryz.func55 rfl rfl (Nat.le_of_ble_eq_true rfl) fun hf => ?_
 unfold Tryz.f55
 dsimp only [enumS, Nat.reduceAdd]
 refine AW.rgs rfl fun K hK => ?_
 refine mv rfl rfl ?_
 refine b_fin hK (s' := ⟨[(0, HV.str p0)], []⟩) (le_q rfl rfl) ?_
 clear hK K
 refine AW.rgs rfl fun K hK => ?_
 refine mv rfl rfl ?_
 obtain ⟨x1, h2, h⟩ := bS h
 refine b_op rfl (o_call rfl rfl rfl rfl (ACallD.pure0 (w_runs_Disparity h2)) ?_)
 refine mv rfl rfl ?_
 refine bv rfl (v_extract rfl rfl) ?_
 refine bv rfl (v_extract rfl rfl) ?_
 refine mv rfl rfl ?_
 refine mv rfl rfl ?_
 refine b_fin hK (s' := ⟨[(3, HV.int .i64 x1.1)], []⟩) (le_q rfl rfl) ?_
 clear hK K
 refine AW.rgs rfl fun K hK => ?_
 refine mv rfl rfl ?_
 refine mv rfl rfl ?_
 refine b_fin hK (s' := ⟨[(2, HV.int .i64 x1.1)], []⟩) (le_q rfl rfl) ?_
 clear hK K
 refine AW.ret ?_
 have h := Option.some.inj h
 subst h
 exact ret_pure (hs := [HV.int .i64 x1.1]) (q := HV.int .i64 x1.1) (.inr rfl) (resT rfl rfl) rfl trivial

set_option maxHeartbeats 1600000 in
set_option maxRecDepth 100000 in
theorem w_merging_step {p0 : TLabelsStatesEdges} {p1 : List (Int)} {p2 : List UInt8} {r : (List (Int))} (h : m_merging_step p0 p1 p2 = some r) : Pure Tryz.prog 56 [HV.agg [HV.int .i64 p0.1, HV.int .i64 p0.2.1, slE eFromLabelTo p0.2.2], slE eInt p1, HV.str p2] (· = slE eInt r) := by
 unfold m_merging_step at h
 refine Pure.of_body Tryz.func56 rfl rfl (Nat.le_of_ble_eq_true rfl) fun hf => ?_
 unfold Tryz.f56
 dsimp only [enumS, Nat.reduceAdd]
 refine AW.rgs rfl fun K hK => ?_
 refine b_op rfl (o_box rfl rfl rfl ?_)
 refine mv rfl rfl ?_
 refine b_fin hK (s' := ⟨[(1, slE eInt p1), (2, HV.str p2), (3, HV.fptr [HV.int .i64 p0.1, HV.int .i64 p0.2.1, slE eFromLabelTo p0.2.2] 0)], []⟩) (le_q rfl rfl) ?_
 clear hK K
 refine AW.seq ?_
 refine AW.rgs rfl fun K hK => ?_
 refine mv rfl rfl ?_
 refine bv rfl (v_lenS rfl rfl ty9 rfl) ?_
 refine mv rfl rfl ?_
 refine b_fin hK (s' := ⟨[(1, slE eInt p1), (2, HV.str p2), (3, HV.fptr [HV.int .i64 p0.1, HV.int .i64 p0.2.1, slE eFromLabelTo p0.2.2] 0), (9, HV.int .i64 ((p2).length : Int)), (10, HV.int .i64 0)], []⟩) (le_q rfl rfl) ?_
 clear hK K
 refine AW.lpX h (by first | exact up_then | exact up_to) (S := (List Int) × Int) (V := Unit) (fun a v => ⟨[(1, slE eInt a.1), (2, HV.str p2), (3, HV.fptr [HV.int .i64 p0.1, HV.int .i64 p0.2.1, slE eFromLabelTo p0.2.2] 0), (9, HV.int .i64 ((p2).length : Int)), (10, HV.int .i64 a.2)], []⟩) ?_ (X := (List Int)) (W := Unit) (fun a v => ⟨[(1, slE eInt a)], []⟩) (fun a11 w12 h => ?_) (fun a1 w2 st3 h => ?_)
 ·exact to_le (s' := ⟨[(1, slE eInt p1), (2, HV.str p2), (3, HV.fptr [HV.int .i64 p0.1, HV.int .i64 p0.2.1, slE eFromLabelTo p0.2.2] 0), (9, HV.int .i64 ((p2).length : Int)), (10, HV.int .i64 0)], []⟩) (AS.le_of ⟨rfl, rfl, rfl, rfl, rfl, trivial⟩ trivial) ⟨(), rfl⟩
 ·refine AW.rgs rfl fun K hK => ?_
  refine mv rfl rfl ?_
  refine mv rfl rfl ?_
  refine b_fin hK (s' := ⟨[(6, slE eInt a11)], []⟩) (le_q rfl rfl) ?_
  clear hK K
  refine AW.ret ?_
  have h := Option.some.inj h
  subst h
  exact ret_pure (hs := [slE eInt a11]) (q := slE eInt a11) (.inr rfl) (resT rfl rfl) rfl (clean_slE fun _ _ => ⟨trivial, trivial⟩)
 refine AW.rgs rfl fun K hK => ?_
 refine bv rfl (v_bin rfl rfl b_lss) ?_
 refine b_fin hK (s' := ⟨[(1, slE eInt a1.1), (2, HV.str p2), (3, HV.fptr [HV.int .i64 p0.1, HV.int .i64 p0.2.1, slE eFromLabelTo p0.2.2] 0), (9, HV.int .i64 ((p2).length : Int)), (10, HV.int .i64 a1.2), (11, HV.bool (decide (a1.2 < ((p2).length : Int))))], []⟩) (le_q rfl rfl) ?_
 clear hK K
 refine AW.cseq rfl (fun hc => ?_) (fun hc => ?_)
 ·have hc := of_decide_eq_true hc
  have h := ifT hc h
  refine AW.skip ?_
  refine AW.seq (AW.block ?_)
  refine AW.rgs rfl fun K hK => ?_
  refine mv rfl rfl ?_
  refine mv rfl rfl ?_
  refine b_fin hK (s' := ⟨[(1, slE eInt a1.1), (2, HV.str p2), (3, HV.fptr [HV.int .i64 p0.1, HV.int .i64 p0.2.1, slE eFromLabelTo p0.2.2] 0), (7, HV.int .i64 a1.2), (9, HV.int .i64 ((p2).length : Int)), (10, HV.int .i64 a1.2)], []⟩) (le_q rfl rfl) ?_
  clear hK K
  refine AW.dg 11 follows rfl rfl fun K hK => ?_
  refine sv rfl (v_loadF ty27 rfl (l_litA rfl (Nat.le_of_ble_eq_true rfl) rfl)) ?_
  refine sm rfl rfl ?_
  refine sm rfl rfl ?_
  refine sm rfl rfl ?_
  obtain ⟨x5, h6, h⟩ := bS h
  refine sv rfl (v_idxS ty9 rfl rfl h6) ?_
  obtain ⟨x7, h8, h⟩ := bS h
  refine s_op rfl rfl (ops_call rfl rfl rfl rfl (ACallD.pure0 (w_strings_IndexByte h8)) ?_)
  obtain ⟨x9, h10, h⟩ := bS h
  refine s_op rfl rfl (ops_call rfl rfl rfl rfl (ACallD.pure0 (w_graph_Step h10)) ?_)
  refine sm rfl rfl ?_
  refine sv rfl (v_extract rfl rfl) ?_
  refine sv rfl (v_extract rfl rfl) ?_
  refine sm rfl rfl ?_
  refine s_nil ?_
  refine b_fin hK (s' := ⟨[(1, slE eInt x9.1), (2, HV.str p2), (3, HV.fptr [HV.int .i64 p0.1, HV.int .i64 p0.2.1, slE eFromLabelTo p0.2.2] 0), (9, HV.int .i64 ((p2).length : Int)), (10, HV.int .i64 a1.2)], []⟩) (le_q rfl rfl) ?_
  clear hK K
  refine AW.rg rfl fun K hK => ?_
  refine bv rfl (v_bin rfl rfl b_add) ?_
  refine mv rfl rfl ?_
  refine b_nil (hK _ ?_)
  clear hK K
  exact to_le (s' := ⟨[(1, slE eInt x9.1), (2, HV.str p2), (3, HV.fptr [HV.int .i64 p0.1, HV.int .i64 p0.2.1, slE eFromLabelTo p0.2.2] 0), (9, HV.int .i64 ((p2).length : Int)), (10, HV.int .i64 (IntKind.wrap .i64 (a1.2 + 1)))], []⟩) (AS.le_of ⟨rfl, rfl, rfl, rfl, rfl, trivial⟩ trivial) ⟨(x9.1, IntKind.wrap .i64 (a1.2 + 1)), (), h, rfl⟩
 have hc := of_decide_eq_false hc
 have h := ifF hc h
 refine AW.exit ?_
 exact to_le (s' := ⟨[(1, slE eInt a1.1)], []⟩) (AS.le_of ⟨rfl, trivial⟩ trivial) ⟨a1.1, (), h, rfl⟩

end Go.AW

namespace Go.AW
open Go Go.Proofs
set_option linter.unusedVariables false
end Go.AW

namespace Go.AW
open Go Go.Proofs
set_option linter.unusedVariables false
set_option maxHeartbeats 1600000 in
set_option maxRecDepth 100000 in
theorem w_merging_Encode {p0 : TWordsMerges} {p1 : TLabelsStatesEdges} {p2 : List (Int)} {r : (List UInt8) × Int} (h : m_merging_Encode p0 p1 p2 = some r) : Pure Tryz.prog 15 [HV.agg [slE eStr p0.1, slE eStr p0.2], HV.agg [HV.int .i64 p1.1, HV.int .i64 p1.2.1, slE eFromLabelTo p1.2.2], slE eInt p2] (· = HV.tup [HV.str r.1, HV.int .i64 r.2]) := by
 unfold m_merging_Encode at h
 refine Pure.of_body Tryz.func15 rfl rfl (Nat.le_of_ble_eq_true rfl) fun hf => ?_
 unfold Tryz.f15
 dsimp only [enumS, Nat.reduceAdd]
 refine AW.rgs rfl fun K hK => ?_
 refine b_op rfl (o_box rfl rfl rfl ?_)
 refine b_op rfl (o_box rfl rfl rfl ?_)
 refine mv rfl rfl ?_
 refine mv rfl rfl ?_
 refine b_fin hK (s' := ⟨[(2, slE eInt p2), (3, HV.fptr [slE eStr p0.1, slE eStr p0.2] 0), (4, HV.fptr [HV.int .i64 p1.1, HV.int .i64 p1.2.1, slE eFromLabelTo p1.2.2] 0)], []⟩) (le_q rfl rfl) ?_
 clear hK K
 refine AW.seq ?_
 refine AW.rgs rfl fun K hK => ?_
 refine bv rfl (v_loadF ty24 rfl (l_litA rfl (Nat.le_of_ble_eq_true rfl) rfl)) ?_
 refine bv rfl (v_loadF ty27 rfl (l_litA rfl (Nat.le_of_ble_eq_true rfl) rfl)) ?_
 refine mv rfl rfl ?_
 obtain ⟨x1, h2, h⟩ := bS h
 refine b_op rfl (o_call rfl rfl rfl rfl (ACallD.pure0 (w_merging_inputs h2)) ?_)
 refine mv rfl rfl ?_
 refine b_fin hK (s' := ⟨[(2, slE eInt p2), (3, HV.fptr [slE eStr p0.1, slE eStr p0.2] 0), (4, HV.fptr [HV.int .i64 p1.1, HV.int .i64 p1.2.1, slE eFromLabelTo p1.2.2] 0), (8, HV.int .i64 x1)], []⟩) (le_q rfl rfl) ?_
 clear hK K
 refine AW.rgs rfl fun K hK => ?_
 refine mv rfl rfl ?_
 refine bv rfl (v_bin rfl rfl b_neq) ?_
 refine b_fin hK (s' := ⟨[(2, slE eInt p2), (3, HV.fptr [slE eStr p0.1, slE eStr p0.2] 0), (4, HV.fptr [HV.int .i64 p1.1, HV.int .i64 p1.2.1, slE eFromLabelTo p1.2.2] 0), (8, HV.int .i64 x1), (25, HV.bool (decide (x1 ≠ 0)))], []⟩) (le_q rfl rfl) ?_
 clear hK K
 refine AW.cond rfl (fun hc => ?_) (fun hc => ?_)
 ·have hc := of_decide_eq_true hc
  have h := ifT hc h
  refine AW.rgs rfl fun K hK => ?_
  refine mv rfl rfl ?_
  refine mv rfl rfl ?_
  refine mv rfl rfl ?_
  refine b_fin hK (s' := ⟨[(6, HV.str ([] : List UInt8)), (7, HV.int .i64 x1)], []⟩) (le_q rfl rfl) ?_
  clear hK K
  refine AW.ret ?_
  have h := Option.some.inj h
  subst h
  exact ret_pure (hs := [HV.str ([] : List UInt8), HV.int .i64 x1]) (q := HV.tup [HV.str ([] : List UInt8), HV.int .i64 x1]) (.inr rfl) (resT rfl (resT rfl rfl)) rfl ⟨trivial, trivial, trivial⟩
 have hc := of_decide_eq_false hc
 have h := ifF hc h
 refine AW.skip ?_
 refine AW.seq ?_
 refine AW.rgs rfl fun K hK => ?_
 refine mv rfl rfl ?_
 refine bv rfl (v_lenF rfl rfl ty31 rfl) ?_
 refine bv rfl (v_bin rfl rfl b_eql) ?_
 refine b_fin hK (s' := ⟨[(2, slE eInt p2), (3, HV.fptr [slE eStr p0.1, slE eStr p0.2] 0), (4, HV.fptr [HV.int .i64 p1.1, HV.int .i64 p1.2.1, slE eFromLabelTo p1.2.2] 0), (29, HV.bool (decide (((p2).length : Int) = 0)))], []⟩) (le_q rfl rfl) ?_
 clear hK K
 refine AW.cond rfl (fun hc => ?_) (fun hc => ?_)
 ·have hc := of_decide_eq_true hc
  have h := ifT hc h
  refine AW.rgs rfl fun K hK => ?_
  refine mv rfl rfl ?_
  refine mv rfl rfl ?_
  refine b_fin hK (s' := ⟨[(6, HV.str ([] : List UInt8)), (7, HV.int .i64 0)], []⟩) (le_q rfl rfl) ?_
  clear hK K
  refine AW.ret ?_
  have h := Option.some.inj h
  subst h
  exact ret_pure (hs := [HV.str ([] : List UInt8), HV.int .i64 0]) (q := HV.tup [HV.str ([] : List UInt8), HV.int .i64 0]) (.inr rfl) (resT rfl (resT rfl rfl)) rfl ⟨trivial, trivial, trivial⟩
 have hc := of_decide_eq_false hc
 have h := ifF hc h
 refine AW.skip ?_
 refine AW.dgs 12 follows rfl rfl fun K hK => ?_
 refine sv rfl (v_fieldAddrF fo24_0 rfl) ?_
 refine sv rfl (v_loadF ty22 rfl (l_lit rfl rfl)) ?_
 obtain ⟨x3, h4, h⟩ := bS h
 refine sv rfl (v_idxF ty22 es22 rfl rfl (idx_lt h4)) ?_
 refine sv rfl (v_loadF ty9 rfl (l_cell eStr h4 (o := 0) rfl rfl)) ?_
 refine sv rfl (v_lenS rfl rfl ty9 rfl) ?_
 refine sv rfl (v_fieldAddrF fo24_1 rfl) ?_
 refine sv rfl (v_loadF ty22 rfl (l_lit rfl rfl)) ?_
 obtain ⟨x5, h6, h⟩ := bS h
 refine sv rfl (v_idxF ty22 es22 rfl rfl (idx_lt h6)) ?_
 refine sv rfl (v_loadF ty9 rfl (l_cell eStr h6 (o := 0) rfl rfl)) ?_
 refine sv rfl (v_lenS rfl rfl ty9 rfl) ?_
 refine sm rfl rfl ?_
 refine sm rfl rfl ?_
 refine s_nil ?_
 refine b_fin hK (s' := ⟨[(2, slE eInt p2), (3, HV.fptr [slE eStr p0.1, slE eStr p0.2] 0), (4, HV.fptr [HV.int .i64 p1.1, HV.int .i64 p1.2.1, slE eFromLabelTo p1.2.2] 0), (9, HV.int .i64 ((x3).length : Int)), (10, HV.int .i64 ((x5).length : Int))], []⟩) (le_q rfl rfl) ?_
 clear hK K
 refine AW.seq ?_
 refine AW.rgs rfl fun K hK => ?_
 refine mv rfl rfl ?_
 refine bv rfl (v_lenF rfl rfl ty31 rfl) ?_
 refine mv rfl rfl ?_
 refine bv rfl (v_bin rfl rfl b_add) ?_
 refine mv rfl rfl ?_
 refine mv rfl rfl ?_
 refine bv rfl (v_bin rfl rfl b_add) ?_
 obtain ⟨h7, h⟩ := ifN h
 refine bv rfl (v_bin rfl rfl (b_quo h7)) ?_
 refine bv rfl (v_bin rfl rfl b_gtr) ?_
 refine b_fin hK (s' := ⟨[(2, slE eInt p2), (3, HV.fptr [slE eStr p0.1, slE eStr p0.2] 0), (4, HV.fptr [HV.int .i64 p1.1, HV.int .i64 p1.2.1, slE eFromLabelTo p1.2.2] 0), (48, HV.bool (decide ((IntKind.wrap .i64 (Int.tdiv (IntKind.wrap .i64 (65536 + ((x5).length : Int))) (IntKind.wrap .i64 (((x3).length : Int) + ((x5).length : Int))))) < ((p2).length : Int))))], []⟩) (le_q rfl rfl) ?_
 clear hK K
 refine AW.cond rfl (fun hc => ?_) (fun hc => ?_)
 ·have hc := of_decide_eq_true hc
  have h := ifT hc h
  refine AW.rgs rfl fun K hK => ?_
  refine mv rfl rfl ?_
  refine mv rfl rfl ?_
  refine b_fin hK (s' := ⟨[(6, HV.str ([] : List UInt8)), (7, HV.int .i64 4)], []⟩) (le_q rfl rfl) ?_
  clear hK K
  refine AW.ret ?_
  have h := Option.some.inj h
  subst h
  exact ret_pure (hs := [HV.str ([] : List UInt8), HV.int .i64 4]) (q := HV.tup [HV.str ([] : List UInt8), HV.int .i64 4]) (.inr rfl) (resT rfl (resT rfl rfl)) rfl ⟨trivial, trivial, trivial⟩
 have hc := of_decide_eq_false hc
 have h := ifF hc h
 refine AW.skip ?_
 refine AW.rgs rfl fun K hK => ?_
 refine bv rfl (v_fieldAddrF fo27_1 rfl) ?_
 refine bv rfl (v_loadF ty3 rfl (l_lit rfl rfl)) ?_
 obtain ⟨h9, h⟩ := ifN h
 refine b_op rfl (o_makeE (fid := 15) eInt (0 : Int) 15051 rfl rfl ty31 rfl rfl ty3 rfl rfl h9 (fun v8 => ?_))
 refine b_op rfl (o_alloc (fid := 15) (zs := [HV.v (.slice none 0 0)]) 15011 rfl rfl ty31 rfl (fun v10 => ?_))
 refine b_op rfl (o_store (cs := [HV.ar 15051 v8 eInt.k 0 ((List.replicate (p1.2.1).toNat (0 : Int)).length)]) (zs := [HV.ar 15051 v8 eInt.k 0 ((List.replicate (p1.2.1).toNat (0 : Int)).length)]) rfl rfl rfl ty31 rfl rfl rfl rfl rfl ?_)
 refine b_fin hK (s' := ⟨[(2, slE eInt p2), (3, HV.fptr [slE eStr p0.1, slE eStr p0.2] 0), (4, HV.fptr [HV.int .i64 p1.1, HV.int .i64 p1.2.1, slE eFromLabelTo p1.2.2] 0), (11, HV.ptr 15011 v10 0)], [(15051, v8, .arr eInt.k 3 (eInt.E (List.replicate (p1.2.1).toNat (0 : Int)))), (15011, v10, .arr 1 31 [HV.ar 15051 v8 eInt.k 0 ((List.replicate (p1.2.1).toNat (0 : Int)).length)])]⟩) (le_q rfl rfl) ?_
 clear hK K
 refine AW.seq ?_
 refine AW.rgs rfl fun K hK => ?_
 refine bv rfl (v_loadP ty31 rfl rfl (l_lit rfl rfl)) ?_
 refine bv rfl (v_lenA rfl rfl ty31 rfl rfl) ?_
 refine mv rfl rfl ?_
 refine b_fin hK (s' := ⟨[(2, slE eInt p2), (3, HV.fptr [slE eStr p0.1, slE eStr p0.2] 0), (4, HV.fptr [HV.int .i64 p1.1, HV.int .i64 p1.2.1, slE eFromLabelTo p1.2.2] 0), (11, HV.ptr 15011 v10 0), (53, HV.int .i64 (((List.replicate (p1.2.1).toNat (0 : Int)).length : Nat) : Int)), (54, HV.int .i64 0)], [(15051, v8, .arr eInt.k 3 (eInt.E (List.replicate (p1.2.1).toNat (0 : Int)))), (15011, v10, .arr 1 31 [HV.ar 15051 v8 eInt.k 0 ((List.replicate (p1.2.1).toNat (0 : Int)).length)])]⟩) (le_q rfl rfl) ?_
 clear hK K
 refine AW.lpX h (by first | exact up_then | exact up_to) (S := Int × (List Int)) (V := Unit) (fun a v => ⟨[(2, slE eInt p2), (3, HV.fptr [slE eStr p0.1, slE eStr p0.2] 0), (4, HV.fptr [HV.int .i64 p1.1, HV.int .i64 p1.2.1, slE eFromLabelTo p1.2.2] 0), (11, HV.ptr 15011 v10 0), (53, HV.int .i64 (((List.replicate (p1.2.1).toNat (0 : Int)).length : Nat) : Int)), (54, HV.int .i64 a.1)], [(15011, v10, .arr 1 31 [HV.ar 15051 v8 eInt.k 0 ((a.2).length)]), (15051, v8, .arr eInt.k 3 (eInt.E a.2))]⟩) ?_ (X := (List Int)) (W := Unit) (fun a v => ⟨[(2, slE eInt p2), (3, HV.fptr [slE eStr p0.1, slE eStr p0.2] 0), (4, HV.fptr [HV.int .i64 p1.1, HV.int .i64 p1.2.1, slE eFromLabelTo p1.2.2] 0), (11, HV.ptr 15011 v10 0)], [(15011, v10, .arr 1 31 [HV.ar 15051 v8 eInt.k 0 ((a).length)]), (15051, v8, .arr eInt.k 3 (eInt.E a))]⟩) (fun a17 w18 h => ?_) (fun a11 w12 st13 h => ?_)
 ·exact to_le (s' := ⟨[(2, slE eInt p2), (3, HV.fptr [slE eStr p0.1, slE eStr p0.2] 0), (4, HV.fptr [HV.int .i64 p1.1, HV.int .i64 p1.2.1, slE eFromLabelTo p1.2.2] 0), (11, HV.ptr 15011 v10 0), (53, HV.int .i64 (((List.replicate (p1.2.1).toNat (0 : Int)).length : Nat) : Int)), (54, HV.int .i64 0)], [(15011, v10, .arr 1 31 [HV.ar 15051 v8 eInt.k 0 ((List.replicate (p1.2.1).toNat (0 : Int)).length)]), (15051, v8, .arr eInt.k 3 (eInt.E (List.replicate (p1.2.1).toNat (0 : Int))))]⟩) (AS.le_of ⟨rfl, rfl, rfl, rfl, rfl, rfl, trivial⟩ ⟨rfl, rfl, trivial⟩) ⟨(), rfl⟩
 ·refine AW.rgs rfl fun K hK => ?_
  refine b_op rfl (o_alloc (fid := 15) (zs := [HV.v (.pointer none), HV.v (.slice none 0 0)]) 15013 rfl rfl ty80 rfl (fun v19 => ?_))
  refine b_to (to_ownC 15513 15013 v19 2 1 1 5 80 rfl rfl (by decide) fun v20 => ?_)
  refine b_fin hK (s' := ⟨[(2, slE eInt p2), (3, HV.fptr [slE eStr p0.1, slE eStr p0.2] 0), (4, HV.fptr [HV.int .i64 p1.1, HV.int .i64 p1.2.1, slE eFromLabelTo p1.2.2] 0), (11, HV.ptr 15011 v10 0), (13, HV.ptr 15013 v19 0)], [(15011, v10, .arr 1 31 [HV.ar 15051 v8 eInt.k 0 ((a17).length)]), (15051, v8, .arr eInt.k 3 (eInt.E a17)), (15013, v19, bldO 15013 v19 15513 v20 false ([] : List UInt8)), (15513, v20, bytO ([] : List UInt8))]⟩) (le_q rfl rfl) ?_
  clear hK K
  refine AW.rgs rfl fun K hK => ?_
  refine b_op rfl (o_alloc (fid := 15) (zs := [HV.int .i64 0]) 15014 rfl rfl ty3 rfl (fun v21 => ?_))
  refine b_op rfl (o_store (cs := [HV.int .i64 0]) (zs := [HV.int .i64 0]) rfl rfl rfl ty3 rfl rfl rfl rfl rfl ?_)
  refine b_fin hK (s' := ⟨[(2, slE eInt p2), (3, HV.fptr [slE eStr p0.1, slE eStr p0.2] 0), (4, HV.fptr [HV.int .i64 p1.1, HV.int .i64 p1.2.1, slE eFromLabelTo p1.2.2] 0), (11, HV.ptr 15011 v10 0), (13, HV.ptr 15013 v19 0), (14, HV.ptr 15014 v21 0)], [(15011, v10, .arr 1 31 [HV.ar 15051 v8 eInt.k 0 ((a17).length)]), (15051, v8, .arr eInt.k 3 (eInt.E a17)), (15013, v19, bldO 15013 v19 15513 v20 false ([] : List UInt8)), (15513, v20, bytO ([] : List UInt8)), (15014, v21, .arr 1 3 [HV.int .i64 0])]⟩) (le_q rfl rfl) ?_
  clear hK K
  refine AW.rgs rfl fun K hK => ?_
  refine bv rfl (v_func rfl rfl) ?_
  refine mv rfl rfl ?_
  refine b_fin hK (s' := ⟨[(2, slE eInt p2), (3, HV.fptr [slE eStr p0.1, slE eStr p0.2] 0), (4, HV.fptr [HV.int .i64 p1.1, HV.int .i64 p1.2.1, slE eFromLabelTo p1.2.2] 0), (11, HV.ptr 15011 v10 0), (13, HV.ptr 15013 v19 0), (14, HV.ptr 15014 v21 0), (15, HV.fn (.func 53) [] [HV.ptr 15013 v19 0, HV.ptr 15014 v21 0, HV.fptr [HV.int .i64 p1.1, HV.int .i64 p1.2.1, slE eFromLabelTo p1.2.2] 0, HV.ptr 15011 v10 0])], [(15011, v10, .arr 1 31 [HV.ar 15051 v8 eInt.k 0 ((a17).length)]), (15051, v8, .arr eInt.k 3 (eInt.E a17)), (15013, v19, bldO 15013 v19 15513 v20 false ([] : List UInt8)), (15513, v20, bytO ([] : List UInt8)), (15014, v21, .arr 1 3 [HV.int .i64 0])]⟩) (le_q rfl rfl) ?_
  clear hK K
  refine AW.dgs 8 follows rfl rfl fun K hK => ?_
  refine sm rfl rfl ?_
  refine sv rfl (v_fieldAddrF fo24_0 rfl) ?_
  refine sv rfl (v_loadF ty22 rfl (l_lit rfl rfl)) ?_
  refine sm rfl rfl ?_
  obtain ⟨x22, h23, h⟩ := bS h
  refine sv rfl (v_idxF ty31 es31 rfl rfl (idx_lt h23)) ?_
  refine sv rfl (v_loadF ty3 rfl (l_cell eInt h23 (o := 0) rfl rfl)) ?_
  obtain ⟨x24, h25, h⟩ := bS h
  refine sv rfl (v_idxF ty22 es22 rfl rfl (idx_lt h25)) ?_
  refine sv rfl (v_loadF ty9 rfl (l_cell eStr h25 (o := 0) rfl rfl)) ?_
  refine s_nil ?_
  refine b_op rfl (o_callJ h (S := (List Int) × Int) (V := Nat) (fun a v => ⟨[(2, slE eInt p2), (3, HV.fptr [slE eStr p0.1, slE eStr p0.2] 0), (4, HV.fptr [HV.int .i64 p1.1, HV.int .i64 p1.2.1, slE eFromLabelTo p1.2.2] 0), (11, HV.ptr 15011 v10 0), (13, HV.ptr 15013 v19 0), (14, HV.ptr 15014 v21 0), (15, HV.fn (.func 53) [] [HV.ptr 15013 v19 0, HV.ptr 15014 v21 0, HV.fptr [HV.int .i64 p1.1, HV.int .i64 p1.2.1, slE eFromLabelTo p1.2.2] 0, HV.ptr 15011 v10 0]), (71, HV.tup [])], [(15011, v10, .arr 1 31 [slE eInt a.1]), (15013, v19, bldO 15013 v19 15513 v true (([] : List UInt8) ++ x24)), (15513, v, bytO (([] : List UInt8) ++ x24)), (15014, v21, .arr 1 3 [HV.int .i64 a.2])]⟩) rfl rfl rfl rfl (fun a26 w27 h => ?_) (fun k28 h => ?_) )
  ·refine b_fin hK (s' := ⟨[(2, slE eInt p2), (3, HV.fptr [slE eStr p0.1, slE eStr p0.2] 0), (4, HV.fptr [HV.int .i64 p1.1, HV.int .i64 p1.2.1, slE eFromLabelTo p1.2.2] 0), (11, HV.ptr 15011 v10 0), (13, HV.ptr 15013 v19 0), (14, HV.ptr 15014 v21 0), (15, HV.fn (.func 53) [] [HV.ptr 15013 v19 0, HV.ptr 15014 v21 0, HV.fptr [HV.int .i64 p1.1, HV.int .i64 p1.2.1, slE eFromLabelTo p1.2.2] 0, HV.ptr 15011 v10 0])], [(15011, v10, .arr 1 31 [slE eInt a26.1]), (15013, v19, bldO 15013 v19 15513 w27 true (([] : List UInt8) ++ x24)), (15513, w27, bytO (([] : List UInt8) ++ x24)), (15014, v21, .arr 1 3 [HV.int .i64 a26.2])]⟩) (le_q rfl rfl) ?_
   clear hK K
   refine AW.seq ?_
   refine AW.rgs rfl fun K hK => ?_
   refine mv rfl rfl ?_
   obtain ⟨h29, h⟩ := ifN h
   refine bv rfl (v_sliceF eInt ty31 es31 rfl rfl rfl h29) ?_
   refine bv rfl (v_lenF rfl rfl ty31 rfl) ?_
   refine mv rfl rfl ?_
   refine b_fin hK (s' := ⟨[(3, HV.fptr [slE eStr p0.1, slE eStr p0.2] 0), (4, HV.fptr [HV.int .i64 p1.1, HV.int .i64 p1.2.1, slE eFromLabelTo p1.2.2] 0), (11, HV.ptr 15011 v10 0), (13, HV.ptr 15013 v19 0), (14, HV.ptr 15014 v21 0), (15, HV.fn (.func 53) [] [HV.ptr 15013 v19 0, HV.ptr 15014 v21 0, HV.fptr [HV.int .i64 p1.1, HV.int .i64 p1.2.1, slE eFromLabelTo p1.2.2] 0, HV.ptr 15011 v10 0]), (73, slE eInt ((p2.take (((p2).length : Int)).toNat).drop (1 : Int).toNat)), (74, HV.int .i64 (((p2.take (((p2).length : Int)).toNat).drop (1 : Int).toNat).length : Int)), (75, HV.int .i64 0)], [(15011, v10, .arr 1 31 [slE eInt a26.1]), (15013, v19, bldO 15013 v19 15513 w27 true (([] : List UInt8) ++ x24)), (15513, w27, bytO (([] : List UInt8) ++ x24)), (15014, v21, .arr 1 3 [HV.int .i64 a26.2])]⟩) (le_q rfl rfl) ?_
   clear hK K
   refine AW.lpR h (by first | exact up_then | exact up_to) (S := Int × (List Int) × (List UInt8) × Int) (V := Nat) (fun a v => ⟨[(3, HV.fptr [slE eStr p0.1, slE eStr p0.2] 0), (4, HV.fptr [HV.int .i64 p1.1, HV.int .i64 p1.2.1, slE eFromLabelTo p1.2.2] 0), (11, HV.ptr 15011 v10 0), (13, HV.ptr 15013 v19 0), (14, HV.ptr 15014 v21 0), (15, HV.fn (.func 53) [] [HV.ptr 15013 v19 0, HV.ptr 15014 v21 0, HV.fptr [HV.int .i64 p1.1, HV.int .i64 p1.2.1, slE eFromLabelTo p1.2.2] 0, HV.ptr 15011 v10 0]), (73, slE eInt ((p2.take (((p2).length : Int)).toNat).drop (1 : Int).toNat)), (74, HV.int .i64 (((p2.take (((p2).length : Int)).toNat).drop (1 : Int).toNat).length : Int)), (75, HV.int .i64 a.1)], [(15011, v10, .arr 1 31 [slE eInt a.2.1]), (15013, v19, bldO 15013 v19 15513 v true a.2.2.1), (15513, v, bytO a.2.2.1), (15014, v21, .arr 1 3 [HV.int .i64 a.2.2.2])]⟩) ?_ (X := (List UInt8)) (W := Nat) (fun a v => ⟨[(13, HV.ptr 15013 v19 0)], [(15013, v19, bldO 15013 v19 15513 v true a), (15513, v, bytO a)]⟩) (fun a81 w82 h => ?_) (fun a30 w31 st32 h hr33=> ?_)
   ·exact to_le (s' := ⟨[(3, HV.fptr [slE eStr p0.1, slE eStr p0.2] 0), (4, HV.fptr [HV.int .i64 p1.1, HV.int .i64 p1.2.1, slE eFromLabelTo p1.2.2] 0), (11, HV.ptr 15011 v10 0), (13, HV.ptr 15013 v19 0), (14, HV.ptr 15014 v21 0), (15, HV.fn (.func 53) [] [HV.ptr 15013 v19 0, HV.ptr 15014 v21 0, HV.fptr [HV.int .i64 p1.1, HV.int .i64 p1.2.1, slE eFromLabelTo p1.2.2] 0, HV.ptr 15011 v10 0]), (73, slE eInt ((p2.take (((p2).length : Int)).toNat).drop (1 : Int).toNat)), (74, HV.int .i64 (((p2.take (((p2).length : Int)).toNat).drop (1 : Int).toNat).length : Int)), (75, HV.int .i64 0)], [(15011, v10, .arr 1 31 [slE eInt a26.1]), (15013, v19, bldO 15013 v19 15513 w27 true (([] : List UInt8) ++ x24)), (15513, w27, bytO (([] : List UInt8) ++ x24)), (15014, v21, .arr 1 3 [HV.int .i64 a26.2])]⟩) (AS.le_of ⟨rfl, rfl, rfl, rfl, rfl, rfl, rfl, rfl, rfl, trivial⟩ ⟨rfl, rfl, rfl, rfl, trivial⟩) ⟨w27, rfl⟩
   ·refine AW.rgs rfl fun K hK => ?_
    refine b_op rfl (o_callA rfl rfl rfl rfl (c_String (id := 15013) (ver := v19) (aid := 15513) (aver := w82) (u := true) (l := a81) rfl rfl fun v83 => ?_) )
    refine mv rfl rfl ?_
    refine mv rfl rfl ?_
    refine b_fin hK (s' := ⟨[(6, HV.str a81), (7, HV.int .i64 0)], []⟩) (le_q rfl rfl) ?_
    clear hK K
    refine AW.ret ?_
    have h := Option.some.inj h
    subst h
    exact ret_pure (hs := [HV.str a81, HV.int .i64 0]) (q := HV.tup [HV.str a81, HV.int .i64 0]) (.inr rfl) (resT rfl (resT rfl rfl)) rfl ⟨trivial, trivial, trivial⟩
   refine AW.rgs rfl fun K hK => ?_
   refine bv rfl (v_bin rfl rfl b_lss) ?_
   refine b_fin hK (s' := ⟨[(3, HV.fptr [slE eStr p0.1, slE eStr p0.2] 0), (4, HV.fptr [HV.int .i64 p1.1, HV.int .i64 p1.2.1, slE eFromLabelTo p1.2.2] 0), (11, HV.ptr 15011 v10 0), (13, HV.ptr 15013 v19 0), (14, HV.ptr 15014 v21 0), (15, HV.fn (.func 53) [] [HV.ptr 15013 v19 0, HV.ptr 15014 v21 0, HV.fptr [HV.int .i64 p1.1, HV.int .i64 p1.2.1, slE eFromLabelTo p1.2.2] 0, HV.ptr 15011 v10 0]), (73, slE eInt ((p2.take (((p2).length : Int)).toNat).drop (1 : Int).toNat)), (74, HV.int .i64 (((p2.take (((p2).length : Int)).toNat).drop (1 : Int).toNat).length : Int)), (75, HV.int .i64 a30.1), (76, HV.bool (decide (a30.1 < (((p2.take (((p2).length : Int)).toNat).drop (1 : Int).toNat).length : Int))))], [(15011, v10, .arr 1 31 [slE eInt a30.2.1]), (15013, v19, bldO 15013 v19 15513 w31 true a30.2.2.1), (15513, w31, bytO a30.2.2.1), (15014, v21, .arr 1 3 [HV.int .i64 a30.2.2.2])]⟩) (le_q rfl rfl) ?_
   clear hK K
   refine AW.cseq rfl (fun hc => ?_) (fun hc => ?_)
   ·have hc := of_decide_eq_true hc
    have h := ifT hc h
    refine AW.skip ?_
    refine AW.seq (AW.block ?_)
    refine AW.rgs rfl fun K hK => ?_
    obtain ⟨x34, h35, h⟩ := bS h
    refine bv rfl (v_idxF ty31 es31 rfl rfl (idx_lt h35)) ?_
    refine bv rfl (v_loadF ty3 rfl (l_cell eInt h35 (o := 0) rfl rfl)) ?_
    refine b_op rfl (o_alloc (fid := 15) (zs := [HV.int .i64 0]) 15017 rfl rfl ty3 rfl (fun v36 => ?_))
    refine b_op rfl (o_store (cs := [HV.int .i64 x34]) (zs := [HV.int .i64 x34]) rfl rfl rfl ty3 rfl rfl rfl rfl rfl ?_)
    refine b_fin hK (s' := ⟨[(3, HV.fptr [slE eStr p0.1, slE eStr p0.2] 0), (4, HV.fptr [HV.int .i64 p1.1, HV.int .i64 p1.2.1, slE eFromLabelTo p1.2.2] 0), (11, HV.ptr 15011 v10 0), (13, HV.ptr 15013 v19 0), (14, HV.ptr 15014 v21 0), (15, HV.fn (.func 53) [] [HV.ptr 15013 v19 0, HV.ptr 15014 v21 0, HV.fptr [HV.int .i64 p1.1, HV.int .i64 p1.2.1, slE eFromLabelTo p1.2.2] 0, HV.ptr 15011 v10 0]), (17, HV.ptr 15017 v36 0), (73, slE eInt ((p2.take (((p2).length : Int)).toNat).drop (1 : Int).toNat)), (74, HV.int .i64 (((p2.take (((p2).length : Int)).toNat).drop (1 : Int).toNat).length : Int)), (75, HV.int .i64 a30.1)], [(15011, v10, .arr 1 31 [slE eInt a30.2.1]), (15013, v19, bldO 15013 v19 15513 w31 true a30.2.2.1), (15513, w31, bytO a30.2.2.1), (15014, v21, .arr 1 3 [HV.int .i64 a30.2.2.2]), (15017, v36, .arr 1 3 [HV.int .i64 x34])]⟩) (le_q rfl rfl) ?_
    clear hK K
    refine AW.rgs rfl fun K hK => ?_
    refine bv rfl (v_fieldAddrF fo24_1 rfl) ?_
    refine bv rfl (v_loadF ty22 rfl (l_lit rfl rfl)) ?_
    refine bv rfl (v_func rfl rfl) ?_
    refine b_op rfl (o_callJ h (S := (List UInt8) × Bool) (V := Unit) (fun a v => ⟨[(3, HV.fptr [slE eStr p0.1, slE eStr p0.2] 0), (4, HV.fptr [HV.int .i64 p1.1, HV.int .i64 p1.2.1, slE eFromLabelTo p1.2.2] 0), (11, HV.ptr 15011 v10 0), (13, HV.ptr 15013 v19 0), (14, HV.ptr 15014 v21 0), (15, HV.fn (.func 53) [] [HV.ptr 15013 v19 0, HV.ptr 15014 v21 0, HV.fptr [HV.int .i64 p1.1, HV.int .i64 p1.2.1, slE eFromLabelTo p1.2.2] 0, HV.ptr 15011 v10 0]), (17, HV.ptr 15017 v36 0), (73, slE eInt ((p2.take (((p2).length : Int)).toNat).drop (1 : Int).toNat)), (74, HV.int .i64 (((p2.take (((p2).length : Int)).toNat).drop (1 : Int).toNat).length : Int)), (75, HV.int .i64 a30.1), (83, HV.tup [HV.str a.1, HV.bool a.2])], [(15011, v10, .arr 1 31 [slE eInt a30.2.1]), (15013, v19, bldO 15013 v19 15513 w31 true a30.2.2.1), (15513, w31, bytO a30.2.2.1), (15014, v21, .arr 1 3 [HV.int .i64 a30.2.2.2]), (15017, v36, .arr 1 3 [HV.int .i64 x34])]⟩) rfl rfl rfl rfl (fun a37 w38 h => ?_) (fun k39 h => ?_) )
    ·refine mv rfl rfl ?_
     refine bv rfl (v_extract rfl rfl) ?_
     refine bv rfl (v_extract rfl rfl) ?_
     refine mv rfl rfl ?_
     refine mv rfl rfl ?_
     refine b_fin hK (s' := ⟨[(3, HV.fptr [slE eStr p0.1, slE eStr p0.2] 0), (4, HV.fptr [HV.int .i64 p1.1, HV.int .i64 p1.2.1, slE eFromLabelTo p1.2.2] 0), (11, HV.ptr 15011 v10 0), (13, HV.ptr 15013 v19 0), (14, HV.ptr 15014 v21 0), (15, HV.fn (.func 53) [] [HV.ptr 15013 v19 0, HV.ptr 15014 v21 0, HV.fptr [HV.int .i64 p1.1, HV.int .i64 p1.2.1, slE eFromLabelTo p1.2.2] 0, HV.ptr 15011 v10 0]), (17, HV.ptr 15017 v36 0), (18, HV.str a37.1), (19, HV.bool a37.2), (73, slE eInt ((p2.take (((p2).length : Int)).toNat).drop (1 : Int).toNat)), (74, HV.int .i64 (((p2.take (((p2).length : Int)).toNat).drop (1 : Int).toNat).length : Int)), (75, HV.int .i64 a30.1)], [(15011, v10, .arr 1 31 [slE eInt a30.2.1]), (15013, v19, bldO 15013 v19 15513 w31 true a30.2.2.1), (15513, w31, bytO a30.2.2.1), (15014, v21, .arr 1 3 [HV.int .i64 a30.2.2.2]), (15017, v36, .arr 1 3 [HV.int .i64 x34])]⟩) (le_q rfl rfl) ?_
     clear hK K
     refine AW.seq ?_
     refine AW.rgs rfl fun K hK => ?_
     refine mv rfl rfl ?_
     refine bv rfl (v_not rfl) ?_
     refine b_fin hK (s' := ⟨[(3, HV.fptr [slE eStr p0.1, slE eStr p0.2] 0), (4, HV.fptr [HV.int .i64 p1.1, HV.int .i64 p1.2.1, slE eFromLabelTo p1.2.2] 0), (11, HV.ptr 15011 v10 0), (13, HV.ptr 15013 v19 0), (14, HV.ptr 15014 v21 0), (15, HV.fn (.func 53) [] [HV.ptr 15013 v19 0, HV.ptr 15014 v21 0, HV.fptr [HV.int .i64 p1.1, HV.int .i64 p1.2.1, slE eFromLabelTo p1.2.2] 0, HV.ptr 15011 v10 0]), (17, HV.ptr 15017 v36 0), (18, HV.str a37.1), (73, slE eInt ((p2.take (((p2).length : Int)).toNat).drop (1 : Int).toNat)), (74, HV.int .i64 (((p2.take (((p2).length : Int)).toNat).drop (1 : Int).toNat).length : Int)), (75, HV.int .i64 a30.1), (87, HV.bool (!a37.2))], [(15011, v10, .arr 1 31 [slE eInt a30.2.1]), (15013, v19, bldO 15013 v19 15513 w31 true a30.2.2.1), (15513, w31, bytO a30.2.2.1), (15014, v21, .arr 1 3 [HV.int .i64 a30.2.2.2]), (15017, v36, .arr 1 3 [HV.int .i64 x34])]⟩) (le_q rfl rfl) ?_
     clear hK K
     refine AW.cond rfl (fun hc => ?_) (fun hc => ?_)
     ·have h := ifT hc h
      refine AW.rgs rfl fun K hK => ?_
      refine mv rfl rfl ?_
      refine mv rfl rfl ?_
      refine b_fin hK (s' := ⟨[(6, HV.str ([] : List UInt8)), (7, HV.int .i64 13)], []⟩) (le_q rfl rfl) ?_
      clear hK K
      have h := hr33 _ h
      refine AW.ret ?_
      have h := Option.some.inj h
      subst h
      exact ret_pure (hs := [HV.str ([] : List UInt8), HV.int .i64 13]) (q := HV.tup [HV.str ([] : List UInt8), HV.int .i64 13]) (.inr rfl) (resT rfl (resT rfl rfl)) rfl ⟨trivial, trivial, trivial⟩
     have h := ifF (bF' hc) h
     refine AW.skip ?_
     refine AW.rg rfl fun K hK => ?_
     refine mv rfl rfl ?_
     refine mv rfl rfl ?_
     refine bv rfl (v_fieldAddrF fo24_0 rfl) ?_
     refine bv rfl (v_loadF ty22 rfl (l_lit rfl rfl)) ?_
     refine bv rfl (v_loadP ty3 rfl rfl (l_lit rfl rfl)) ?_
     obtain ⟨x40, h41, h⟩ := bS h
     refine bv rfl (v_idxF ty22 es22 rfl rfl (idx_lt h41)) ?_
     refine bv rfl (v_loadF ty9 rfl (l_cell eStr h41 (o := 0) rfl rfl)) ?_
     obtain ⟨h42, h⟩ := ifN h
     refine bv rfl (v_bin rfl rfl (b_sadd h42)) ?_
     refine b_op rfl (o_callJ h (S := (List Int) × Int) (V := Nat) (fun a v => ⟨[(3, HV.fptr [slE eStr p0.1, slE eStr p0.2] 0), (4, HV.fptr [HV.int .i64 p1.1, HV.int .i64 p1.2.1, slE eFromLabelTo p1.2.2] 0), (11, HV.ptr 15011 v10 0), (13, HV.ptr 15013 v19 0), (14, HV.ptr 15014 v21 0), (15, HV.fn (.func 53) [] [HV.ptr 15013 v19 0, HV.ptr 15014 v21 0, HV.fptr [HV.int .i64 p1.1, HV.int .i64 p1.2.1, slE eFromLabelTo p1.2.2] 0, HV.ptr 15011 v10 0]), (73, slE eInt ((p2.take (((p2).length : Int)).toNat).drop (1 : Int).toNat)), (74, HV.int .i64 (((p2.take (((p2).length : Int)).toNat).drop (1 : Int).toNat).length : Int)), (75, HV.int .i64 a30.1), (96, HV.tup [])], [(15011, v10, .arr 1 31 [slE eInt a.1]), (15013, v19, bldO 15013 v19 15513 v true (a30.2.2.1 ++ (a37.1 ++ x40))), (15513, v, bytO (a30.2.2.1 ++ (a37.1 ++ x40))), (15014, v21, .arr 1 3 [HV.int .i64 a.2])]⟩) rfl rfl rfl rfl (fun a43 w44 h => ?_) (fun k45 h => ?_) )
     ·refine b_fin hK (s' := ⟨[(3, HV.fptr [slE eStr p0.1, slE eStr p0.2] 0), (4, HV.fptr [HV.int .i64 p1.1, HV.int .i64 p1.2.1, slE eFromLabelTo p1.2.2] 0), (11, HV.ptr 15011 v10 0), (13, HV.ptr 15013 v19 0), (14, HV.ptr 15014 v21 0), (15, HV.fn (.func 53) [] [HV.ptr 15013 v19 0, HV.ptr 15014 v21 0, HV.fptr [HV.int .i64 p1.1, HV.int .i64 p1.2.1, slE eFromLabelTo p1.2.2] 0, HV.ptr 15011 v10 0]), (73, slE eInt ((p2.take (((p2).length : Int)).toNat).drop (1 : Int).toNat)), (74, HV.int .i64 (((p2.take (((p2).length : Int)).toNat).drop (1 : Int).toNat).length : Int)), (75, HV.int .i64 a30.1)], [(15011, v10, .arr 1 31 [slE eInt a43.1]), (15013, v19, bldO 15013 v19 15513 w44 true (a30.2.2.1 ++ (a37.1 ++ x40))), (15513, w44, bytO (a30.2.2.1 ++ (a37.1 ++ x40))), (15014, v21, .arr 1 3 [HV.int .i64 a43.2])]⟩) (le_q rfl rfl) ?_
      clear hK K
      refine AW.rg rfl fun K hK => ?_
      refine bv rfl (v_bin rfl rfl b_add) ?_
      refine mv rfl rfl ?_
      refine b_nil (hK _ ?_)
      clear hK K
      exact to_le (s' := ⟨[(3, HV.fptr [slE eStr p0.1, slE eStr p0.2] 0), (4, HV.fptr [HV.int .i64 p1.1, HV.int .i64 p1.2.1, slE eFromLabelTo p1.2.2] 0), (11, HV.ptr 15011 v10 0), (13, HV.ptr 15013 v19 0), (14, HV.ptr 15014 v21 0), (15, HV.fn (.func 53) [] [HV.ptr 15013 v19 0, HV.ptr 15014 v21 0, HV.fptr [HV.int .i64 p1.1, HV.int .i64 p1.2.1, slE eFromLabelTo p1.2.2] 0, HV.ptr 15011 v10 0]), (73, slE eInt ((p2.take (((p2).length : Int)).toNat).drop (1 : Int).toNat)), (74, HV.int .i64 (((p2.take (((p2).length : Int)).toNat).drop (1 : Int).toNat).length : Int)), (75, HV.int .i64 (IntKind.wrap .i64 (a30.1 + 1)))], [(15011, v10, .arr 1 31 [slE eInt a43.1]), (15013, v19, bldO 15013 v19 15513 w44 true (a30.2.2.1 ++ (a37.1 ++ x40))), (15513, w44, bytO (a30.2.2.1 ++ (a37.1 ++ x40))), (15014, v21, .arr 1 3 [HV.int .i64 a43.2])]⟩) (AS.le_of ⟨rfl, rfl, rfl, rfl, rfl, rfl, rfl, rfl, rfl, trivial⟩ ⟨rfl, rfl, rfl, rfl, trivial⟩) ⟨(IntKind.wrap .i64 (a30.1 + 1), a43.1, a30.2.2.1 ++ (a37.1 ++ x40), a43.2), w44, h, rfl⟩
     refine ACall.of_body Tryz.func53 rfl rfl (Nat.le_of_ble_eq_true rfl) ?_
     unfold Tryz.f53
     dsimp only [enumS, Nat.reduceAdd]
     refine AW.fin ?_
     refine AW.rgs rfl fun K hK => ?_
     refine mv rfl rfl ?_
     obtain ⟨h47, h⟩ := ifN h
     refine b_op rfl (o_callA rfl rfl rfl rfl (c_WriteString (id := 15013) (ver := v19) (aid := 15513) (aver := w31) (u := true) (l := a30.2.2.1) (m := (a37.1 ++ x40)) (by decide) rfl rfl h47 fun v46 => ?_) )
     refine b_fin hK (s' := ⟨[(0, HV.str (a37.1 ++ x40)), (2, HV.ptr 15014 v21 0), (3, HV.fptr [HV.int .i64 p1.1, HV.int .i64 p1.2.1, slE eFromLabelTo p1.2.2] 0), (4, HV.ptr 15011 v10 0)], [(15011, v10, .arr 1 31 [slE eInt a30.2.1]), (15013, v19, bldO 15013 v19 15513 v46 true (a30.2.2.1 ++ (a37.1 ++ x40))), (15513, v46, bytO (a30.2.2.1 ++ (a37.1 ++ x40))), (15014, v21, .arr 1 3 [HV.int .i64 a30.2.2.2]), (15017, v36, .arr 1 3 [HV.int .i64 x34])]⟩) (le_q rfl rfl) ?_
     clear hK K
     refine AW.dgs 4 follows rfl rfl fun K hK => ?_
     refine sv rfl (v_loadP ty3 rfl rfl (l_lit rfl rfl)) ?_
     refine sm rfl rfl ?_
     obtain ⟨x48, h49, h⟩ := bS h
     refine s_op rfl rfl (ops_call rfl rfl rfl rfl (ACallD.pure0 (w_merging_weight h49)) ?_)
     refine sv rfl (v_bin rfl rfl b_add) ?_
     refine s_nil ?_
     refine b_op rfl (o_store (cs := [HV.int .i64 (IntKind.wrap .i64 (a30.2.2.2 + x48))]) (zs := [HV.int .i64 (IntKind.wrap .i64 (a30.2.2.2 + x48))]) rfl rfl rfl ty3 rfl rfl rfl rfl rfl ?_)
     refine b_fin hK (s' := ⟨[(0, HV.str (a37.1 ++ x40)), (3, HV.fptr [HV.int .i64 p1.1, HV.int .i64 p1.2.1, slE eFromLabelTo p1.2.2] 0), (4, HV.ptr 15011 v10 0)], [(15011, v10, .arr 1 31 [slE eInt a30.2.1]), (15013, v19, bldO 15013 v19 15513 v46 true (a30.2.2.1 ++ (a37.1 ++ x40))), (15513, v46, bytO (a30.2.2.1 ++ (a37.1 ++ x40))), (15014, v21, .arr 1 3 [HV.int .i64 (IntKind.wrap .i64 (a30.2.2.2 + x48))]), (15017, v36, .arr 1 3 [HV.int .i64 x34])]⟩) (le_q rfl rfl) ?_
     clear hK K
     refine AW.rg rfl fun K hK => ?_
     refine bv rfl (v_loadF ty27 rfl (l_litA rfl (Nat.le_of_ble_eq_true rfl) rfl)) ?_
     refine bv rfl (v_loadP ty31 rfl rfl (l_lit rfl rfl)) ?_
     refine mv rfl rfl ?_
     obtain ⟨x50, h51, h⟩ := bS h
     refine b_op rfl (o_call rfl rfl rfl rfl (ACallD.pure0 (w_merging_step h51)) ?_)
     refine b_op rfl (o_store (cs := [slE eInt x50]) (zs := [slE eInt x50]) rfl rfl rfl ty31 rfl rfl rfl rfl rfl ?_)
     refine b_nil (hK _ ?_)
     clear hK K
     refine to_refl ?_
     refine ret_to (hs := []) (q := HV.tup []) (.inl rfl) rfl rfl ?_
     exact to_le (s' := ⟨[(3, HV.fptr [slE eStr p0.1, slE eStr p0.2] 0), (4, HV.fptr [HV.int .i64 p1.1, HV.int .i64 p1.2.1, slE eFromLabelTo p1.2.2] 0), (11, HV.ptr 15011 v10 0), (13, HV.ptr 15013 v19 0), (14, HV.ptr 15014 v21 0), (15, HV.fn (.func 53) [] [HV.ptr 15013 v19 0, HV.ptr 15014 v21 0, HV.fptr [HV.int .i64 p1.1, HV.int .i64 p1.2.1, slE eFromLabelTo p1.2.2] 0, HV.ptr 15011 v10 0]), (73, slE eInt ((p2.take (((p2).length : Int)).toNat).drop (1 : Int).toNat)), (74, HV.int .i64 (((p2.take (((p2).length : Int)).toNat).drop (1 : Int).toNat).length : Int)), (75, HV.int .i64 a30.1), (96, HV.tup [])], [(15011, v10, .arr 1 31 [slE eInt x50]), (15013, v19, bldO 15013 v19 15513 v46 true (a30.2.2.1 ++ (a37.1 ++ x40))), (15513, v46, bytO (a30.2.2.1 ++ (a37.1 ++ x40))), (15014, v21, .arr 1 3 [HV.int .i64 (IntKind.wrap .i64 (a30.2.2.2 + x48))])]⟩) (AS.le_of ⟨rfl, rfl, rfl, rfl, rfl, rfl, rfl, rfl, rfl, rfl, trivial⟩ ⟨rfl, rfl, rfl, rfl, trivial⟩) ⟨(x50, IntKind.wrap .i64 (a30.2.2.2 + x48)), v46, h, rfl⟩
    refine ACall.of_body Tryz.func57 rfl rfl (Nat.le_of_ble_eq_true rfl) ?_
    unfold Tryz.f57
    dsimp only [enumS, Nat.reduceAdd]
    refine AW.fin ?_
    refine AW.rgs rfl fun K hK => ?_
    refine mv rfl rfl ?_
    refine mv rfl rfl ?_
    refine b_fin hK (s' := ⟨[(0, slE eStr p0.2), (1, HV.fn (.func 58) [] [HV.ptr 15014 v21 0, HV.fptr [slE eStr p0.1, slE eStr p0.2] 0, HV.ptr 15017 v36 0, HV.fptr [HV.int .i64 p1.1, HV.int .i64 p1.2.1, slE eFromLabelTo p1.2.2] 0, HV.ptr 15011 v10 0])], [(15011, v10, .arr 1 31 [slE eInt a30.2.1]), (15013, v19, bldO 15013 v19 15513 w31 true a30.2.2.1), (15513, w31, bytO a30.2.2.1), (15014, v21, .arr 1 3 [HV.int .i64 a30.2.2.2]), (15017, v36, .arr 1 3 [HV.int .i64 x34])]⟩) (le_q rfl rfl) ?_
    clear hK K
    refine AW.rgs rfl fun K hK => ?_
    refine mv rfl rfl ?_
    refine b_fin hK (s' := ⟨[(0, slE eStr p0.2), (1, HV.fn (.func 58) [] [HV.ptr 15014 v21 0, HV.fptr [slE eStr p0.1, slE eStr p0.2] 0, HV.ptr 15017 v36 0, HV.fptr [HV.int .i64 p1.1, HV.int .i64 p1.2.1, slE eFromLabelTo p1.2.2] 0, HV.ptr 15011 v10 0]), (6, HV.str ([] : List UInt8))], [(15011, v10, .arr 1 31 [slE eInt a30.2.1]), (15013, v19, bldO 15013 v19 15513 w31 true a30.2.2.1), (15513, w31, bytO a30.2.2.1), (15014, v21, .arr 1 3 [HV.int .i64 a30.2.2.2]), (15017, v36, .arr 1 3 [HV.int .i64 x34])]⟩) (le_q rfl rfl) ?_
    clear hK K
    refine AW.rgs rfl fun K hK => ?_
    refine mv rfl rfl ?_
    refine mv rfl rfl ?_
    refine b_fin hK (s' := ⟨[(0, slE eStr p0.2), (1, HV.fn (.func 58) [] [HV.ptr 15014 v21 0, HV.fptr [slE eStr p0.1, slE eStr p0.2] 0, HV.ptr 15017 v36 0, HV.fptr [HV.int .i64 p1.1, HV.int .i64 p1.2.1, slE eFromLabelTo p1.2.2] 0, HV.ptr 15011 v10 0]), (6, HV.str ([] : List UInt8)), (7, HV.int .i64 0), (8, HV.bool false)], [(15011, v10, .arr 1 31 [slE eInt a30.2.1]), (15013, v19, bldO 15013 v19 15513 w31 true a30.2.2.1), (15513, w31, bytO a30.2.2.1), (15014, v21, .arr 1 3 [HV.int .i64 a30.2.2.2]), (15017, v36, .arr 1 3 [HV.int .i64 x34])]⟩) (le_q rfl rfl) ?_
    clear hK K
    refine AW.seq ?_
    refine AW.rgs rfl fun K hK => ?_
    refine mv rfl rfl ?_
    refine bv rfl (v_lenF rfl rfl ty22 rfl) ?_
    refine mv rfl rfl ?_
    refine b_fin hK (s' := ⟨[(1, HV.fn (.func 58) [] [HV.ptr 15014 v21 0, HV.fptr [slE eStr p0.1, slE eStr p0.2] 0, HV.ptr 15017 v36 0, HV.fptr [HV.int .i64 p1.1, HV.int .i64 p1.2.1, slE eFromLabelTo p1.2.2] 0, HV.ptr 15011 v10 0]), (6, HV.str ([] : List UInt8)), (7, HV.int .i64 0), (8, HV.bool false), (13, slE eStr p0.2), (14, HV.int .i64 ((p0.2).length : Int)), (15, HV.int .i64 0)], [(15011, v10, .arr 1 31 [slE eInt a30.2.1]), (15013, v19, bldO 15013 v19 15513 w31 true a30.2.2.1), (15513, w31, bytO a30.2.2.1), (15014, v21, .arr 1 3 [HV.int .i64 a30.2.2.2]), (15017, v36, .arr 1 3 [HV.int .i64 x34])]⟩) (le_q rfl rfl) ?_
    clear hK K
    refine AW.lpX h (by first | exact up_then | exact up_to) (S := (List UInt8) × Int × Bool × Int) (V := Unit) (fun a v => ⟨[(1, HV.fn (.func 58) [] [HV.ptr 15014 v21 0, HV.fptr [slE eStr p0.1, slE eStr p0.2] 0, HV.ptr 15017 v36 0, HV.fptr [HV.int .i64 p1.1, HV.int .i64 p1.2.1, slE eFromLabelTo p1.2.2] 0, HV.ptr 15011 v10 0]), (6, HV.str a.1), (7, HV.int .i64 a.2.1), (8, HV.bool a.2.2.1), (13, slE eStr p0.2), (14, HV.int .i64 ((p0.2).length : Int)), (15, HV.int .i64 a.2.2.2)], [(15011, v10, .arr 1 31 [slE eInt a30.2.1]), (15013, v19, bldO 15013 v19 15513 w31 true a30.2.2.1), (15513, w31, bytO a30.2.2.1), (15014, v21, .arr 1 3 [HV.int .i64 a30.2.2.2]), (15017, v36, .arr 1 3 [HV.int .i64 x34])]⟩) ?_ (X := (List UInt8) × Bool) (W := Unit) (fun a v => ⟨[(6, HV.str a.1), (8, HV.bool a.2)], [(15011, v10, .arr 1 31 [slE eInt a30.2.1]), (15013, v19, bldO 15013 v19 15513 w31 true a30.2.2.1), (15513, w31, bytO a30.2.2.1), (15014, v21, .arr 1 3 [HV.int .i64 a30.2.2.2]), (15017, v36, .arr 1 3 [HV.int .i64 x34])]⟩) (fun a79 w80 h => ?_) (fun a52 w53 st54 h => ?_)
    ·exact to_le (s' := ⟨[(1, HV.fn (.func 58) [] [HV.ptr 15014 v21 0, HV.fptr [slE eStr p0.1, slE eStr p0.2] 0, HV.ptr 15017 v36 0, HV.fptr [HV.int .i64 p1.1, HV.int .i64 p1.2.1, slE eFromLabelTo p1.2.2] 0, HV.ptr 15011 v10 0]), (6, HV.str ([] : List UInt8)), (7, HV.int .i64 0), (8, HV.bool false), (13, slE eStr p0.2), (14, HV.int .i64 ((p0.2).length : Int)), (15, HV.int .i64 0)], [(15011, v10, .arr 1 31 [slE eInt a30.2.1]), (15013, v19, bldO 15013 v19 15513 w31 true a30.2.2.1), (15513, w31, bytO a30.2.2.1), (15014, v21, .arr 1 3 [HV.int .i64 a30.2.2.2]), (15017, v36, .arr 1 3 [HV.int .i64 x34])]⟩) (AS.le_of ⟨rfl, rfl, rfl, rfl, rfl, rfl, rfl, trivial⟩ ⟨rfl, rfl, rfl, rfl, rfl, trivial⟩) ⟨(), rfl⟩
    ·refine AW.rgs rfl fun K hK => ?_
     refine mv rfl rfl ?_
     refine mv rfl rfl ?_
     refine mv rfl rfl ?_
     refine mv rfl rfl ?_
     refine b_fin hK (s' := ⟨[(4, HV.str a79.1), (5, HV.bool a79.2)], [(15011, v10, .arr 1 31 [slE eInt a30.2.1]), (15013, v19, bldO 15013 v19 15513 w31 true a30.2.2.1), (15513, w31, bytO a30.2.2.1), (15014, v21, .arr 1 3 [HV.int .i64 a30.2.2.2]), (15017, v36, .arr 1 3 [HV.int .i64 x34])]⟩) (le_q rfl rfl) ?_
     clear hK K
     refine AW.ret ?_
     refine ret_to (hs := [HV.str a79.1, HV.bool a79.2]) (q := HV.tup [HV.str a79.1, HV.bool a79.2]) (.inr rfl) (resT rfl (resT rfl rfl)) rfl ?_
     exact to_le (s' := ⟨[(3, HV.fptr [slE eStr p0.1, slE eStr p0.2] 0), (4, HV.fptr [HV.int .i64 p1.1, HV.int .i64 p1.2.1, slE eFromLabelTo p1.2.2] 0), (11, HV.ptr 15011 v10 0), (13, HV.ptr 15013 v19 0), (14, HV.ptr 15014 v21 0), (15, HV.fn (.func 53) [] [HV.ptr 15013 v19 0, HV.ptr 15014 v21 0, HV.fptr [HV.int .i64 p1.1, HV.int .i64 p1.2.1, slE eFromLabelTo p1.2.2] 0, HV.ptr 15011 v10 0]), (17, HV.ptr 15017 v36 0), (73, slE eInt ((p2.take (((p2).length : Int)).toNat).drop (1 : Int).toNat)), (74, HV.int .i64 (((p2.take (((p2).length : Int)).toNat).drop (1 : Int).toNat).length : Int)), (75, HV.int .i64 a30.1), (83, HV.tup [HV.str a79.1, HV.bool a79.2])], [(15011, v10, .arr 1 31 [slE eInt a30.2.1]), (15013, v19, bldO 15013 v19 15513 w31 true a30.2.2.1), (15513, w31, bytO a30.2.2.1), (15014, v21, .arr 1 3 [HV.int .i64 a30.2.2.2]), (15017, v36, .arr 1 3 [HV.int .i64 x34])]⟩) (AS.le_of ⟨rfl, rfl, rfl, rfl, rfl, rfl, rfl, rfl, rfl, rfl, rfl, trivial⟩ ⟨rfl, rfl, rfl, rfl, rfl, trivial⟩) ⟨(a79.1, a79.2), (), h, rfl⟩
    refine AW.rgs rfl fun K hK => ?_
    refine bv rfl (v_bin rfl rfl b_lss) ?_
    refine b_fin hK (s' := ⟨[(1, HV.fn (.func 58) [] [HV.ptr 15014 v21 0, HV.fptr [slE eStr p0.1, slE eStr p0.2] 0, HV.ptr 15017 v36 0, HV.fptr [HV.int .i64 p1.1, HV.int .i64 p1.2.1, slE eFromLabelTo p1.2.2] 0, HV.ptr 15011 v10 0]), (6, HV.str a52.1), (7, HV.int .i64 a52.2.1), (8, HV.bool a52.2.2.1), (13, slE eStr p0.2), (14, HV.int .i64 ((p0.2).length : Int)), (15, HV.int .i64 a52.2.2.2), (16, HV.bool (decide (a52.2.2.2 < ((p0.2).length : Int))))], [(15011, v10, .arr 1 31 [slE eInt a30.2.1]), (15013, v19, bldO 15013 v19 15513 w31 true a30.2.2.1), (15513, w31, bytO a30.2.2.1), (15014, v21, .arr 1 3 [HV.int .i64 a30.2.2.2]), (15017, v36, .arr 1 3 [HV.int .i64 x34])]⟩) (le_q rfl rfl) ?_
    clear hK K
    refine AW.cseq rfl (fun hc => ?_) (fun hc => ?_)
    ·have hc := of_decide_eq_true hc
     have h := ifT hc h
     refine AW.skip ?_
     refine AW.seqJ h (S := (List UInt8) × Int × Bool) (V := Unit) (fun a v => ⟨[(1, HV.fn (.func 58) [] [HV.ptr 15014 v21 0, HV.fptr [slE eStr p0.1, slE eStr p0.2] 0, HV.ptr 15017 v36 0, HV.fptr [HV.int .i64 p1.1, HV.int .i64 p1.2.1, slE eFromLabelTo p1.2.2] 0, HV.ptr 15011 v10 0]), (6, HV.str a.1), (7, HV.int .i64 a.2.1), (8, HV.bool a.2.2), (13, slE eStr p0.2), (14, HV.int .i64 ((p0.2).length : Int)), (15, HV.int .i64 a52.2.2.2)], [(15011, v10, .arr 1 31 [slE eInt a30.2.1]), (15013, v19, bldO 15013 v19 15513 w31 true a30.2.2.1), (15513, w31, bytO a30.2.2.1), (15014, v21, .arr 1 3 [HV.int .i64 a30.2.2.2]), (15017, v36, .arr 1 3 [HV.int .i64 x34])]⟩) (fun a56 w57 h => ?_) (fun k58 h => ?_)
     ·refine AW.rg rfl fun K hK => ?_
      refine bv rfl (v_bin rfl rfl b_add) ?_
      refine mv rfl rfl ?_
      refine b_nil (hK _ ?_)
      clear hK K
      exact to_le (s' := ⟨[(1, HV.fn (.func 58) [] [HV.ptr 15014 v21 0, HV.fptr [slE eStr p0.1, slE eStr p0.2] 0, HV.ptr 15017 v36 0, HV.fptr [HV.int .i64 p1.1, HV.int .i64 p1.2.1, slE eFromLabelTo p1.2.2] 0, HV.ptr 15011 v10 0]), (6, HV.str a56.1), (7, HV.int .i64 a56.2.1), (8, HV.bool a56.2.2), (13, slE eStr p0.2), (14, HV.int .i64 ((p0.2).length : Int)), (15, HV.int .i64 (IntKind.wrap .i64 (a52.2.2.2 + 1)))], [(15011, v10, .arr 1 31 [slE eInt a30.2.1]), (15013, v19, bldO 15013 v19 15513 w31 true a30.2.2.1), (15513, w31, bytO a30.2.2.1), (15014, v21, .arr 1 3 [HV.int .i64 a30.2.2.2]), (15017, v36, .arr 1 3 [HV.int .i64 x34])]⟩) (AS.le_of ⟨rfl, rfl, rfl, rfl, rfl, rfl, rfl, trivial⟩ ⟨rfl, rfl, rfl, rfl, rfl, trivial⟩) ⟨(a56.1, a56.2.1, a56.2.2, IntKind.wrap .i64 (a52.2.2.2 + 1)), (), h, rfl⟩
     refine AW.block ?_
     refine AW.rgs rfl fun K hK => ?_
     obtain ⟨x59, h60, h⟩ := bS h
     refine bv rfl (v_idxF ty22 es22 rfl rfl (idx_lt h60)) ?_
     refine bv rfl (v_loadF ty9 rfl (l_cell eStr h60 (o := 0) rfl rfl)) ?_
     refine mv rfl rfl ?_
     refine b_fin hK (s' := ⟨[(1, HV.fn (.func 58) [] [HV.ptr 15014 v21 0, HV.fptr [slE eStr p0.1, slE eStr p0.2] 0, HV.ptr 15017 v36 0, HV.fptr [HV.int .i64 p1.1, HV.int .i64 p1.2.1, slE eFromLabelTo p1.2.2] 0, HV.ptr 15011 v10 0]), (6, HV.str a52.1), (7, HV.int .i64 a52.2.1), (8, HV.bool a52.2.2.1), (10, HV.str x59), (13, slE eStr p0.2), (14, HV.int .i64 ((p0.2).length : Int)), (15, HV.int .i64 a52.2.2.2)], [(15011, v10, .arr 1 31 [slE eInt a30.2.1]), (15013, v19, bldO 15013 v19 15513 w31 true a30.2.2.1), (15513, w31, bytO a30.2.2.1), (15014, v21, .arr 1 3 [HV.int .i64 a30.2.2.2]), (15017, v36, .arr 1 3 [HV.int .i64 x34])]⟩) (le_q rfl rfl) ?_
     clear hK K
     refine AW.rgs rfl fun K hK => ?_
     refine mv rfl rfl ?_
     refine mv rfl rfl ?_
     refine b_op rfl (o_callJ h (S := Int × Bool) (V := Unit) (fun a v => ⟨[(1, HV.fn (.func 58) [] [HV.ptr 15014 v21 0, HV.fptr [slE eStr p0.1, slE eStr p0.2] 0, HV.ptr 15017 v36 0, HV.fptr [HV.int .i64 p1.1, HV.int .i64 p1.2.1, slE eFromLabelTo p1.2.2] 0, HV.ptr 15011 v10 0]), (6, HV.str a52.1), (7, HV.int .i64 a52.2.1), (8, HV.bool a52.2.2.1), (10, HV.str x59), (13, slE eStr p0.2), (14, HV.int .i64 ((p0.2).length : Int)), (15, HV.int .i64 a52.2.2.2), (22, HV.tup [HV.int .i64 a.1, HV.bool a.2])], [(15011, v10, .arr 1 31 [slE eInt a30.2.1]), (15013, v19, bldO 15013 v19 15513 w31 true a30.2.2.1), (15513, w31, bytO a30.2.2.1), (15014, v21, .arr 1 3 [HV.int .i64 a30.2.2.2]), (15017, v36, .arr 1 3 [HV.int .i64 x34])]⟩) rfl rfl rfl rfl (fun a61 w62 h => ?_) (fun k63 h => ?_) )
     ·refine mv rfl rfl ?_
      refine bv rfl (v_extract rfl rfl) ?_
      refine bv rfl (v_extract rfl rfl) ?_
      refine mv rfl rfl ?_
      refine mv rfl rfl ?_
      refine b_fin hK (s' := ⟨[(1, HV.fn (.func 58) [] [HV.ptr 15014 v21 0, HV.fptr [slE eStr p0.1, slE eStr p0.2] 0, HV.ptr 15017 v36 0, HV.fptr [HV.int .i64 p1.1, HV.int .i64 p1.2.1, slE eFromLabelTo p1.2.2] 0, HV.ptr 15011 v10 0]), (6, HV.str a52.1), (7, HV.int .i64 a52.2.1), (8, HV.bool a52.2.2.1), (10, HV.str x59), (11, HV.int .i64 a61.1), (12, HV.bool a61.2), (13, slE eStr p0.2), (14, HV.int .i64 ((p0.2).length : Int)), (15, HV.int .i64 a52.2.2.2)], [(15011, v10, .arr 1 31 [slE eInt a30.2.1]), (15013, v19, bldO 15013 v19 15513 w31 true a30.2.2.1), (15513, w31, bytO a30.2.2.1), (15014, v21, .arr 1 3 [HV.int .i64 a30.2.2.2]), (15017, v36, .arr 1 3 [HV.int .i64 x34])]⟩) (le_q rfl rfl) ?_
      clear hK K
      refine AW.seqJ h (S := Bool) (V := Unit) (fun a v => ⟨[(1, HV.fn (.func 58) [] [HV.ptr 15014 v21 0, HV.fptr [slE eStr p0.1, slE eStr p0.2] 0, HV.ptr 15017 v36 0, HV.fptr [HV.int .i64 p1.1, HV.int .i64 p1.2.1, slE eFromLabelTo p1.2.2] 0, HV.ptr 15011 v10 0]), (6, HV.str a52.1), (7, HV.int .i64 a52.2.1), (8, HV.bool a52.2.2.1), (10, HV.str x59), (11, HV.int .i64 a61.1), (13, slE eStr p0.2), (14, HV.int .i64 ((p0.2).length : Int)), (15, HV.int .i64 a52.2.2.2), (34, HV.bool a)], [(15011, v10, .arr 1 31 [slE eInt a30.2.1]), (15013, v19, bldO 15013 v19 15513 w31 true a30.2.2.1), (15513, w31, bytO a30.2.2.1), (15014, v21, .arr 1 3 [HV.int .i64 a30.2.2.2]), (15017, v36, .arr 1 3 [HV.int .i64 x34])]⟩) (fun a64 w65 h => ?_) (fun k66 h => ?_)
      ·refine AW.cond rfl (fun hc => ?_) (fun hc => ?_)
       ·have h := ifT hc h
        refine AW.rg rfl fun K hK => ?_
        refine mv rfl rfl ?_
        refine mv rfl rfl ?_
        refine mv rfl rfl ?_
        refine mv rfl rfl ?_
        refine mv rfl rfl ?_
        refine b_nil (hK _ ?_)
        clear hK K
        exact to_le (s' := ⟨[(1, HV.fn (.func 58) [] [HV.ptr 15014 v21 0, HV.fptr [slE eStr p0.1, slE eStr p0.2] 0, HV.ptr 15017 v36 0, HV.fptr [HV.int .i64 p1.1, HV.int .i64 p1.2.1, slE eFromLabelTo p1.2.2] 0, HV.ptr 15011 v10 0]), (6, HV.str x59), (7, HV.int .i64 a61.1), (8, HV.bool true), (13, slE eStr p0.2), (14, HV.int .i64 ((p0.2).length : Int)), (15, HV.int .i64 a52.2.2.2)], [(15011, v10, .arr 1 31 [slE eInt a30.2.1]), (15013, v19, bldO 15013 v19 15513 w31 true a30.2.2.1), (15513, w31, bytO a30.2.2.1), (15014, v21, .arr 1 3 [HV.int .i64 a30.2.2.2]), (15017, v36, .arr 1 3 [HV.int .i64 x34])]⟩) (AS.le_of ⟨rfl, rfl, rfl, rfl, rfl, rfl, rfl, trivial⟩ ⟨rfl, rfl, rfl, rfl, rfl, trivial⟩) ⟨(x59, a61.1, true), (), h, rfl⟩
       have h := ifF (bF' hc) h
       refine AW.skip ?_
       exact to_le (s' := ⟨[(1, HV.fn (.func 58) [] [HV.ptr 15014 v21 0, HV.fptr [slE eStr p0.1, slE eStr p0.2] 0, HV.ptr 15017 v36 0, HV.fptr [HV.int .i64 p1.1, HV.int .i64 p1.2.1, slE eFromLabelTo p1.2.2] 0, HV.ptr 15011 v10 0]), (6, HV.str a52.1), (7, HV.int .i64 a52.2.1), (8, HV.bool a52.2.2.1), (13, slE eStr p0.2), (14, HV.int .i64 ((p0.2).length : Int)), (15, HV.int .i64 a52.2.2.2)], [(15011, v10, .arr 1 31 [slE eInt a30.2.1]), (15013, v19, bldO 15013 v19 15513 w31 true a30.2.2.1), (15513, w31, bytO a30.2.2.1), (15014, v21, .arr 1 3 [HV.int .i64 a30.2.2.2]), (15017, v36, .arr 1 3 [HV.int .i64 x34])]⟩) (AS.le_of ⟨rfl, rfl, rfl, rfl, rfl, rfl, rfl, trivial⟩ ⟨rfl, rfl, rfl, rfl, rfl, trivial⟩) ⟨(a52.1, a52.2.1, a52.2.2.1), (), h, rfl⟩
      refine AW.rg rfl fun K hK => ?_
      refine mv rfl rfl ?_
      refine mv rfl rfl ?_
      by_cases hg68 : a61.2 = true
      ·have h := ifT hg68 h
       refine b_T rfl rfl rfl rfl hg68 (o_val rfl (mv_val rfl rfl).2 ?_)
       refine b_T rfl rfl rfl rfl rfl (o_val rfl (v_not rfl) ?_)
       refine b_T rfl rfl rfl rfl rfl (o_val rfl (mv_val rfl rfl).2 ?_)
       by_cases hg67 : (!a52.2.2.1) = true
       ·have h := ifT hg67 h
        refine b_F rfl rfl rfl rfl rfl hg67 ?_
        refine b_F rfl rfl rfl rfl rfl rfl ?_
        refine b_F rfl rfl rfl rfl rfl rfl ?_
        refine b_T rfl rfl rfl rfl rfl (o_val rfl (v_pickT rfl rfl rfl) ?_)
        refine bv rfl (v_pickT rfl rfl rfl) ?_
        refine b_nil (hK _ ?_)
        clear hK K
        exact to_le (s' := ⟨[(1, HV.fn (.func 58) [] [HV.ptr 15014 v21 0, HV.fptr [slE eStr p0.1, slE eStr p0.2] 0, HV.ptr 15017 v36 0, HV.fptr [HV.int .i64 p1.1, HV.int .i64 p1.2.1, slE eFromLabelTo p1.2.2] 0, HV.ptr 15011 v10 0]), (6, HV.str a52.1), (7, HV.int .i64 a52.2.1), (8, HV.bool a52.2.2.1), (10, HV.str x59), (11, HV.int .i64 a61.1), (13, slE eStr p0.2), (14, HV.int .i64 ((p0.2).length : Int)), (15, HV.int .i64 a52.2.2.2), (34, HV.bool true)], [(15011, v10, .arr 1 31 [slE eInt a30.2.1]), (15013, v19, bldO 15013 v19 15513 w31 true a30.2.2.1), (15513, w31, bytO a30.2.2.1), (15014, v21, .arr 1 3 [HV.int .i64 a30.2.2.2]), (15017, v36, .arr 1 3 [HV.int .i64 x34])]⟩) (AS.le_of ⟨rfl, rfl, rfl, rfl, rfl, rfl, rfl, rfl, rfl, rfl, trivial⟩ ⟨rfl, rfl, rfl, rfl, rfl, trivial⟩) ⟨true, (), h, rfl⟩
       have h := ifF hg67 h
       refine b_T rfl rfl rfl rfl (bF hg67) (o_val rfl (mv_val rfl rfl).2 ?_)
       refine b_T rfl rfl rfl rfl rfl (o_val rfl (mv_val rfl rfl).2 ?_)
       refine b_T rfl rfl rfl rfl rfl (o_val rfl (v_bin rfl rfl b_lss) ?_)
       refine b_T rfl rfl rfl rfl rfl (o_val rfl (v_pickF rfl rfl rfl) ?_)
       refine bv rfl (v_pickT rfl rfl rfl) ?_
       refine b_nil (hK _ ?_)
       clear hK K
       exact to_le (s' := ⟨[(1, HV.fn (.func 58) [] [HV.ptr 15014 v21 0, HV.fptr [slE eStr p0.1, slE eStr p0.2] 0, HV.ptr 15017 v36 0, HV.fptr [HV.int .i64 p1.1, HV.int .i64 p1.2.1, slE eFromLabelTo p1.2.2] 0, HV.ptr 15011 v10 0]), (6, HV.str a52.1), (7, HV.int .i64 a52.2.1), (8, HV.bool a52.2.2.1), (10, HV.str x59), (11, HV.int .i64 a61.1), (13, slE eStr p0.2), (14, HV.int .i64 ((p0.2).length : Int)), (15, HV.int .i64 a52.2.2.2), (34, HV.bool (decide (a61.1 < a52.2.1)))], [(15011, v10, .arr 1 31 [slE eInt a30.2.1]), (15013, v19, bldO 15013 v19 15513 w31 true a30.2.2.1), (15513, w31, bytO a30.2.2.1), (15014, v21, .arr 1 3 [HV.int .i64 a30.2.2.2]), (15017, v36, .arr 1 3 [HV.int .i64 x34])]⟩) (AS.le_of ⟨rfl, rfl, rfl, rfl, rfl, rfl, rfl, rfl, rfl, rfl, trivial⟩ ⟨rfl, rfl, rfl, rfl, rfl, trivial⟩) ⟨decide (a61.1 < a52.2.1), (), h, rfl⟩
      have h := ifF hg68 h
      refine b_F rfl rfl rfl rfl rfl (bF hg68) ?_
      refine b_F rfl rfl rfl rfl rfl rfl ?_
      refine b_F rfl rfl rfl rfl rfl rfl ?_
      refine b_U rfl rfl rfl rfl rfl ?_
      refine b_U rfl rfl rfl rfl rfl ?_
      refine b_U rfl rfl rfl rfl rfl ?_
      refine b_F rfl rfl rfl rfl rfl rfl ?_
      refine bv rfl (v_pickF rfl rfl rfl) ?_
      refine b_nil (hK _ ?_)
      clear hK K
      exact to_le (s' := ⟨[(1, HV.fn (.func 58) [] [HV.ptr 15014 v21 0, HV.fptr [slE eStr p0.1, slE eStr p0.2] 0, HV.ptr 15017 v36 0, HV.fptr [HV.int .i64 p1.1, HV.int .i64 p1.2.1, slE eFromLabelTo p1.2.2] 0, HV.ptr 15011 v10 0]), (6, HV.str a52.1), (7, HV.int .i64 a52.2.1), (8, HV.bool a52.2.2.1), (10, HV.str x59), (11, HV.int .i64 a61.1), (13, slE eStr p0.2), (14, HV.int .i64 ((p0.2).length : Int)), (15, HV.int .i64 a52.2.2.2), (34, HV.bool false)], [(15011, v10, .arr 1 31 [slE eInt a30.2.1]), (15013, v19, bldO 15013 v19 15513 w31 true a30.2.2.1), (15513, w31, bytO a30.2.2.1), (15014, v21, .arr 1 3 [HV.int .i64 a30.2.2.2]), (15017, v36, .arr 1 3 [HV.int .i64 x34])]⟩) (AS.le_of ⟨rfl, rfl, rfl, rfl, rfl, rfl, rfl, rfl, rfl, rfl, trivial⟩ ⟨rfl, rfl, rfl, rfl, rfl, trivial⟩) ⟨false, (), h, rfl⟩
     refine ACall.of_body Tryz.func58 rfl rfl (Nat.le_of_ble_eq_true rfl) ?_
     unfold Tryz.f58
     dsimp only [enumS, Nat.reduceAdd]
     refine AW.fin ?_
     refine AW.rgs rfl fun K hK => ?_
     refine mv rfl rfl ?_
     refine mv rfl rfl ?_
     refine b_fin hK (s' := ⟨[(0, HV.str x59), (1, HV.ptr 15014 v21 0), (2, HV.fptr [slE eStr p0.1, slE eStr p0.2] 0), (3, HV.ptr 15017 v36 0), (4, HV.fptr [HV.int .i64 p1.1, HV.int .i64 p1.2.1, slE eFromLabelTo p1.2.2] 0), (5, HV.ptr 15011 v10 0)], [(15011, v10, .arr 1 31 [slE eInt a30.2.1]), (15013, v19, bldO 15013 v19 15513 w31 true a30.2.2.1), (15513, w31, bytO a30.2.2.1), (15014, v21, .arr 1 3 [HV.int .i64 a30.2.2.2]), (15017, v36, .arr 1 3 [HV.int .i64 x34])]⟩) (le_q rfl rfl) ?_
     clear hK K
     refine AW.dgs 11 follows rfl rfl fun K hK => ?_
     refine sv rfl (v_loadP ty3 rfl rfl (l_lit rfl rfl)) ?_
     refine sm rfl rfl ?_
     refine sv rfl (v_fieldAddrF fo24_0 rfl) ?_
     refine sv rfl (v_loadF ty22 rfl (l_lit rfl rfl)) ?_
     refine sv rfl (v_loadP ty3 rfl rfl (l_lit rfl rfl)) ?_
     obtain ⟨x69, h70, h⟩ := bS h
     refine sv rfl (v_idxF ty22 es22 rfl rfl (idx_lt h70)) ?_
     refine sv rfl (v_loadF ty9 rfl (l_cell eStr h70 (o := 0) rfl rfl)) ?_
     obtain ⟨h71, h⟩ := ifN h
     refine sv rfl (v_bin rfl rfl (b_sadd h71)) ?_
     obtain ⟨x72, h73, h⟩ := bS h
     refine s_op rfl rfl (ops_call rfl rfl rfl rfl (ACallD.pure0 (w_merging_weight h73)) ?_)
     refine sv rfl (v_bin rfl rfl b_add) ?_
     refine sm rfl rfl ?_
     refine s_nil ?_
     refine b_fin hK (s' := ⟨[(0, HV.str x59), (2, HV.fptr [slE eStr p0.1, slE eStr p0.2] 0), (3, HV.ptr 15017 v36 0), (4, HV.fptr [HV.int .i64 p1.1, HV.int .i64 p1.2.1, slE eFromLabelTo p1.2.2] 0), (5, HV.ptr 15011 v10 0), (9, HV.int .i64 (IntKind.wrap .i64 (a30.2.2.2 + x72)))], [(15011, v10, .arr 1 31 [slE eInt a30.2.1]), (15013, v19, bldO 15013 v19 15513 w31 true a30.2.2.1), (15513, w31, bytO a30.2.2.1), (15014, v21, .arr 1 3 [HV.int .i64 a30.2.2.2]), (15017, v36, .arr 1 3 [HV.int .i64 x34])]⟩) (le_q rfl rfl) ?_
     clear hK K
     refine AW.dgs 18 follows rfl rfl fun K hK => ?_
     refine sm rfl rfl ?_
     refine sm rfl rfl ?_
     refine sv rfl (v_neg rfl) ?_
     refine sv rfl (v_max rfl rfl rfl) ?_
     refine sv rfl (v_loadF ty27 rfl (l_litA rfl (Nat.le_of_ble_eq_true rfl) rfl)) ?_
     refine sv rfl (v_loadP ty31 rfl rfl (l_lit rfl rfl)) ?_
     refine sm rfl rfl ?_
     refine sv rfl (v_fieldAddrF fo24_0 rfl) ?_
     refine sv rfl (v_loadF ty22 rfl (l_lit rfl rfl)) ?_
     refine sv rfl (v_loadP ty3 rfl rfl (l_lit rfl rfl)) ?_
     obtain ⟨x74, h75, h⟩ := bS h
     refine sv rfl (v_idxF ty22 es22 rfl rfl (idx_lt h75)) ?_
     refine sv rfl (v_loadF ty9 rfl (l_cell eStr h75 (o := 0) rfl rfl)) ?_
     obtain ⟨h76, h⟩ := ifN h
     refine sv rfl (v_bin rfl rfl (b_sadd h76)) ?_
     obtain ⟨x77, h78, h⟩ := bS h
     refine s_op rfl rfl (ops_call rfl rfl rfl rfl (ACallD.pure0 (w_merging_step h78)) ?_)
     refine sv rfl (v_lenF rfl rfl ty31 rfl) ?_
     refine sv rfl (v_bin rfl rfl b_gtr) ?_
     refine sm rfl rfl ?_
     refine sm rfl rfl ?_
     refine s_nil ?_
     refine b_fin hK (s' := ⟨[(7, HV.int .i64 (max (IntKind.wrap .i64 (a30.2.2.2 + x72)) (IntKind.wrap .i64 (0 - (IntKind.wrap .i64 (a30.2.2.2 + x72)))))), (8, HV.bool (decide (0 < ((x77).length : Int))))], [(15011, v10, .arr 1 31 [slE eInt a30.2.1]), (15013, v19, bldO 15013 v19 15513 w31 true a30.2.2.1), (15513, w31, bytO a30.2.2.1), (15014, v21, .arr 1 3 [HV.int .i64 a30.2.2.2]), (15017, v36, .arr 1 3 [HV.int .i64 x34])]⟩) (le_q rfl rfl) ?_
     clear hK K
     refine AW.ret ?_
     refine ret_to (hs := [HV.int .i64 (max (IntKind.wrap .i64 (a30.2.2.2 + x72)) (IntKind.wrap .i64 (0 - (IntKind.wrap .i64 (a30.2.2.2 + x72))))), HV.bool (decide (0 < ((x77).length : Int)))]) (q := HV.tup [HV.int .i64 (max (IntKind.wrap .i64 (a30.2.2.2 + x72)) (IntKind.wrap .i64 (0 - (IntKind.wrap .i64 (a30.2.2.2 + x72))))), HV.bool (decide (0 < ((x77).length : Int)))]) (.inr rfl) (resT rfl (resT rfl rfl)) rfl ?_
     exact to_le (s' := ⟨[(1, HV.fn (.func 58) [] [HV.ptr 15014 v21 0, HV.fptr [slE eStr p0.1, slE eStr p0.2] 0, HV.ptr 15017 v36 0, HV.fptr [HV.int .i64 p1.1, HV.int .i64 p1.2.1, slE eFromLabelTo p1.2.2] 0, HV.ptr 15011 v10 0]), (6, HV.str a52.1), (7, HV.int .i64 a52.2.1), (8, HV.bool a52.2.2.1), (10, HV.str x59), (13, slE eStr p0.2), (14, HV.int .i64 ((p0.2).length : Int)), (15, HV.int .i64 a52.2.2.2), (22, HV.tup [HV.int .i64 (max (IntKind.wrap .i64 (a30.2.2.2 + x72)) (IntKind.wrap .i64 (0 - (IntKind.wrap .i64 (a30.2.2.2 + x72))))), HV.bool (decide (0 < ((x77).length : Int)))])], [(15011, v10, .arr 1 31 [slE eInt a30.2.1]), (15013, v19, bldO 15013 v19 15513 w31 true a30.2.2.1), (15513, w31, bytO a30.2.2.1), (15014, v21, .arr 1 3 [HV.int .i64 a30.2.2.2]), (15017, v36, .arr 1 3 [HV.int .i64 x34])]⟩) (AS.le_of ⟨rfl, rfl, rfl, rfl, rfl, rfl, rfl, rfl, rfl, trivial⟩ ⟨rfl, rfl, rfl, rfl, rfl, trivial⟩) ⟨(max (IntKind.wrap .i64 (a30.2.2.2 + x72)) (IntKind.wrap .i64 (0 - (IntKind.wrap .i64 (a30.2.2.2 + x72)))), decide (0 < ((x77).length : Int))), (), h, rfl⟩
    have hc := of_decide_eq_false hc
    have h := ifF hc h
    refine AW.exit ?_
    exact to_le (s' := ⟨[(6, HV.str a52.1), (8, HV.bool a52.2.2.1)], [(15011, v10, .arr 1 31 [slE eInt a30.2.1]), (15013, v19, bldO 15013 v19 15513 w31 true a30.2.2.1), (15513, w31, bytO a30.2.2.1), (15014, v21, .arr 1 3 [HV.int .i64 a30.2.2.2]), (15017, v36, .arr 1 3 [HV.int .i64 x34])]⟩) (AS.le_of ⟨rfl, rfl, trivial⟩ ⟨rfl, rfl, rfl, rfl, rfl, trivial⟩) ⟨(a52.1, a52.2.2.1), (), h, rfl⟩
   have hc := of_decide_eq_false hc
   have h := ifF hc h
   refine AW.exit ?_
   exact to_le (s' := ⟨[(13, HV.ptr 15013 v19 0)], [(15013, v19, bldO 15013 v19 15513 w31 true a30.2.2.1), (15513, w31, bytO a30.2.2.1)]⟩) (AS.le_of ⟨rfl, trivial⟩ ⟨rfl, rfl, trivial⟩) ⟨a30.2.2.1, w31, h, rfl⟩
  refine ACall.of_body Tryz.func53 rfl rfl (Nat.le_of_ble_eq_true rfl) ?_
  unfold Tryz.f53
  dsimp only [enumS, Nat.reduceAdd]
  refine AW.fin ?_
  refine AW.rgs rfl fun K hK => ?_
  refine mv rfl rfl ?_
  obtain ⟨h85, h⟩ := ifN h
  refine b_op rfl (o_callA rfl rfl rfl rfl (c_WriteString (id := 15013) (ver := v19) (aid := 15513) (aver := v20) (u := false) (l := ([] : List UInt8)) (m := x24) (by decide) rfl rfl h85 fun v84 => ?_) )
  refine b_fin hK (s' := ⟨[(0, HV.str x24), (2, HV.ptr 15014 v21 0), (3, HV.fptr [HV.int .i64 p1.1, HV.int .i64 p1.2.1, slE eFromLabelTo p1.2.2] 0), (4, HV.ptr 15011 v10 0)], [(15011, v10, .arr 1 31 [HV.ar 15051 v8 eInt.k 0 ((a17).length)]), (15051, v8, .arr eInt.k 3 (eInt.E a17)), (15013, v19, bldO 15013 v19 15513 v84 true (([] : List UInt8) ++ x24)), (15513, v84, bytO (([] : List UInt8) ++ x24)), (15014, v21, .arr 1 3 [HV.int .i64 0])]⟩) (le_q rfl rfl) ?_
  clear hK K
  refine AW.dgs 4 follows rfl rfl fun K hK => ?_
  refine sv rfl (v_loadP ty3 rfl rfl (l_lit rfl rfl)) ?_
  refine sm rfl rfl ?_
  obtain ⟨x86, h87, h⟩ := bS h
  refine s_op rfl rfl (ops_call rfl rfl rfl rfl (ACallD.pure0 (w_merging_weight h87)) ?_)
  refine sv rfl (v_bin rfl rfl b_add) ?_
  refine s_nil ?_
  refine b_op rfl (o_store (cs := [HV.int .i64 (IntKind.wrap .i64 (0 + x86))]) (zs := [HV.int .i64 (IntKind.wrap .i64 (0 + x86))]) rfl rfl rfl ty3 rfl rfl rfl rfl rfl ?_)
  refine b_fin hK (s' := ⟨[(0, HV.str x24), (3, HV.fptr [HV.int .i64 p1.1, HV.int .i64 p1.2.1, slE eFromLabelTo p1.2.2] 0), (4, HV.ptr 15011 v10 0)], [(15011, v10, .arr 1 31 [HV.ar 15051 v8 eInt.k 0 ((a17).length)]), (15051, v8, .arr eInt.k 3 (eInt.E a17)), (15013, v19, bldO 15013 v19 15513 v84 true (([] : List UInt8) ++ x24)), (15513, v84, bytO (([] : List UInt8) ++ x24)), (15014, v21, .arr 1 3 [HV.int .i64 (IntKind.wrap .i64 (0 + x86))])]⟩) (le_q rfl rfl) ?_
  clear hK K
  refine AW.to (to_fill 2 [(15051, v8, .arr eInt.k 3 (eInt.E a17))] ⟨[(0, HV.str x24), (3, HV.fptr [HV.int .i64 p1.1, HV.int .i64 p1.2.1, slE eFromLabelTo p1.2.2] 0), (4, HV.ptr 15011 v10 0)], [(15011, v10, .arr 1 31 [slE eInt a17]), (15013, v19, bldO 15013 v19 15513 v84 true (([] : List UInt8) ++ x24)), (15513, v84, bytO (([] : List UInt8) ++ x24)), (15014, v21, .arr 1 3 [HV.int .i64 (IntKind.wrap .i64 (0 + x86))])]⟩ ⟨⟨_, rfl, rfl⟩, ⟨_, rfl, rfl⟩, ⟨_, rfl, rfl⟩, trivial⟩ ⟨.inr ⟨_, _, _, rfl, congrArg (AObj.arr 1 31) (congrArg (fun z : HV => [z]) (frz_slE eInt (D := [(15051, v8, .arr eInt.k 3 (eInt.E a17))]) (l := a17) rfl fun _ _ => rfl).symm)⟩, .inl rfl, .inl rfl, .inl rfl, trivial⟩ ⟨rfl, trivial⟩ ⟨rfl, trivial⟩ ?_)
  refine AW.rg rfl fun K hK => ?_
  refine bv rfl (v_loadF ty27 rfl (l_litA rfl (Nat.le_of_ble_eq_true rfl) rfl)) ?_
  refine bv rfl (v_loadP ty31 rfl rfl (l_lit rfl rfl)) ?_
  refine mv rfl rfl ?_
  obtain ⟨x88, h89, h⟩ := bS h
  refine b_op rfl (o_call rfl rfl rfl rfl (ACallD.pure0 (w_merging_step h89)) ?_)
  refine b_op rfl (o_store (cs := [slE eInt x88]) (zs := [slE eInt x88]) rfl rfl rfl ty31 rfl rfl rfl rfl rfl ?_)
  refine b_nil (hK _ ?_)
  clear hK K
  refine to_refl ?_
  refine ret_to (hs := []) (q := HV.tup []) (.inl rfl) rfl rfl ?_
  exact to_le (s' := ⟨[(2, slE eInt p2), (3, HV.fptr [slE eStr p0.1, slE eStr p0.2] 0), (4, HV.fptr [HV.int .i64 p1.1, HV.int .i64 p1.2.1, slE eFromLabelTo p1.2.2] 0), (11, HV.ptr 15011 v10 0), (13, HV.ptr 15013 v19 0), (14, HV.ptr 15014 v21 0), (15, HV.fn (.func 53) [] [HV.ptr 15013 v19 0, HV.ptr 15014 v21 0, HV.fptr [HV.int .i64 p1.1, HV.int .i64 p1.2.1, slE eFromLabelTo p1.2.2] 0, HV.ptr 15011 v10 0]), (71, HV.tup [])], [(15011, v10, .arr 1 31 [slE eInt x88]), (15013, v19, bldO 15013 v19 15513 v84 true (([] : List UInt8) ++ x24)), (15513, v84, bytO (([] : List UInt8) ++ x24)), (15014, v21, .arr 1 3 [HV.int .i64 (IntKind.wrap .i64 (0 + x86))])]⟩) (AS.le_of ⟨rfl, rfl, rfl, rfl, rfl, rfl, rfl, rfl, trivial⟩ ⟨rfl, rfl, rfl, rfl, trivial⟩) ⟨(x88, IntKind.wrap .i64 (0 + x86)), v84, h, rfl⟩
 refine AW.rgs rfl fun K hK => ?_
 refine bv rfl (v_bin rfl rfl b_lss) ?_
 refine b_fin hK (s' := ⟨[(2, slE eInt p2), (3, HV.fptr [slE eStr p0.1, slE eStr p0.2] 0), (4, HV.fptr [HV.int .i64 p1.1, HV.int .i64 p1.2.1, slE eFromLabelTo p1.2.2] 0), (11, HV.ptr 15011 v10 0), (53, HV.int .i64 (((List.replicate (p1.2.1).toNat (0 : Int)).length : Nat) : Int)), (54, HV.int .i64 a11.1), (55, HV.bool (decide (a11.1 < (((List.replicate (p1.2.1).toNat (0 : Int)).length : Nat) : Int))))], [(15011, v10, .arr 1 31 [HV.ar 15051 v8 eInt.k 0 ((a11.2).length)]), (15051, v8, .arr eInt.k 3 (eInt.E a11.2))]⟩) (le_q rfl rfl) ?_
 clear hK K
 refine AW.cseq rfl (fun hc => ?_) (fun hc => ?_)
 ·have hc := of_decide_eq_true hc
  have h := ifT hc h
  refine AW.skip ?_
  refine AW.seq (AW.block ?_)
  refine AW.rgs rfl fun K hK => ?_
  refine mv rfl rfl ?_
  refine mv rfl rfl ?_
  refine b_fin hK (s' := ⟨[(2, slE eInt p2), (3, HV.fptr [slE eStr p0.1, slE eStr p0.2] 0), (4, HV.fptr [HV.int .i64 p1.1, HV.int .i64 p1.2.1, slE eFromLabelTo p1.2.2] 0), (11, HV.ptr 15011 v10 0), (12, HV.int .i64 a11.1), (53, HV.int .i64 (((List.replicate (p1.2.1).toNat (0 : Int)).length : Nat) : Int)), (54, HV.int .i64 a11.1)], [(15011, v10, .arr 1 31 [HV.ar 15051 v8 eInt.k 0 ((a11.2).length)]), (15051, v8, .arr eInt.k 3 (eInt.E a11.2))]⟩) (le_q rfl rfl) ?_
  clear hK K
  refine AW.rg rfl fun K hK => ?_
  refine bv rfl (v_loadP ty31 rfl rfl (l_lit rfl rfl)) ?_
  refine mv rfl rfl ?_
  refine mv rfl rfl ?_
  obtain ⟨x15, h16, h⟩ := bS h
  refine bv rfl (v_idxA ty31 es31 rfl rfl (idx_lt h16) rfl) ?_
  refine b_op rfl (o_storeE eInt (l := a11.2) (j := a11.1) (v := a11.1) rfl rfl rfl ty3 rfl rfl rfl (idx_lt h16) ?_)
  refine b_fin hK (s' := ⟨[(2, slE eInt p2), (3, HV.fptr [slE eStr p0.1, slE eStr p0.2] 0), (4, HV.fptr [HV.int .i64 p1.1, HV.int .i64 p1.2.1, slE eFromLabelTo p1.2.2] 0), (11, HV.ptr 15011 v10 0), (53, HV.int .i64 (((List.replicate (p1.2.1).toNat (0 : Int)).length : Nat) : Int)), (54, HV.int .i64 a11.1)], [(15011, v10, .arr 1 31 [HV.ar 15051 v8 eInt.k 0 (((a11.2).set (a11.1).toNat a11.1).length)]), (15051, v8, .arr eInt.k 3 (eInt.E ((a11.2).set (a11.1).toNat a11.1)))]⟩) (AS.le_of ⟨rfl, rfl, rfl, rfl, rfl, rfl, trivial⟩ ⟨hle rfl (by first | rfl | simp only [List.length_set, sortI_len, sortS_len]), rfl, trivial⟩) ?_
  clear hK K
  refine AW.rg rfl fun K hK => ?_
  refine bv rfl (v_bin rfl rfl b_add) ?_
  refine mv rfl rfl ?_
  refine b_nil (hK _ ?_)
  clear hK K
  exact to_le (s' := ⟨[(2, slE eInt p2), (3, HV.fptr [slE eStr p0.1, slE eStr p0.2] 0), (4, HV.fptr [HV.int .i64 p1.1, HV.int .i64 p1.2.1, slE eFromLabelTo p1.2.2] 0), (11, HV.ptr 15011 v10 0), (53, HV.int .i64 (((List.replicate (p1.2.1).toNat (0 : Int)).length : Nat) : Int)), (54, HV.int .i64 (IntKind.wrap .i64 (a11.1 + 1)))], [(15011, v10, .arr 1 31 [HV.ar 15051 v8 eInt.k 0 (((a11.2).set (a11.1).toNat a11.1).length)]), (15051, v8, .arr eInt.k 3 (eInt.E ((a11.2).set (a11.1).toNat a11.1)))]⟩) (AS.le_of ⟨rfl, rfl, rfl, rfl, rfl, rfl, trivial⟩ ⟨rfl, rfl, trivial⟩) ⟨(IntKind.wrap .i64 (a11.1 + 1), (a11.2).set (a11.1).toNat a11.1), (), h, rfl⟩
 have hc := of_decide_eq_false hc
 have h := ifF hc h
 refine AW.exit ?_
 exact to_le (s' := ⟨[(2, slE eInt p2), (3, HV.fptr [slE eStr p0.1, slE eStr p0.2] 0), (4, HV.fptr [HV.int .i64 p1.1, HV.int .i64 p1.2.1, slE eFromLabelTo p1.2.2] 0), (11, HV.ptr 15011 v10 0)], [(15011, v10, .arr 1 31 [HV.ar 15051 v8 eInt.k 0 ((a11.2).length)]), (15051, v8, .arr eInt.k 3 (eInt.E a11.2))]⟩) (AS.le_of ⟨rfl, rfl, rfl, rfl, trivial⟩ ⟨rfl, rfl, trivial⟩) ⟨a11.2, (), h, rfl⟩

end Go.AW
