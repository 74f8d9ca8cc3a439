import Derived.Test.YtibfjjmglgabdaaDoorCp4
namespace Go.AW
open Go Go.Proofs
set_option linter.unusedVariables false
set_option maxHeartbeats 1600000 in
set_option maxRecDepth 100000 in
theorem w_integer_add {p0 : List (Int)} {p1 : List (Int)} {r : (List (Int))} (h : m_integer_add p0 p1 = some r) : Pure Tryd.prog 65 [slE (encM (HV.int .u32)) p0, slE (encM (HV.int .u32)) p1] (· = slE (encM (HV.int .u32)) r) := by
 unfold m_integer_add at h
 refine Pure.of_body Tryd.func65 rfl rfl (Nat.le_of_ble_eq_true rfl) fun hf => ?_
 unfold Tryd.f65
 dsimp only [enumS, Nat.reduceAdd]
 refine AW.rgs rfl fun K hK => ?_
 refine mv rfl rfl ?_
 refine b_fin hK (s' := ⟨[(0, slE (encM (HV.int .u32)) p0), (1, slE (encM (HV.int .u32)) p1)], []⟩) (le_q rfl rfl) ?_
 clear hK K
 refine AW.seq ?_
 refine AW.rgs rfl fun K hK => ?_
 refine mv rfl rfl ?_
 refine bv rfl (v_lenF rfl rfl ty99 rfl) ?_
 refine mv rfl rfl ?_
 refine bv rfl (v_lenF rfl rfl ty99 rfl) ?_
 refine bv rfl (v_bin rfl rfl b_lss) ?_
 refine b_fin hK (s' := ⟨[(0, slE (encM (HV.int .u32)) p0), (1, slE (encM (HV.int .u32)) p1), (13, HV.bool (decide (((p0).length : Int) < ((p1).length : Int))))], []⟩) (le_q rfl rfl) ?_
 clear hK K
 refine AW.lastJ h (by first | exact up_then | exact up_to) (S := (List Int) × (List Int)) (V := Unit) (fun a v => ⟨[(0, slE (encM (HV.int .u32)) a.1), (1, slE (encM (HV.int .u32)) a.2)], []⟩) (fun a1 w2 h => ?_) (fun k3 h => ?_)
 ·refine AW.rgs rfl fun K hK => ?_
  refine mv rfl rfl ?_
  refine bv rfl (v_lenF rfl rfl ty99 rfl) ?_
  refine bv rfl (v_bin rfl rfl b_add) ?_
  obtain ⟨h5, h⟩ := ifN h
  refine b_op rfl (o_makeE (fid := 65) (encM (HV.int .u32)) (0 : Int) 65019 rfl rfl ty99 rfl rfl ty97 rfl rfl h5 (fun v4 => ?_))
  refine mv rfl rfl ?_
  refine b_fin hK (s' := ⟨[(0, slE (encM (HV.int .u32)) a1.1), (1, slE (encM (HV.int .u32)) a1.2), (5, HV.ar 65019 v4 (encM (HV.int .u32)).k 0 ((List.replicate (IntKind.wrap .i64 (((a1.1).length : Int) + 1)).toNat (0 : Int)).length))], [(65019, v4, .arr (encM (HV.int .u32)).k 97 ((encM (HV.int .u32)).E (List.replicate (IntKind.wrap .i64 (((a1.1).length : Int) + 1)).toNat (0 : Int))))]⟩) (le_q rfl rfl) ?_
  clear hK K
  refine AW.rgs rfl fun K hK => ?_
  refine mv rfl rfl ?_
  refine b_fin hK (s' := ⟨[(0, slE (encM (HV.int .u32)) a1.1), (1, slE (encM (HV.int .u32)) a1.2), (5, HV.ar 65019 v4 (encM (HV.int .u32)).k 0 ((List.replicate (IntKind.wrap .i64 (((a1.1).length : Int) + 1)).toNat (0 : Int)).length)), (6, HV.int .u64 0)], [(65019, v4, .arr (encM (HV.int .u32)).k 97 ((encM (HV.int .u32)).E (List.replicate (IntKind.wrap .i64 (((a1.1).length : Int) + 1)).toNat (0 : Int))))]⟩) (le_q rfl rfl) ?_
  clear hK K
  refine AW.seq ?_
  refine AW.rgs rfl fun K hK => ?_
  refine mv rfl rfl ?_
  refine bv rfl (v_lenF rfl rfl ty99 rfl) ?_
  refine mv rfl rfl ?_
  refine b_fin hK (s' := ⟨[(0, slE (encM (HV.int .u32)) a1.1), (1, slE (encM (HV.int .u32)) a1.2), (5, HV.ar 65019 v4 (encM (HV.int .u32)).k 0 ((List.replicate (IntKind.wrap .i64 (((a1.1).length : Int) + 1)).toNat (0 : Int)).length)), (6, HV.int .u64 0), (21, HV.int .i64 ((a1.1).length : Int)), (22, HV.int .i64 0)], [(65019, v4, .arr (encM (HV.int .u32)).k 97 ((encM (HV.int .u32)).E (List.replicate (IntKind.wrap .i64 (((a1.1).length : Int) + 1)).toNat (0 : Int))))]⟩) (le_q rfl rfl) ?_
  clear hK K
  refine AW.lpX h (by first | exact up_then | exact up_to) (S := Int × Int × (List Int)) (V := Unit) (fun a v => ⟨[(0, slE (encM (HV.int .u32)) a1.1), (1, slE (encM (HV.int .u32)) a1.2), (5, HV.ar 65019 v4 (encM (HV.int .u32)).k 0 ((a.2.2).length)), (6, HV.int .u64 a.1), (21, HV.int .i64 ((a1.1).length : Int)), (22, HV.int .i64 a.2.1)], [(65019, v4, .arr (encM (HV.int .u32)).k 97 ((encM (HV.int .u32)).E a.2.2))]⟩) ?_ (X := (List Int) × Int) (W := Unit) (fun a v => ⟨[(0, slE (encM (HV.int .u32)) a1.1), (5, HV.ar 65019 v4 (encM (HV.int .u32)).k 0 ((a.1).length)), (6, HV.int .u64 a.2)], [(65019, v4, .arr (encM (HV.int .u32)).k 97 ((encM (HV.int .u32)).E a.1))]⟩) (fun a19 w20 h => ?_) (fun a6 w7 st8 h => ?_)
  ·exact to_le (s' := ⟨[(0, slE (encM (HV.int .u32)) a1.1), (1, slE (encM (HV.int .u32)) a1.2), (5, HV.ar 65019 v4 (encM (HV.int .u32)).k 0 ((List.replicate (IntKind.wrap .i64 (((a1.1).length : Int) + 1)).toNat (0 : Int)).length)), (6, HV.int .u64 0), (21, HV.int .i64 ((a1.1).length : Int)), (22, HV.int .i64 0)], [(65019, v4, .arr (encM (HV.int .u32)).k 97 ((encM (HV.int .u32)).E (List.replicate (IntKind.wrap .i64 (((a1.1).length : Int) + 1)).toNat (0 : Int))))]⟩) (AS.le_of ⟨rfl, rfl, rfl, rfl, rfl, rfl, trivial⟩ ⟨rfl, trivial⟩) ⟨(), rfl⟩
  ·refine AW.rgs rfl fun K hK => ?_
   refine mv rfl rfl ?_
   refine mv rfl rfl ?_
   refine bv rfl (v_lenF rfl rfl ty99 rfl) ?_
   refine mv rfl rfl ?_
   refine bv rfl (v_convI ty95 ty97 rfl) ?_
   obtain ⟨x21, h22, h⟩ := bS h
   refine bv rfl (v_idxA ty99 es99 rfl rfl (idx_lt h22) rfl) ?_
   refine b_op rfl (o_storeE (encM (HV.int .u32)) (l := a19.1) (j := ((a1.1).length : Int)) (v := IntKind.wrap .u32 a19.2) rfl rfl rfl ty97 rfl rfl rfl (idx_lt h22) ?_)
   refine b_fin hK (s' := ⟨[(5, HV.ar 65019 v4 (encM (HV.int .u32)).k 0 (((a19.1).set (((a1.1).length : Int)).toNat (IntKind.wrap .u32 a19.2)).length))], [(65019, v4, .arr (encM (HV.int .u32)).k 97 ((encM (HV.int .u32)).E ((a19.1).set (((a1.1).length : Int)).toNat (IntKind.wrap .u32 a19.2))))]⟩) (AS.le_of ⟨arl (by first | rfl | simp only [List.length_set, sortI_len, sortS_len]), trivial⟩ ⟨rfl, trivial⟩) ?_
   clear hK K
   refine AW.to (to_frz 2 [(65019, v4, .arr (encM (HV.int .u32)).k 97 ((encM (HV.int .u32)).E ((a19.1).set (((a1.1).length : Int)).toNat (IntKind.wrap .u32 a19.2))))] ⟨[(5, slE (encM (HV.int .u32)) ((a19.1).set (((a1.1).length : Int)).toNat (IntKind.wrap .u32 a19.2)))], []⟩ ⟨⟨_, rfl, frz_slE (encM (HV.int .u32)) (l := (a19.1).set (((a1.1).length : Int)).toNat (IntKind.wrap .u32 a19.2)) rfl fun _ _ => rfl⟩, trivial⟩ trivial ⟨rfl, trivial⟩ ⟨rfl, trivial⟩ ?_)
   refine AW.rgs rfl fun K hK => ?_
   refine mv rfl rfl ?_
   obtain ⟨x23, h24, h⟩ := bS h
   refine b_op rfl (o_call rfl rfl rfl rfl (ACallD.pure0 (w_integer_trim h24)) ?_)
   refine mv rfl rfl ?_
   refine b_fin hK (s' := ⟨[(4, slE (encM (HV.int .u32)) x23)], []⟩) (le_q rfl rfl) ?_
   clear hK K
   refine AW.ret ?_
   have h := Option.some.inj h
   subst h
   exact ret_pure (hs := [slE (encM (HV.int .u32)) x23]) (q := slE (encM (HV.int .u32)) x23) (.inr rfl) (resT rfl rfl) rfl (clean_slE fun _ _ => ⟨trivial, trivial⟩)
  refine AW.rgs rfl fun K hK => ?_
  refine bv rfl (v_bin rfl rfl b_lss) ?_
  refine b_fin hK (s' := ⟨[(0, slE (encM (HV.int .u32)) a1.1), (1, slE (encM (HV.int .u32)) a1.2), (5, HV.ar 65019 v4 (encM (HV.int .u32)).k 0 ((a6.2.2).length)), (6, HV.int .u64 a6.1), (21, HV.int .i64 ((a1.1).length : Int)), (22, HV.int .i64 a6.2.1), (23, HV.bool (decide (a6.2.1 < ((a1.1).length : Int))))], [(65019, v4, .arr (encM (HV.int .u32)).k 97 ((encM (HV.int .u32)).E a6.2.2))]⟩) (le_q rfl rfl) ?_
  clear hK K
  refine AW.cseq rfl (fun hc => ?_) (fun hc => ?_)
  ·have hc := of_decide_eq_true hc
   have h := ifT hc h
   refine AW.skip ?_
   refine AW.seq (AW.block ?_)
   refine AW.rgs rfl fun K hK => ?_
   refine mv rfl rfl ?_
   refine mv rfl rfl ?_
   refine b_fin hK (s' := ⟨[(0, slE (encM (HV.int .u32)) a1.1), (1, slE (encM (HV.int .u32)) a1.2), (5, HV.ar 65019 v4 (encM (HV.int .u32)).k 0 ((a6.2.2).length)), (6, HV.int .u64 a6.1), (7, HV.int .i64 a6.2.1), (21, HV.int .i64 ((a1.1).length : Int)), (22, HV.int .i64 a6.2.1)], [(65019, v4, .arr (encM (HV.int .u32)).k 97 ((encM (HV.int .u32)).E a6.2.2))]⟩) (le_q rfl rfl) ?_
   clear hK K
   refine AW.rgs rfl fun K hK => ?_
   refine mv rfl rfl ?_
   refine mv rfl rfl ?_
   obtain ⟨x10, h11, h⟩ := bS h
   refine bv rfl (v_idxF ty99 es99 rfl rfl (idx_lt h11)) ?_
   refine bv rfl (v_loadF ty97 rfl (l_cell (encM (HV.int .u32)) h11 (o := 0) rfl rfl)) ?_
   refine bv rfl (v_convI ty97 ty95 rfl) ?_
   refine mv rfl rfl ?_
   refine bv rfl (v_bin rfl rfl b_add) ?_
   refine mv rfl rfl ?_
   refine b_fin hK (s' := ⟨[(0, slE (encM (HV.int .u32)) a1.1), (1, slE (encM (HV.int .u32)) a1.2), (5, HV.ar 65019 v4 (encM (HV.int .u32)).k 0 ((a6.2.2).length)), (7, HV.int .i64 a6.2.1), (8, HV.int .u64 (IntKind.wrap .u64 ((IntKind.wrap .u64 x10) + a6.1))), (21, HV.int .i64 ((a1.1).length : Int)), (22, HV.int .i64 a6.2.1)], [(65019, v4, .arr (encM (HV.int .u32)).k 97 ((encM (HV.int .u32)).E a6.2.2))]⟩) (le_q rfl rfl) ?_
   clear hK K
   refine AW.seq ?_
   refine AW.rgs rfl fun K hK => ?_
   refine mv rfl rfl ?_
   refine mv rfl rfl ?_
   refine bv rfl (v_lenF rfl rfl ty99 rfl) ?_
   refine bv rfl (v_bin rfl rfl b_lss) ?_
   refine b_fin hK (s' := ⟨[(0, slE (encM (HV.int .u32)) a1.1), (1, slE (encM (HV.int .u32)) a1.2), (5, HV.ar 65019 v4 (encM (HV.int .u32)).k 0 ((a6.2.2).length)), (7, HV.int .i64 a6.2.1), (8, HV.int .u64 (IntKind.wrap .u64 ((IntKind.wrap .u64 x10) + a6.1))), (21, HV.int .i64 ((a1.1).length : Int)), (22, HV.int .i64 a6.2.1), (35, HV.bool (decide (a6.2.1 < ((a1.2).length : Int))))], [(65019, v4, .arr (encM (HV.int .u32)).k 97 ((encM (HV.int .u32)).E a6.2.2))]⟩) (le_q rfl rfl) ?_
   clear hK K
   refine AW.lastJ h (by first | exact up_then | exact up_to) (S := Int) (V := Unit) (fun a v => ⟨[(0, slE (encM (HV.int .u32)) a1.1), (1, slE (encM (HV.int .u32)) a1.2), (5, HV.ar 65019 v4 (encM (HV.int .u32)).k 0 ((a6.2.2).length)), (7, HV.int .i64 a6.2.1), (8, HV.int .u64 a), (21, HV.int .i64 ((a1.1).length : Int)), (22, HV.int .i64 a6.2.1)], [(65019, v4, .arr (encM (HV.int .u32)).k 97 ((encM (HV.int .u32)).E a6.2.2))]⟩) (fun a12 w13 h => ?_) (fun k14 h => ?_)
   ·refine AW.rg rfl fun K hK => ?_
    refine mv rfl rfl ?_
    refine mv rfl rfl ?_
    refine mv rfl rfl ?_
    refine bv rfl (v_convI ty95 ty97 rfl) ?_
    refine mv rfl rfl ?_
    refine bv rfl (v_bin rfl rfl (b_shr (by decide))) ?_
    obtain ⟨x15, h16, h⟩ := bS h
    refine bv rfl (v_idxA ty99 es99 rfl rfl (idx_lt h16) rfl) ?_
    refine b_op rfl (o_storeE (encM (HV.int .u32)) (l := a6.2.2) (j := a6.2.1) (v := IntKind.wrap .u32 a12) rfl rfl rfl ty97 rfl rfl rfl (idx_lt h16) ?_)
    refine mv rfl rfl ?_
    refine b_fin hK (s' := ⟨[(0, slE (encM (HV.int .u32)) a1.1), (1, slE (encM (HV.int .u32)) a1.2), (5, HV.ar 65019 v4 (encM (HV.int .u32)).k 0 (((a6.2.2).set (a6.2.1).toNat (IntKind.wrap .u32 a12)).length)), (6, HV.int .u64 (Int.fdiv a12 (2 ^ (min (32 : Int).toNat (IntKind.bits .u64))))), (21, HV.int .i64 ((a1.1).length : Int)), (22, HV.int .i64 a6.2.1)], [(65019, v4, .arr (encM (HV.int .u32)).k 97 ((encM (HV.int .u32)).E ((a6.2.2).set (a6.2.1).toNat (IntKind.wrap .u32 a12))))]⟩) (AS.le_of ⟨rfl, rfl, arl (by first | rfl | simp only [List.length_set, sortI_len, sortS_len]), rfl, rfl, rfl, trivial⟩ ⟨rfl, trivial⟩) ?_
    clear hK K
    refine AW.rg rfl fun K hK => ?_
    refine bv rfl (v_bin rfl rfl b_add) ?_
    refine mv rfl rfl ?_
    refine b_nil (hK _ ?_)
    clear hK K
    exact to_le (s' := ⟨[(0, slE (encM (HV.int .u32)) a1.1), (1, slE (encM (HV.int .u32)) a1.2), (5, HV.ar 65019 v4 (encM (HV.int .u32)).k 0 (((a6.2.2).set (a6.2.1).toNat (IntKind.wrap .u32 a12)).length)), (6, HV.int .u64 (Int.fdiv a12 (2 ^ (min (32 : Int).toNat (IntKind.bits .u64))))), (21, HV.int .i64 ((a1.1).length : Int)), (22, HV.int .i64 (IntKind.wrap .i64 (a6.2.1 + 1)))], [(65019, v4, .arr (encM (HV.int .u32)).k 97 ((encM (HV.int .u32)).E ((a6.2.2).set (a6.2.1).toNat (IntKind.wrap .u32 a12))))]⟩) (AS.le_of ⟨rfl, rfl, rfl, rfl, rfl, rfl, trivial⟩ ⟨rfl, trivial⟩) ⟨(Int.fdiv a12 (2 ^ (min (32 : Int).toNat (IntKind.bits .u64))), IntKind.wrap .i64 (a6.2.1 + 1), (a6.2.2).set (a6.2.1).toNat (IntKind.wrap .u32 a12)), (), h, rfl⟩
   refine AW.cond rfl (fun hc => ?_) (fun hc => ?_)
   ·have hc := of_decide_eq_true hc
    have h := ifT hc h
    refine AW.rg rfl fun K hK => ?_
    refine mv rfl rfl ?_
    refine mv rfl rfl ?_
    refine mv rfl rfl ?_
    obtain ⟨x17, h18, h⟩ := bS h
    refine bv rfl (v_idxF ty99 es99 rfl rfl (idx_lt h18)) ?_
    refine bv rfl (v_loadF ty97 rfl (l_cell (encM (HV.int .u32)) h18 (o := 0) rfl rfl)) ?_
    refine bv rfl (v_convI ty97 ty95 rfl) ?_
    refine bv rfl (v_bin rfl rfl b_add) ?_
    refine mv rfl rfl ?_
    refine b_nil (hK _ ?_)
    clear hK K
    exact to_le (s' := ⟨[(0, slE (encM (HV.int .u32)) a1.1), (1, slE (encM (HV.int .u32)) a1.2), (5, HV.ar 65019 v4 (encM (HV.int .u32)).k 0 ((a6.2.2).length)), (7, HV.int .i64 a6.2.1), (8, HV.int .u64 (IntKind.wrap .u64 ((IntKind.wrap .u64 ((IntKind.wrap .u64 x10) + a6.1)) + (IntKind.wrap .u64 x17)))), (21, HV.int .i64 ((a1.1).length : Int)), (22, HV.int .i64 a6.2.1)], [(65019, v4, .arr (encM (HV.int .u32)).k 97 ((encM (HV.int .u32)).E a6.2.2))]⟩) (AS.le_of ⟨rfl, rfl, rfl, rfl, rfl, rfl, rfl, trivial⟩ ⟨rfl, trivial⟩) ⟨IntKind.wrap .u64 ((IntKind.wrap .u64 ((IntKind.wrap .u64 x10) + a6.1)) + (IntKind.wrap .u64 x17)), (), h, rfl⟩
   have hc := of_decide_eq_false hc
   have h := ifF hc h
   refine AW.skip ?_
   exact to_le (s' := ⟨[(0, slE (encM (HV.int .u32)) a1.1), (1, slE (encM (HV.int .u32)) a1.2), (5, HV.ar 65019 v4 (encM (HV.int .u32)).k 0 ((a6.2.2).length)), (7, HV.int .i64 a6.2.1), (8, HV.int .u64 (IntKind.wrap .u64 ((IntKind.wrap .u64 x10) + a6.1))), (21, HV.int .i64 ((a1.1).length : Int)), (22, HV.int .i64 a6.2.1)], [(65019, v4, .arr (encM (HV.int .u32)).k 97 ((encM (HV.int .u32)).E a6.2.2))]⟩) (AS.le_of ⟨rfl, rfl, rfl, rfl, rfl, rfl, rfl, trivial⟩ ⟨rfl, trivial⟩) ⟨IntKind.wrap .u64 ((IntKind.wrap .u64 x10) + a6.1), (), h, rfl⟩
  have hc := of_decide_eq_false hc
  have h := ifF hc h
  refine AW.exit ?_
  exact to_le (s' := ⟨[(0, slE (encM (HV.int .u32)) a1.1), (5, HV.ar 65019 v4 (encM (HV.int .u32)).k 0 ((a6.2.2).length)), (6, HV.int .u64 a6.1)], [(65019, v4, .arr (encM (HV.int .u32)).k 97 ((encM (HV.int .u32)).E a6.2.2))]⟩) (AS.le_of ⟨rfl, rfl, rfl, trivial⟩ ⟨rfl, trivial⟩) ⟨(a6.2.2, a6.1), (), h, rfl⟩
 refine AW.cond rfl (fun hc => ?_) (fun hc => ?_)
 ·have hc := of_decide_eq_true hc
  have h := ifT hc h
  refine AW.rg rfl fun K hK => ?_
  refine mv rfl rfl ?_
  refine mv rfl rfl ?_
  refine mv rfl rfl ?_
  refine mv rfl rfl ?_
  refine b_nil (hK _ ?_)
  clear hK K
  exact to_le (s' := ⟨[(0, slE (encM (HV.int .u32)) p1), (1, slE (encM (HV.int .u32)) p0)], []⟩) (AS.le_of ⟨rfl, rfl, trivial⟩ trivial) ⟨(p1, p0), (), h, rfl⟩
 have hc := of_decide_eq_false hc
 have h := ifF hc h
 refine AW.skip ?_
 exact to_le (s' := ⟨[(0, slE (encM (HV.int .u32)) p0), (1, slE (encM (HV.int .u32)) p1)], []⟩) (AS.le_of ⟨rfl, rfl, trivial⟩ trivial) ⟨(p0, p1), (), h, rfl⟩

set_option maxHeartbeats 1600000 in
set_option maxRecDepth 100000 in
theorem w_integer_compare {p0 : List (Int)} {p1 : List (Int)} {r : Int} (h : m_integer_compare p0 p1 = some r) : Pure Tryd.prog 66 [slE (encM (HV.int .u32)) p0, slE (encM (HV.int .u32)) p1] (· = HV.int .i64 r) := by
 unfold m_integer_compare at h
 refine Pure.of_body Tryd.func66 rfl rfl (Nat.le_of_ble_eq_true rfl) fun hf => ?_
 unfold Tryd.f66
 dsimp only [enumS, Nat.reduceAdd]
 refine AW.rgs rfl fun K hK => ?_
 refine mv rfl rfl ?_
 refine b_fin hK (s' := ⟨[(0, slE (encM (HV.int .u32)) p0), (1, slE (encM (HV.int .u32)) p1)], []⟩) (le_q rfl rfl) ?_
 clear hK K
 refine AW.seq ?_
 refine AW.rgs rfl fun K hK => ?_
 refine mv rfl rfl ?_
 refine bv rfl (v_lenF rfl rfl ty99 rfl) ?_
 refine mv rfl rfl ?_
 refine bv rfl (v_lenF rfl rfl ty99 rfl) ?_
 refine bv rfl (v_bin rfl rfl b_neq) ?_
 refine b_fin hK (s' := ⟨[(0, slE (encM (HV.int .u32)) p0), (1, slE (encM (HV.int .u32)) p1), (10, HV.bool (decide (((p0).length : Int) ≠ ((p1).length : Int))))], []⟩) (le_q rfl rfl) ?_
 clear hK K
 refine AW.cond rfl (fun hc => ?_) (fun hc => ?_)
 ·have hc := of_decide_eq_true hc
  have h := ifT hc h
  refine AW.seq ?_
  refine AW.rgs rfl fun K hK => ?_
  refine mv rfl rfl ?_
  refine bv rfl (v_lenF rfl rfl ty99 rfl) ?_
  refine mv rfl rfl ?_
  refine bv rfl (v_lenF rfl rfl ty99 rfl) ?_
  refine bv rfl (v_bin rfl rfl b_lss) ?_
  refine b_fin hK (s' := ⟨[(15, HV.bool (decide (((p0).length : Int) < ((p1).length : Int))))], []⟩) (le_q rfl rfl) ?_
  clear hK K
  refine AW.cond rfl (fun hc => ?_) (fun hc => ?_)
  ·have hc := of_decide_eq_true hc
   have h := ifT hc h
   refine AW.rgs rfl fun K hK => ?_
   refine mv rfl rfl ?_
   refine b_fin hK (s' := ⟨[(4, HV.int .i64 (-1))], []⟩) (le_q rfl rfl) ?_
   clear hK K
   refine AW.ret ?_
   have h := Option.some.inj h
   subst h
   exact ret_pure (hs := [HV.int .i64 (-1)]) (q := HV.int .i64 (-1)) (.inr rfl) (resT rfl rfl) rfl trivial
  have hc := of_decide_eq_false hc
  have h := ifF hc h
  refine AW.skip ?_
  refine AW.rgs rfl fun K hK => ?_
  refine mv rfl rfl ?_
  refine b_fin hK (s' := ⟨[(4, HV.int .i64 1)], []⟩) (le_q rfl rfl) ?_
  clear hK K
  refine AW.ret ?_
  have h := Option.some.inj h
  subst h
  exact ret_pure (hs := [HV.int .i64 1]) (q := HV.int .i64 1) (.inr rfl) (resT rfl rfl) rfl trivial
 have hc := of_decide_eq_false hc
 have h := ifF hc h
 refine AW.skip ?_
 refine AW.seq ?_
 refine AW.rgs rfl fun K hK => ?_
 refine mv rfl rfl ?_
 refine bv rfl (v_lenF rfl rfl ty99 rfl) ?_
 refine bv rfl (v_bin rfl rfl b_sub) ?_
 refine mv rfl rfl ?_
 refine b_fin hK (s' := ⟨[(0, slE (encM (HV.int .u32)) p0), (1, slE (encM (HV.int .u32)) p1), (5, HV.int .i64 (IntKind.wrap .i64 (((p0).length : Int) - 1)))], []⟩) (le_q rfl rfl) ?_
 clear hK K
 refine AW.lpR h (by first | exact up_then | exact up_to) (S := Int) (V := Unit) (fun a v => ⟨[(0, slE (encM (HV.int .u32)) p0), (1, slE (encM (HV.int .u32)) p1), (5, HV.int .i64 a)], []⟩) ?_ (X := Unit) (W := Unit) (fun a v => ⟨[], []⟩) (fun a13 w14 h => ?_) (fun a1 w2 st3 h hr4=> ?_)
 ·exact to_le (s' := ⟨[(0, slE (encM (HV.int .u32)) p0), (1, slE (encM (HV.int .u32)) p1), (5, HV.int .i64 (IntKind.wrap .i64 (((p0).length : Int) - 1)))], []⟩) (AS.le_of ⟨rfl, rfl, rfl, trivial⟩ trivial) ⟨(), rfl⟩
 ·refine AW.rgs rfl fun K hK => ?_
  refine mv rfl rfl ?_
  refine b_fin hK (s' := ⟨[(4, HV.int .i64 0)], []⟩) (le_q rfl rfl) ?_
  clear hK K
  refine AW.ret ?_
  have h := Option.some.inj h
  subst h
  exact ret_pure (hs := [HV.int .i64 0]) (q := HV.int .i64 0) (.inr rfl) (resT rfl rfl) rfl trivial
 refine AW.seq ?_
 refine AW.rgs rfl fun K hK => ?_
 refine mv rfl rfl ?_
 refine bv rfl (v_bin rfl rfl b_geq) ?_
 refine b_fin hK (s' := ⟨[(0, slE (encM (HV.int .u32)) p0), (1, slE (encM (HV.int .u32)) p1), (5, HV.int .i64 a1), (20, HV.bool (decide (0 ≤ a1)))], []⟩) (le_q rfl rfl) ?_
 clear hK K
 refine AW.cond rfl (fun hc => ?_) (fun hc => ?_)
 ·have hc := of_decide_eq_true hc
  have h := ifT hc h
  refine AW.skip ?_
  refine AW.seq (AW.block ?_)
  refine AW.dgs 9 follows rfl rfl fun K hK => ?_
  refine sm rfl rfl ?_
  refine sm rfl rfl ?_
  obtain ⟨x5, h6, h⟩ := bS h
  refine sv rfl (v_idxF ty99 es99 rfl rfl (idx_lt h6)) ?_
  refine sv rfl (v_loadF ty97 rfl (l_cell (encM (HV.int .u32)) h6 (o := 0) rfl rfl)) ?_
  refine sm rfl rfl ?_
  refine sm rfl rfl ?_
  obtain ⟨x7, h8, h⟩ := bS h
  refine sv rfl (v_idxF ty99 es99 rfl rfl (idx_lt h8)) ?_
  refine sv rfl (v_loadF ty97 rfl (l_cell (encM (HV.int .u32)) h8 (o := 0) rfl rfl)) ?_
  refine sv rfl (v_bin rfl rfl b_neq) ?_
  refine s_nil ?_
  refine b_fin hK (s' := ⟨[(0, slE (encM (HV.int .u32)) p0), (1, slE (encM (HV.int .u32)) p1), (5, HV.int .i64 a1), (31, HV.bool (decide (x5 ≠ x7)))], []⟩) (le_q rfl rfl) ?_
  clear hK K
  refine AW.cond rfl (fun hc => ?_) (fun hc => ?_)
  ·have hc := of_decide_eq_true hc
   have h := ifT hc h
   refine AW.seq ?_
   refine AW.dgs 9 follows rfl rfl fun K hK => ?_
   refine sm rfl rfl ?_
   refine sm rfl rfl ?_
   obtain ⟨x9, h10, h⟩ := bS h
   refine sv rfl (v_idxF ty99 es99 rfl rfl (idx_lt h10)) ?_
   refine sv rfl (v_loadF ty97 rfl (l_cell (encM (HV.int .u32)) h10 (o := 0) rfl rfl)) ?_
   refine sm rfl rfl ?_
   refine sm rfl rfl ?_
   obtain ⟨x11, h12, h⟩ := bS h
   refine sv rfl (v_idxF ty99 es99 rfl rfl (idx_lt h12)) ?_
   refine sv rfl (v_loadF ty97 rfl (l_cell (encM (HV.int .u32)) h12 (o := 0) rfl rfl)) ?_
   refine sv rfl (v_bin rfl rfl b_lss) ?_
   refine s_nil ?_
   refine b_fin hK (s' := ⟨[(40, HV.bool (decide (x9 < x11)))], []⟩) (le_q rfl rfl) ?_
   clear hK K
   refine AW.cond rfl (fun hc => ?_) (fun hc => ?_)
   ·have hc := of_decide_eq_true hc
    have h := ifT hc h
    refine AW.rgs rfl fun K hK => ?_
    refine mv rfl rfl ?_
    refine b_fin hK (s' := ⟨[(4, HV.int .i64 (-1))], []⟩) (le_q rfl rfl) ?_
    clear hK K
    have h := hr4 _ h
    refine AW.ret ?_
    have h := Option.some.inj h
    subst h
    exact ret_pure (hs := [HV.int .i64 (-1)]) (q := HV.int .i64 (-1)) (.inr rfl) (resT rfl rfl) rfl trivial
   have hc := of_decide_eq_false hc
   have h := ifF hc h
   refine AW.skip ?_
   refine AW.rgs rfl fun K hK => ?_
   refine mv rfl rfl ?_
   refine b_fin hK (s' := ⟨[(4, HV.int .i64 1)], []⟩) (le_q rfl rfl) ?_
   clear hK K
   have h := hr4 _ h
   refine AW.ret ?_
   have h := Option.some.inj h
   subst h
   exact ret_pure (hs := [HV.int .i64 1]) (q := HV.int .i64 1) (.inr rfl) (resT rfl rfl) rfl trivial
  have hc := of_decide_eq_false hc
  have h := ifF hc h
  refine AW.skip ?_
  refine AW.rg rfl fun K hK => ?_
  refine mv rfl rfl ?_
  refine bv rfl (v_bin rfl rfl b_sub) ?_
  refine mv rfl rfl ?_
  refine b_nil (hK _ ?_)
  clear hK K
  exact to_le (s' := ⟨[(0, slE (encM (HV.int .u32)) p0), (1, slE (encM (HV.int .u32)) p1), (5, HV.int .i64 (IntKind.wrap .i64 (a1 - 1)))], []⟩) (AS.le_of ⟨rfl, rfl, rfl, trivial⟩ trivial) ⟨IntKind.wrap .i64 (a1 - 1), (), h, rfl⟩
 have hc := of_decide_eq_false hc
 have h := ifF hc h
 refine AW.exit ?_
 exact to_le (s' := ⟨[], []⟩) (AS.le_of trivial trivial) ⟨(), (), h, rfl⟩

set_option maxHeartbeats 1600000 in
set_option maxRecDepth 100000 in
theorem w_integer_subtract {p0 : List (Int)} {p1 : List (Int)} {r : (List (Int))} (h : m_integer_subtract p0 p1 = some r) : Pure Tryd.prog 67 [slE (encM (HV.int .u32)) p0, slE (encM (HV.int .u32)) p1] (· = slE (encM (HV.int .u32)) r) := by
 unfold m_integer_subtract at h
 refine Pure.of_body Tryd.func67 rfl rfl (Nat.le_of_ble_eq_true rfl) fun hf => ?_
 unfold Tryd.f67
 dsimp only [enumS, Nat.reduceAdd]
 refine AW.rgs rfl fun K hK => ?_
 refine mv rfl rfl ?_
 refine b_fin hK (s' := ⟨[(0, slE (encM (HV.int .u32)) p0), (1, slE (encM (HV.int .u32)) p1)], []⟩) (le_q rfl rfl) ?_
 clear hK K
 refine AW.rgs rfl fun K hK => ?_
 refine mv rfl rfl ?_
 refine bv rfl (v_lenF rfl rfl ty99 rfl) ?_
 obtain ⟨h2, h⟩ := ifN h
 refine b_op rfl (o_makeE (fid := 67) (encM (HV.int .u32)) (0 : Int) 67011 rfl rfl ty99 rfl rfl ty97 rfl rfl h2 (fun v1 => ?_))
 refine mv rfl rfl ?_
 refine b_fin hK (s' := ⟨[(0, slE (encM (HV.int .u32)) p0), (1, slE (encM (HV.int .u32)) p1), (5, HV.ar 67011 v1 (encM (HV.int .u32)).k 0 ((List.replicate (((p0).length : Int)).toNat (0 : Int)).length))], [(67011, v1, .arr (encM (HV.int .u32)).k 97 ((encM (HV.int .u32)).E (List.replicate (((p0).length : Int)).toNat (0 : Int))))]⟩) (le_q rfl rfl) ?_
 clear hK K
 refine AW.rgs rfl fun K hK => ?_
 refine mv rfl rfl ?_
 refine b_fin hK (s' := ⟨[(0, slE (encM (HV.int .u32)) p0), (1, slE (encM (HV.int .u32)) p1), (5, HV.ar 67011 v1 (encM (HV.int .u32)).k 0 ((List.replicate (((p0).length : Int)).toNat (0 : Int)).length)), (6, HV.int .i64 0)], [(67011, v1, .arr (encM (HV.int .u32)).k 97 ((encM (HV.int .u32)).E (List.replicate (((p0).length : Int)).toNat (0 : Int))))]⟩) (le_q rfl rfl) ?_
 clear hK K
 refine AW.seq ?_
 refine AW.rgs rfl fun K hK => ?_
 refine mv rfl rfl ?_
 refine bv rfl (v_lenF rfl rfl ty99 rfl) ?_
 refine mv rfl rfl ?_
 refine b_fin hK (s' := ⟨[(0, slE (encM (HV.int .u32)) p0), (1, slE (encM (HV.int .u32)) p1), (5, HV.ar 67011 v1 (encM (HV.int .u32)).k 0 ((List.replicate (((p0).length : Int)).toNat (0 : Int)).length)), (6, HV.int .i64 0), (13, HV.int .i64 ((p0).length : Int)), (14, HV.int .i64 0)], [(67011, v1, .arr (encM (HV.int .u32)).k 97 ((encM (HV.int .u32)).E (List.replicate (((p0).length : Int)).toNat (0 : Int))))]⟩) (le_q rfl rfl) ?_
 clear hK K
 refine AW.lpX h (by first | exact up_then | exact up_to) (S := Int × Int × (List Int)) (V := Unit) (fun a v => ⟨[(0, slE (encM (HV.int .u32)) p0), (1, slE (encM (HV.int .u32)) p1), (5, HV.ar 67011 v1 (encM (HV.int .u32)).k 0 ((a.2.2).length)), (6, HV.int .i64 a.1), (13, HV.int .i64 ((p0).length : Int)), (14, HV.int .i64 a.2.1)], [(67011, v1, .arr (encM (HV.int .u32)).k 97 ((encM (HV.int .u32)).E a.2.2))]⟩) ?_ (X := (List Int)) (W := Unit) (fun a v => ⟨[(5, HV.ar 67011 v1 (encM (HV.int .u32)).k 0 ((a).length))], [(67011, v1, .arr (encM (HV.int .u32)).k 97 ((encM (HV.int .u32)).E a))]⟩) (fun a19 w20 h => ?_) (fun a3 w4 st5 h => ?_)
 ·exact to_le (s' := ⟨[(0, slE (encM (HV.int .u32)) p0), (1, slE (encM (HV.int .u32)) p1), (5, HV.ar 67011 v1 (encM (HV.int .u32)).k 0 ((List.replicate (((p0).length : Int)).toNat (0 : Int)).length)), (6, HV.int .i64 0), (13, HV.int .i64 ((p0).length : Int)), (14, HV.int .i64 0)], [(67011, v1, .arr (encM (HV.int .u32)).k 97 ((encM (HV.int .u32)).E (List.replicate (((p0).length : Int)).toNat (0 : Int))))]⟩) (AS.le_of ⟨rfl, rfl, rfl, rfl, rfl, rfl, trivial⟩ ⟨rfl, trivial⟩) ⟨(), rfl⟩
 ·refine AW.to (to_frz 2 [(67011, v1, .arr (encM (HV.int .u32)).k 97 ((encM (HV.int .u32)).E a19))] ⟨[(5, slE (encM (HV.int .u32)) a19)], []⟩ ⟨⟨_, rfl, frz_slE (encM (HV.int .u32)) (l := a19) rfl fun _ _ => rfl⟩, trivial⟩ trivial ⟨rfl, trivial⟩ ⟨rfl, trivial⟩ ?_)
  refine AW.rgs rfl fun K hK => ?_
  refine mv rfl rfl ?_
  obtain ⟨x21, h22, h⟩ := bS h
  refine b_op rfl (o_call rfl rfl rfl rfl (ACallD.pure0 (w_integer_trim h22)) ?_)
  refine mv rfl rfl ?_
  refine b_fin hK (s' := ⟨[(4, slE (encM (HV.int .u32)) x21)], []⟩) (le_q rfl rfl) ?_
  clear hK K
  refine AW.ret ?_
  have h := Option.some.inj h
  subst h
  exact ret_pure (hs := [slE (encM (HV.int .u32)) x21]) (q := slE (encM (HV.int .u32)) x21) (.inr rfl) (resT rfl rfl) rfl (clean_slE fun _ _ => ⟨trivial, trivial⟩)
 refine AW.rgs rfl fun K hK => ?_
 refine bv rfl (v_bin rfl rfl b_lss) ?_
 refine b_fin hK (s' := ⟨[(0, slE (encM (HV.int .u32)) p0), (1, slE (encM (HV.int .u32)) p1), (5, HV.ar 67011 v1 (encM (HV.int .u32)).k 0 ((a3.2.2).length)), (6, HV.int .i64 a3.1), (13, HV.int .i64 ((p0).length : Int)), (14, HV.int .i64 a3.2.1), (15, HV.bool (decide (a3.2.1 < ((p0).length : Int))))], [(67011, v1, .arr (encM (HV.int .u32)).k 97 ((encM (HV.int .u32)).E a3.2.2))]⟩) (le_q rfl rfl) ?_
 clear hK K
 refine AW.cseq rfl (fun hc => ?_) (fun hc => ?_)
 ·have hc := of_decide_eq_true hc
  have h := ifT hc h
  refine AW.skip ?_
  refine AW.seq (AW.block ?_)
  refine AW.rgs rfl fun K hK => ?_
  refine mv rfl rfl ?_
  refine mv rfl rfl ?_
  refine b_fin hK (s' := ⟨[(0, slE (encM (HV.int .u32)) p0), (1, slE (encM (HV.int .u32)) p1), (5, HV.ar 67011 v1 (encM (HV.int .u32)).k 0 ((a3.2.2).length)), (6, HV.int .i64 a3.1), (7, HV.int .i64 a3.2.1), (13, HV.int .i64 ((p0).length : Int)), (14, HV.int .i64 a3.2.1)], [(67011, v1, .arr (encM (HV.int .u32)).k 97 ((encM (HV.int .u32)).E a3.2.2))]⟩) (le_q rfl rfl) ?_
  clear hK K
  refine AW.rgs rfl fun K hK => ?_
  refine mv rfl rfl ?_
  refine mv rfl rfl ?_
  obtain ⟨x7, h8, h⟩ := bS h
  refine bv rfl (v_idxF ty99 es99 rfl rfl (idx_lt h8)) ?_
  refine bv rfl (v_loadF ty97 rfl (l_cell (encM (HV.int .u32)) h8 (o := 0) rfl rfl)) ?_
  refine bv rfl (v_convI ty97 ty2 rfl) ?_
  refine mv rfl rfl ?_
  refine bv rfl (v_bin rfl rfl b_sub) ?_
  refine mv rfl rfl ?_
  refine b_fin hK (s' := ⟨[(0, slE (encM (HV.int .u32)) p0), (1, slE (encM (HV.int .u32)) p1), (5, HV.ar 67011 v1 (encM (HV.int .u32)).k 0 ((a3.2.2).length)), (7, HV.int .i64 a3.2.1), (8, HV.int .i64 (IntKind.wrap .i64 ((IntKind.wrap .i64 x7) - a3.1))), (13, HV.int .i64 ((p0).length : Int)), (14, HV.int .i64 a3.2.1)], [(67011, v1, .arr (encM (HV.int .u32)).k 97 ((encM (HV.int .u32)).E a3.2.2))]⟩) (le_q rfl rfl) ?_
  clear hK K
  refine AW.seq ?_
  refine AW.rgs rfl fun K hK => ?_
  refine mv rfl rfl ?_
  refine mv rfl rfl ?_
  refine bv rfl (v_lenF rfl rfl ty99 rfl) ?_
  refine bv rfl (v_bin rfl rfl b_lss) ?_
  refine b_fin hK (s' := ⟨[(0, slE (encM (HV.int .u32)) p0), (1, slE (encM (HV.int .u32)) p1), (5, HV.ar 67011 v1 (encM (HV.int .u32)).k 0 ((a3.2.2).length)), (7, HV.int .i64 a3.2.1), (8, HV.int .i64 (IntKind.wrap .i64 ((IntKind.wrap .i64 x7) - a3.1))), (13, HV.int .i64 ((p0).length : Int)), (14, HV.int .i64 a3.2.1), (27, HV.bool (decide (a3.2.1 < ((p1).length : Int))))], [(67011, v1, .arr (encM (HV.int .u32)).k 97 ((encM (HV.int .u32)).E a3.2.2))]⟩) (le_q rfl rfl) ?_
  clear hK K
  refine AW.lastJ h (by first | exact up_then | exact up_to) (S := Int) (V := Unit) (fun a v => ⟨[(0, slE (encM (HV.int .u32)) p0), (1, slE (encM (HV.int .u32)) p1), (5, HV.ar 67011 v1 (encM (HV.int .u32)).k 0 ((a3.2.2).length)), (7, HV.int .i64 a3.2.1), (8, HV.int .i64 a), (13, HV.int .i64 ((p0).length : Int)), (14, HV.int .i64 a3.2.1)], [(67011, v1, .arr (encM (HV.int .u32)).k 97 ((encM (HV.int .u32)).E a3.2.2))]⟩) (fun a9 w10 h => ?_) (fun k11 h => ?_)
  ·refine AW.rgs rfl fun K hK => ?_
   refine mv rfl rfl ?_
   refine b_fin hK (s' := ⟨[(0, slE (encM (HV.int .u32)) p0), (1, slE (encM (HV.int .u32)) p1), (5, HV.ar 67011 v1 (encM (HV.int .u32)).k 0 ((a3.2.2).length)), (6, HV.int .i64 0), (7, HV.int .i64 a3.2.1), (8, HV.int .i64 a9), (13, HV.int .i64 ((p0).length : Int)), (14, HV.int .i64 a3.2.1)], [(67011, v1, .arr (encM (HV.int .u32)).k 97 ((encM (HV.int .u32)).E a3.2.2))]⟩) (le_q rfl rfl) ?_
   clear hK K
   refine AW.seq ?_
   refine AW.rgs rfl fun K hK => ?_
   refine mv rfl rfl ?_
   refine bv rfl (v_bin rfl rfl b_lss) ?_
   refine b_fin hK (s' := ⟨[(0, slE (encM (HV.int .u32)) p0), (1, slE (encM (HV.int .u32)) p1), (5, HV.ar 67011 v1 (encM (HV.int .u32)).k 0 ((a3.2.2).length)), (6, HV.int .i64 0), (7, HV.int .i64 a3.2.1), (8, HV.int .i64 a9), (13, HV.int .i64 ((p0).length : Int)), (14, HV.int .i64 a3.2.1), (36, HV.bool (decide (a9 < 0)))], [(67011, v1, .arr (encM (HV.int .u32)).k 97 ((encM (HV.int .u32)).E a3.2.2))]⟩) (le_q rfl rfl) ?_
   clear hK K
   refine AW.lastJ h (by first | exact up_then | exact up_to) (S := Int × Int) (V := Unit) (fun a v => ⟨[(0, slE (encM (HV.int .u32)) p0), (1, slE (encM (HV.int .u32)) p1), (5, HV.ar 67011 v1 (encM (HV.int .u32)).k 0 ((a3.2.2).length)), (6, HV.int .i64 a.1), (7, HV.int .i64 a3.2.1), (8, HV.int .i64 a.2), (13, HV.int .i64 ((p0).length : Int)), (14, HV.int .i64 a3.2.1)], [(67011, v1, .arr (encM (HV.int .u32)).k 97 ((encM (HV.int .u32)).E a3.2.2))]⟩) (fun a12 w13 h => ?_) (fun k14 h => ?_)
   ·refine AW.rg rfl fun K hK => ?_
    refine mv rfl rfl ?_
    refine mv rfl rfl ?_
    refine mv rfl rfl ?_
    refine bv rfl (v_convI ty2 ty97 rfl) ?_
    obtain ⟨x15, h16, h⟩ := bS h
    refine bv rfl (v_idxA ty99 es99 rfl rfl (idx_lt h16) rfl) ?_
    refine b_op rfl (o_storeE (encM (HV.int .u32)) (l := a3.2.2) (j := a3.2.1) (v := IntKind.wrap .u32 a12.2) rfl rfl rfl ty97 rfl rfl rfl (idx_lt h16) ?_)
    refine b_fin hK (s' := ⟨[(0, slE (encM (HV.int .u32)) p0), (1, slE (encM (HV.int .u32)) p1), (5, HV.ar 67011 v1 (encM (HV.int .u32)).k 0 (((a3.2.2).set (a3.2.1).toNat (IntKind.wrap .u32 a12.2)).length)), (6, HV.int .i64 a12.1), (13, HV.int .i64 ((p0).length : Int)), (14, HV.int .i64 a3.2.1)], [(67011, v1, .arr (encM (HV.int .u32)).k 97 ((encM (HV.int .u32)).E ((a3.2.2).set (a3.2.1).toNat (IntKind.wrap .u32 a12.2))))]⟩) (AS.le_of ⟨rfl, rfl, arl (by first | rfl | simp only [List.length_set, sortI_len, sortS_len]), rfl, rfl, rfl, trivial⟩ ⟨rfl, trivial⟩) ?_
    clear hK K
    refine AW.rg rfl fun K hK => ?_
    refine bv rfl (v_bin rfl rfl b_add) ?_
    refine mv rfl rfl ?_
    refine b_nil (hK _ ?_)
    clear hK K
    exact to_le (s' := ⟨[(0, slE (encM (HV.int .u32)) p0), (1, slE (encM (HV.int .u32)) p1), (5, HV.ar 67011 v1 (encM (HV.int .u32)).k 0 (((a3.2.2).set (a3.2.1).toNat (IntKind.wrap .u32 a12.2)).length)), (6, HV.int .i64 a12.1), (13, HV.int .i64 ((p0).length : Int)), (14, HV.int .i64 (IntKind.wrap .i64 (a3.2.1 + 1)))], [(67011, v1, .arr (encM (HV.int .u32)).k 97 ((encM (HV.int .u32)).E ((a3.2.2).set (a3.2.1).toNat (IntKind.wrap .u32 a12.2))))]⟩) (AS.le_of ⟨rfl, rfl, rfl, rfl, rfl, rfl, trivial⟩ ⟨rfl, trivial⟩) ⟨(a12.1, IntKind.wrap .i64 (a3.2.1 + 1), (a3.2.2).set (a3.2.1).toNat (IntKind.wrap .u32 a12.2)), (), h, rfl⟩
   refine AW.cond rfl (fun hc => ?_) (fun hc => ?_)
   ·have hc := of_decide_eq_true hc
    have h := ifT hc h
    refine AW.rgs rfl fun K hK => ?_
    refine mv rfl rfl ?_
    refine bv rfl (v_bin rfl rfl b_add) ?_
    refine mv rfl rfl ?_
    refine b_fin hK (s' := ⟨[(0, slE (encM (HV.int .u32)) p0), (1, slE (encM (HV.int .u32)) p1), (5, HV.ar 67011 v1 (encM (HV.int .u32)).k 0 ((a3.2.2).length)), (7, HV.int .i64 a3.2.1), (8, HV.int .i64 (IntKind.wrap .i64 (a9 + 4294967296))), (13, HV.int .i64 ((p0).length : Int)), (14, HV.int .i64 a3.2.1)], [(67011, v1, .arr (encM (HV.int .u32)).k 97 ((encM (HV.int .u32)).E a3.2.2))]⟩) (le_q rfl rfl) ?_
    clear hK K
    refine AW.rg rfl fun K hK => ?_
    refine mv rfl rfl ?_
    refine b_nil (hK _ ?_)
    clear hK K
    exact to_le (s' := ⟨[(0, slE (encM (HV.int .u32)) p0), (1, slE (encM (HV.int .u32)) p1), (5, HV.ar 67011 v1 (encM (HV.int .u32)).k 0 ((a3.2.2).length)), (6, HV.int .i64 1), (7, HV.int .i64 a3.2.1), (8, HV.int .i64 (IntKind.wrap .i64 (a9 + 4294967296))), (13, HV.int .i64 ((p0).length : Int)), (14, HV.int .i64 a3.2.1)], [(67011, v1, .arr (encM (HV.int .u32)).k 97 ((encM (HV.int .u32)).E a3.2.2))]⟩) (AS.le_of ⟨rfl, rfl, rfl, rfl, rfl, rfl, rfl, rfl, trivial⟩ ⟨rfl, trivial⟩) ⟨(1, IntKind.wrap .i64 (a9 + 4294967296)), (), h, rfl⟩
   have hc := of_decide_eq_false hc
   have h := ifF hc h
   refine AW.skip ?_
   exact to_le (s' := ⟨[(0, slE (encM (HV.int .u32)) p0), (1, slE (encM (HV.int .u32)) p1), (5, HV.ar 67011 v1 (encM (HV.int .u32)).k 0 ((a3.2.2).length)), (6, HV.int .i64 0), (7, HV.int .i64 a3.2.1), (8, HV.int .i64 a9), (13, HV.int .i64 ((p0).length : Int)), (14, HV.int .i64 a3.2.1)], [(67011, v1, .arr (encM (HV.int .u32)).k 97 ((encM (HV.int .u32)).E a3.2.2))]⟩) (AS.le_of ⟨rfl, rfl, rfl, rfl, rfl, rfl, rfl, rfl, trivial⟩ ⟨rfl, trivial⟩) ⟨(0, a9), (), h, rfl⟩
  refine AW.cond rfl (fun hc => ?_) (fun hc => ?_)
  ·have hc := of_decide_eq_true hc
   have h := ifT hc h
   refine AW.rg rfl fun K hK => ?_
   refine mv rfl rfl ?_
   refine mv rfl rfl ?_
   refine mv rfl rfl ?_
   obtain ⟨x17, h18, h⟩ := bS h
   refine bv rfl (v_idxF ty99 es99 rfl rfl (idx_lt h18)) ?_
   refine bv rfl (v_loadF ty97 rfl (l_cell (encM (HV.int .u32)) h18 (o := 0) rfl rfl)) ?_
   refine bv rfl (v_convI ty97 ty2 rfl) ?_
   refine bv rfl (v_bin rfl rfl b_sub) ?_
   refine mv rfl rfl ?_
   refine b_nil (hK _ ?_)
   clear hK K
   exact to_le (s' := ⟨[(0, slE (encM (HV.int .u32)) p0), (1, slE (encM (HV.int .u32)) p1), (5, HV.ar 67011 v1 (encM (HV.int .u32)).k 0 ((a3.2.2).length)), (7, HV.int .i64 a3.2.1), (8, HV.int .i64 (IntKind.wrap .i64 ((IntKind.wrap .i64 ((IntKind.wrap .i64 x7) - a3.1)) - (IntKind.wrap .i64 x17)))), (13, HV.int .i64 ((p0).length : Int)), (14, HV.int .i64 a3.2.1)], [(67011, v1, .arr (encM (HV.int .u32)).k 97 ((encM (HV.int .u32)).E a3.2.2))]⟩) (AS.le_of ⟨rfl, rfl, rfl, rfl, rfl, rfl, rfl, trivial⟩ ⟨rfl, trivial⟩) ⟨IntKind.wrap .i64 ((IntKind.wrap .i64 ((IntKind.wrap .i64 x7) - a3.1)) - (IntKind.wrap .i64 x17)), (), h, rfl⟩
  have hc := of_decide_eq_false hc
  have h := ifF hc h
  refine AW.skip ?_
  exact to_le (s' := ⟨[(0, slE (encM (HV.int .u32)) p0), (1, slE (encM (HV.int .u32)) p1), (5, HV.ar 67011 v1 (encM (HV.int .u32)).k 0 ((a3.2.2).length)), (7, HV.int .i64 a3.2.1), (8, HV.int .i64 (IntKind.wrap .i64 ((IntKind.wrap .i64 x7) - a3.1))), (13, HV.int .i64 ((p0).length : Int)), (14, HV.int .i64 a3.2.1)], [(67011, v1, .arr (encM (HV.int .u32)).k 97 ((encM (HV.int .u32)).E a3.2.2))]⟩) (AS.le_of ⟨rfl, rfl, rfl, rfl, rfl, rfl, rfl, trivial⟩ ⟨rfl, trivial⟩) ⟨IntKind.wrap .i64 ((IntKind.wrap .i64 x7) - a3.1), (), h, rfl⟩
 have hc := of_decide_eq_false hc
 have h := ifF hc h
 refine AW.exit ?_
 exact to_le (s' := ⟨[(5, HV.ar 67011 v1 (encM (HV.int .u32)).k 0 ((a3.2.2).length))], [(67011, v1, .arr (encM (HV.int .u32)).k 97 ((encM (HV.int .u32)).E a3.2.2))]⟩) (AS.le_of ⟨rfl, trivial⟩ ⟨rfl, trivial⟩) ⟨a3.2.2, (), h, rfl⟩

set_option maxHeartbeats 1600000 in
set_option maxRecDepth 100000 in
theorem w_integer_Add {p0 : TNegMag} {p1 : TNegMag} {r : TNegMag} (h : m_integer_Add p0 p1 = some r) : Pure Tryd.prog 51 [HV.agg [HV.bool p0.1, HV.str p0.2], HV.agg [HV.bool p1.1, HV.str p1.2]] (· = HV.agg [HV.bool r.1, HV.str r.2]) := by
 unfold m_integer_Add at h
 refine Pure.of_body Tryd.func51 rfl rfl (Nat.le_of_ble_eq_true rfl) fun hf => ?_
 unfold Tryd.f51
 dsimp only [enumS, Nat.reduceAdd]
 refine AW.rgs rfl fun K hK => ?_
 refine b_op rfl (o_box rfl rfl rfl ?_)
 refine b_op rfl (o_box rfl rfl rfl ?_)
 refine b_op rfl (o_alloc (fid := 51) (zs := [HV.bool false, HV.str ([] : List UInt8)]) 51004 rfl rfl ty63 rfl (fun v1 => ?_))
 refine b_fin hK (s' := ⟨[(2, HV.fptr [HV.bool p0.1, HV.str p0.2] 0), (3, HV.fptr [HV.bool p1.1, HV.str p1.2] 0), (4, HV.ptr 51004 v1 0)], [(51004, v1, .arr 2 63 [HV.bool false, HV.str ([] : List UInt8)])]⟩) (le_q rfl rfl) ?_
 clear hK K
 refine AW.dgs 6 follows rfl rfl fun K hK => ?_
 refine sv rfl (v_loadF ty63 rfl (l_litA rfl (Nat.le_of_ble_eq_true rfl) rfl)) ?_
 obtain ⟨x2, h3, h⟩ := bS h
 refine s_op rfl rfl (ops_call rfl rfl rfl rfl (ACallD.pure0 (w_integer_digits h3)) ?_)
 refine sv rfl (v_loadF ty63 rfl (l_litA rfl (Nat.le_of_ble_eq_true rfl) rfl)) ?_
 obtain ⟨x4, h5, h⟩ := bS h
 refine s_op rfl rfl (ops_call rfl rfl rfl rfl (ACallD.pure0 (w_integer_digits h5)) ?_)
 refine sm rfl rfl ?_
 refine sm rfl rfl ?_
 refine s_nil ?_
 refine b_fin hK (s' := ⟨[(2, HV.fptr [HV.bool p0.1, HV.str p0.2] 0), (3, HV.fptr [HV.bool p1.1, HV.str p1.2] 0), (4, HV.ptr 51004 v1 0), (5, slE (encM (HV.int .u32)) x2), (6, slE (encM (HV.int .u32)) x4)], [(51004, v1, .arr 2 63 [HV.bool false, HV.str ([] : List UInt8)])]⟩) (le_q rfl rfl) ?_
 clear hK K
 refine AW.seq ?_
 refine AW.rgs rfl fun K hK => ?_
 refine bv rfl (v_fieldAddrF fo63_0 rfl) ?_
 refine bv rfl (v_loadF ty4 rfl (l_lit rfl rfl)) ?_
 refine bv rfl (v_fieldAddrF fo63_0 rfl) ?_
 refine bv rfl (v_loadF ty4 rfl (l_lit rfl rfl)) ?_
 refine bv rfl (v_bin rfl rfl (b_eqB ty4)) ?_
 refine b_fin hK (s' := ⟨[(2, HV.fptr [HV.bool p0.1, HV.str p0.2] 0), (3, HV.fptr [HV.bool p1.1, HV.str p1.2] 0), (4, HV.ptr 51004 v1 0), (5, slE (encM (HV.int .u32)) x2), (6, slE (encM (HV.int .u32)) x4), (15, HV.bool (p0.1 == p1.1))], [(51004, v1, .arr 2 63 [HV.bool false, HV.str ([] : List UInt8)])]⟩) (le_q rfl rfl) ?_
 clear hK K
 refine AW.cond rfl (fun hc => ?_) (fun hc => ?_)
 ·have h := ifT hc h
  refine AW.dgs 6 follows rfl rfl fun K hK => ?_
  refine sv rfl (v_fieldAddrF fo63_0 rfl) ?_
  refine sv rfl (v_loadF ty4 rfl (l_lit rfl rfl)) ?_
  refine sm rfl rfl ?_
  refine sm rfl rfl ?_
  obtain ⟨x6, h7, h⟩ := bS h
  refine s_op rfl rfl (ops_call rfl rfl rfl rfl (ACallD.pure0 (w_integer_add h7)) ?_)
  obtain ⟨x8, h9, h⟩ := bS h
  refine s_op rfl rfl (ops_call rfl rfl rfl rfl (ACallD.pure0 (w_integer_number h9)) ?_)
  refine s_nil ?_
  refine b_op rfl (o_store (cs := [HV.bool x8.1, HV.str x8.2]) (zs := [HV.bool x8.1, HV.str x8.2]) rfl rfl rfl ty63 rfl rfl rfl rfl rfl ?_)
  refine b_fin hK (s' := ⟨[(4, HV.ptr 51004 v1 0)], [(51004, v1, .arr 2 63 [HV.bool x8.1, HV.str x8.2])]⟩) (le_q rfl rfl) ?_
  clear hK K
  refine AW.ret ?_
  have h := Option.some.inj h
  subst h
  exact ret_pure (hs := [HV.agg [HV.bool x8.1, HV.str x8.2]]) (q := HV.agg [HV.bool x8.1, HV.str x8.2]) (.inr rfl) (resP ty63 rfl rfl (l_litA rfl (Nat.le_of_ble_eq_true rfl) rfl) rfl) rfl ⟨trivial, trivial, trivial⟩
 have h := ifF (bF' hc) h
 refine AW.skip ?_
 refine AW.seq ?_
 refine AW.rgs rfl fun K hK => ?_
 refine mv rfl rfl ?_
 refine mv rfl rfl ?_
 obtain ⟨x10, h11, h⟩ := bS h
 refine b_op rfl (o_call rfl rfl rfl rfl (ACallD.pure0 (w_integer_compare h11)) ?_)
 refine bv rfl (v_bin rfl rfl b_lss) ?_
 refine b_fin hK (s' := ⟨[(2, HV.fptr [HV.bool p0.1, HV.str p0.2] 0), (3, HV.fptr [HV.bool p1.1, HV.str p1.2] 0), (4, HV.ptr 51004 v1 0), (5, slE (encM (HV.int .u32)) x2), (6, slE (encM (HV.int .u32)) x4), (25, HV.bool (decide (x10 < 0)))], [(51004, v1, .arr 2 63 [HV.bool false, HV.str ([] : List UInt8)])]⟩) (le_q rfl rfl) ?_
 clear hK K
 refine AW.cond rfl (fun hc => ?_) (fun hc => ?_)
 ·have hc := of_decide_eq_true hc
  have h := ifT hc h
  refine AW.dgs 6 follows rfl rfl fun K hK => ?_
  refine sv rfl (v_fieldAddrF fo63_0 rfl) ?_
  refine sv rfl (v_loadF ty4 rfl (l_lit rfl rfl)) ?_
  refine sm rfl rfl ?_
  refine sm rfl rfl ?_
  obtain ⟨x12, h13, h⟩ := bS h
  refine s_op rfl rfl (ops_call rfl rfl rfl rfl (ACallD.pure0 (w_integer_subtract h13)) ?_)
  obtain ⟨x14, h15, h⟩ := bS h
  refine s_op rfl rfl (ops_call rfl rfl rfl rfl (ACallD.pure0 (w_integer_number h15)) ?_)
  refine s_nil ?_
  refine b_op rfl (o_store (cs := [HV.bool x14.1, HV.str x14.2]) (zs := [HV.bool x14.1, HV.str x14.2]) rfl rfl rfl ty63 rfl rfl rfl rfl rfl ?_)
  refine b_fin hK (s' := ⟨[(4, HV.ptr 51004 v1 0)], [(51004, v1, .arr 2 63 [HV.bool x14.1, HV.str x14.2])]⟩) (le_q rfl rfl) ?_
  clear hK K
  refine AW.ret ?_
  have h := Option.some.inj h
  subst h
  exact ret_pure (hs := [HV.agg [HV.bool x14.1, HV.str x14.2]]) (q := HV.agg [HV.bool x14.1, HV.str x14.2]) (.inr rfl) (resP ty63 rfl rfl (l_litA rfl (Nat.le_of_ble_eq_true rfl) rfl) rfl) rfl ⟨trivial, trivial, trivial⟩
 have hc := of_decide_eq_false hc
 have h := ifF hc h
 refine AW.skip ?_
 refine AW.dgs 6 follows rfl rfl fun K hK => ?_
 refine sv rfl (v_fieldAddrF fo63_0 rfl) ?_
 refine sv rfl (v_loadF ty4 rfl (l_lit rfl rfl)) ?_
 refine sm rfl rfl ?_
 refine sm rfl rfl ?_
 obtain ⟨x16, h17, h⟩ := bS h
 refine s_op rfl rfl (ops_call rfl rfl rfl rfl (ACallD.pure0 (w_integer_subtract h17)) ?_)
 obtain ⟨x18, h19, h⟩ := bS h
 refine s_op rfl rfl (ops_call rfl rfl rfl rfl (ACallD.pure0 (w_integer_number h19)) ?_)
 refine s_nil ?_
 refine b_op rfl (o_store (cs := [HV.bool x18.1, HV.str x18.2]) (zs := [HV.bool x18.1, HV.str x18.2]) rfl rfl rfl ty63 rfl rfl rfl rfl rfl ?_)
 refine b_fin hK (s' := ⟨[(4, HV.ptr 51004 v1 0)], [(51004, v1, .arr 2 63 [HV.bool x18.1, HV.str x18.2])]⟩) (le_q rfl rfl) ?_
 clear hK K
 refine AW.ret ?_
 have h := Option.some.inj h
 subst h
 exact ret_pure (hs := [HV.agg [HV.bool x18.1, HV.str x18.2]]) (q := HV.agg [HV.bool x18.1, HV.str x18.2]) (.inr rfl) (resP ty63 rfl rfl (l_litA rfl (Nat.le_of_ble_eq_true rfl) rfl) rfl) rfl ⟨trivial, trivial, trivial⟩

end Go.AW

namespace Go.AW
open Go Go.Proofs
set_option linter.unusedVariables false
set_option maxHeartbeats 1600000 in
set_option maxRecDepth 100000 in
theorem w_subset_Count {p0 : TLabelsStatesEdges} {p1 : Int} {r : TNegMag × Int} (h : m_subset_Count p0 p1 = some r) : Pure Tryd.prog 32 [HV.agg [HV.int .i64 p0.1, HV.int .i64 p0.2.1, slE eFromLabelTo p0.2.2], HV.int .i64 p1] (· = HV.tup [HV.agg [HV.bool r.1.1, HV.str r.1.2], HV.int .i64 r.2]) := by
 unfold m_subset_Count at h
 refine Pure.of_body Tryd.func32 rfl rfl (Nat.le_of_ble_eq_true rfl) fun hf => ?_
 unfold Tryd.f32
 dsimp only [enumS, Nat.reduceAdd]
 refine AW.rgs rfl fun K hK => ?_
 refine b_op rfl (o_box rfl rfl rfl ?_)
 refine b_op rfl (o_alloc (fid := 32) (zs := [HV.bool false, HV.str ([] : List UInt8)]) 32004 rfl rfl ty63 rfl (fun v1 => ?_))
 refine mv rfl rfl ?_
 refine b_fin hK (s' := ⟨[(1, HV.int .i64 p1), (2, HV.fptr [HV.int .i64 p0.1, HV.int .i64 p0.2.1, slE eFromLabelTo p0.2.2] 0), (4, HV.ptr 32004 v1 0)], [(32004, v1, .arr 2 63 [HV.bool false, HV.str ([] : List UInt8)])]⟩) (le_q rfl rfl) ?_
 clear hK K
 refine AW.seq (AW.block ?_)
 refine AW.rgs rfl fun K hK => ?_
 refine bv rfl (v_loadF ty24 rfl (l_litA rfl (Nat.le_of_ble_eq_true rfl) rfl)) ?_
 obtain ⟨x2, h3, h⟩ := bS h
 refine b_op rfl (o_call rfl rfl rfl rfl (ACallD.pure0 (w_graph_Check h3)) ?_)
 refine bv rfl (v_bin rfl rfl b_neq) ?_
 refine mv rfl rfl ?_
 refine b_fin hK (s' := ⟨[(1, HV.int .i64 p1), (2, HV.fptr [HV.int .i64 p0.1, HV.int .i64 p0.2.1, slE eFromLabelTo p0.2.2] 0), (4, HV.ptr 32004 v1 0), (16, HV.bool (decide (x2 ≠ 0)))], [(32004, v1, .arr 2 63 [HV.bool false, HV.str ([] : List UInt8)])]⟩) (le_q rfl rfl) ?_
 clear hK K
 refine AW.cond rfl (fun hc => ?_) (fun hc => ?_)
 ·have hc := of_decide_eq_true hc
  have h := ifT hc h
  refine AW.rgs rfl fun K hK => ?_
  refine b_op rfl (o_build (cs := [HV.bool false, HV.str ([] : List UInt8)]) rfl (bl_of ty63 rfl rfl rfl rfl) ?_)
  refine b_op rfl (o_store (cs := [HV.bool false, HV.str ([] : List UInt8)]) (zs := [HV.bool false, HV.str ([] : List UInt8)]) rfl rfl rfl ty63 rfl rfl rfl rfl rfl ?_)
  refine mv rfl rfl ?_
  refine b_fin hK (s' := ⟨[(4, HV.ptr 32004 v1 0), (5, HV.int .i64 1)], [(32004, v1, .arr 2 63 [HV.bool false, HV.str ([] : List UInt8)])]⟩) (le_q rfl rfl) ?_
  clear hK K
  refine AW.ret ?_
  have h := Option.some.inj h
  subst h
  exact ret_pure (hs := [HV.agg [HV.bool false, HV.str ([] : List UInt8)], HV.int .i64 1]) (q := HV.tup [HV.agg [HV.bool false, HV.str ([] : List UInt8)], HV.int .i64 1]) (.inr rfl) (resP ty63 rfl rfl (l_litA rfl (Nat.le_of_ble_eq_true rfl) rfl) (resT rfl rfl)) rfl ⟨⟨trivial, trivial, trivial⟩, trivial, trivial⟩
 have hc := of_decide_eq_false hc
 have h := ifF hc h
 refine AW.seqJ h (S := Bool) (V := Unit) (fun a v => ⟨[(1, HV.int .i64 p1), (2, HV.fptr [HV.int .i64 p0.1, HV.int .i64 p0.2.1, slE eFromLabelTo p0.2.2] 0), (4, HV.ptr 32004 v1 0), (21, HV.bool a)], [(32004, v1, .arr 2 63 [HV.bool false, HV.str ([] : List UInt8)])]⟩) (fun a4 w5 h => ?_) (fun k6 h => ?_)
 ·refine AW.cond rfl (fun hc => ?_) (fun hc => ?_)
  ·have h := ifT hc h
   refine AW.rgs rfl fun K hK => ?_
   refine b_op rfl (o_build (cs := [HV.bool false, HV.str ([] : List UInt8)]) rfl (bl_of ty63 rfl rfl rfl rfl) ?_)
   refine b_op rfl (o_store (cs := [HV.bool false, HV.str ([] : List UInt8)]) (zs := [HV.bool false, HV.str ([] : List UInt8)]) rfl rfl rfl ty63 rfl rfl rfl rfl rfl ?_)
   refine mv rfl rfl ?_
   refine b_fin hK (s' := ⟨[(4, HV.ptr 32004 v1 0), (5, HV.int .i64 2)], [(32004, v1, .arr 2 63 [HV.bool false, HV.str ([] : List UInt8)])]⟩) (le_q rfl rfl) ?_
   clear hK K
   refine AW.ret ?_
   have h := Option.some.inj h
   subst h
   exact ret_pure (hs := [HV.agg [HV.bool false, HV.str ([] : List UInt8)], HV.int .i64 2]) (q := HV.tup [HV.agg [HV.bool false, HV.str ([] : List UInt8)], HV.int .i64 2]) (.inr rfl) (resP ty63 rfl rfl (l_litA rfl (Nat.le_of_ble_eq_true rfl) rfl) (resT rfl rfl)) rfl ⟨⟨trivial, trivial, trivial⟩, trivial, trivial⟩
  have h := ifF (bF' hc) h
  refine AW.skip ?_
  refine AW.rgs rfl fun K hK => ?_
  refine bv rfl (v_loadF ty24 rfl (l_litA rfl (Nat.le_of_ble_eq_true rfl) rfl)) ?_
  obtain ⟨x7, h8, h⟩ := bS h
  refine b_op rfl (o_call rfl rfl rfl rfl (ACallD.pure0 (w_subset_Build h8)) ?_)
  refine mv rfl rfl ?_
  refine bv rfl (v_extract rfl rfl) ?_
  refine bv rfl (v_extract rfl rfl) ?_
  refine bv rfl (v_extract rfl rfl) ?_
  refine b_op rfl (o_alloc (fid := 32) (zs := [HV.int .i64 0, HV.int .i64 0, HV.v (.slice none 0 0)]) 32006 rfl rfl ty24 rfl (fun v9 => ?_))
  refine b_op rfl (o_store (cs := [HV.int .i64 x7.1.1, HV.int .i64 x7.1.2.1, slE eFromLabelTo x7.1.2.2]) (zs := [HV.int .i64 x7.1.1, HV.int .i64 x7.1.2.1, slE eFromLabelTo x7.1.2.2]) rfl rfl rfl ty24 rfl rfl rfl rfl rfl ?_)
  refine mv rfl rfl ?_
  refine mv rfl rfl ?_
  refine b_fin hK (s' := ⟨[(1, HV.int .i64 p1), (4, HV.ptr 32004 v1 0), (6, HV.ptr 32006 v9 0), (8, HV.int .i64 x7.2.2)], [(32004, v1, .arr 2 63 [HV.bool false, HV.str ([] : List UInt8)]), (32006, v9, .arr 3 24 [HV.int .i64 x7.1.1, HV.int .i64 x7.1.2.1, slE eFromLabelTo x7.1.2.2])]⟩) (le_q rfl rfl) ?_
  clear hK K
  refine AW.seq ?_
  refine AW.seqJ h (S := Bool) (V := Unit) (fun a v => ⟨[(1, HV.int .i64 p1), (4, HV.ptr 32004 v1 0), (6, HV.ptr 32006 v9 0), (8, HV.int .i64 x7.2.2), (41, HV.bool a)], [(32004, v1, .arr 2 63 [HV.bool false, HV.str ([] : List UInt8)]), (32006, v9, .arr 3 24 [HV.int .i64 x7.1.1, HV.int .i64 x7.1.2.1, slE eFromLabelTo x7.1.2.2])]⟩) (fun a10 w11 h => ?_) (fun k12 h => ?_)
  ·refine AW.cond rfl (fun hc => ?_) (fun hc => ?_)
   ·have h := ifT hc h
    refine AW.rgs rfl fun K hK => ?_
    refine b_op rfl (o_build (cs := [HV.bool false, HV.str ([] : List UInt8)]) rfl (bl_of ty63 rfl rfl rfl rfl) ?_)
    refine mv rfl rfl ?_
    refine b_op rfl (o_store (cs := [HV.bool false, HV.str ([] : List UInt8)]) (zs := [HV.bool false, HV.str ([] : List UInt8)]) rfl rfl rfl ty63 rfl rfl rfl rfl rfl ?_)
    refine mv rfl rfl ?_
    refine b_fin hK (s' := ⟨[(4, HV.ptr 32004 v1 0), (5, HV.int .i64 x7.2.2)], [(32004, v1, .arr 2 63 [HV.bool false, HV.str ([] : List UInt8)])]⟩) (le_q rfl rfl) ?_
    clear hK K
    refine AW.ret ?_
    have h := Option.some.inj h
    subst h
    exact ret_pure (hs := [HV.agg [HV.bool false, HV.str ([] : List UInt8)], HV.int .i64 x7.2.2]) (q := HV.tup [HV.agg [HV.bool false, HV.str ([] : List UInt8)], HV.int .i64 x7.2.2]) (.inr rfl) (resP ty63 rfl rfl (l_litA rfl (Nat.le_of_ble_eq_true rfl) rfl) (resT rfl rfl)) rfl ⟨⟨trivial, trivial, trivial⟩, trivial, trivial⟩
   have h := ifF (bF' hc) h
   refine AW.skip ?_
   refine AW.rgs rfl fun K hK => ?_
   refine bv rfl (v_fieldAddrP fo24_1 rfl rfl) ?_
   refine bv rfl (v_loadP ty3 rfl rfl (l_lit rfl rfl)) ?_
   obtain ⟨h14, h⟩ := ifN h
   refine b_op rfl (o_makeE (fid := 32) eNegMag ((false, ([] : List UInt8)) : TNegMag) 32046 rfl rfl ty79 rfl rfl ty63 rfl rfl h14 (fun v13 => ?_))
   refine mv rfl rfl ?_
   refine b_fin hK (s' := ⟨[(1, HV.int .i64 p1), (4, HV.ptr 32004 v1 0), (6, HV.ptr 32006 v9 0), (9, HV.ar 32046 v13 eNegMag.k 0 ((List.replicate (x7.1.2.1).toNat ((false, ([] : List UInt8)) : TNegMag)).length))], [(32004, v1, .arr 2 63 [HV.bool false, HV.str ([] : List UInt8)]), (32006, v9, .arr 3 24 [HV.int .i64 x7.1.1, HV.int .i64 x7.1.2.1, slE eFromLabelTo x7.1.2.2]), (32046, v13, .arr eNegMag.k 63 (eNegMag.E (List.replicate (x7.1.2.1).toNat ((false, ([] : List UInt8)) : TNegMag))))]⟩) (le_q rfl rfl) ?_
   clear hK K
   refine AW.rgs rfl fun K hK => ?_
   refine mv rfl rfl ?_
   obtain ⟨x15, h16, h⟩ := bS h
   refine b_op rfl (o_call rfl rfl rfl rfl (ACallD.pure0 (w_integer_Of h16)) ?_)
   obtain ⟨x17, h18, h⟩ := bS h
   refine bv rfl (v_idxA ty79 es79 rfl rfl (idx_lt h18) rfl) ?_
   refine b_op rfl (o_storeE eNegMag (l := (List.replicate (x7.1.2.1).toNat ((false, ([] : List UInt8)) : TNegMag))) (j := (0 : Int)) (v := x15) rfl rfl rfl ty63 rfl rfl rfl (idx_lt h18) ?_)
   refine b_fin hK (s' := ⟨[(1, HV.int .i64 p1), (4, HV.ptr 32004 v1 0), (6, HV.ptr 32006 v9 0), (9, HV.ar 32046 v13 eNegMag.k 0 (((List.replicate (x7.1.2.1).toNat ((false, ([] : List UInt8)) : TNegMag)).set (0 : Int).toNat x15).length))], [(32004, v1, .arr 2 63 [HV.bool false, HV.str ([] : List UInt8)]), (32006, v9, .arr 3 24 [HV.int .i64 x7.1.1, HV.int .i64 x7.1.2.1, slE eFromLabelTo x7.1.2.2]), (32046, v13, .arr eNegMag.k 63 (eNegMag.E ((List.replicate (x7.1.2.1).toNat ((false, ([] : List UInt8)) : TNegMag)).set (0 : Int).toNat x15)))]⟩) (AS.le_of ⟨rfl, rfl, rfl, arl (by first | rfl | simp only [List.length_set, sortI_len, sortS_len]), trivial⟩ ⟨rfl, rfl, rfl, trivial⟩) ?_
   clear hK K
   refine AW.seq ?_
   refine AW.rgs rfl fun K hK => ?_
   refine mv rfl rfl ?_
   refine mv rfl rfl ?_
   refine b_fin hK (s' := ⟨[(4, HV.ptr 32004 v1 0), (6, HV.ptr 32006 v9 0), (9, HV.ar 32046 v13 eNegMag.k 0 (((List.replicate (x7.1.2.1).toNat ((false, ([] : List UInt8)) : TNegMag)).set (0 : Int).toNat x15).length)), (50, HV.int .i64 p1), (51, HV.int .i64 0)], [(32004, v1, .arr 2 63 [HV.bool false, HV.str ([] : List UInt8)]), (32006, v9, .arr 3 24 [HV.int .i64 x7.1.1, HV.int .i64 x7.1.2.1, slE eFromLabelTo x7.1.2.2]), (32046, v13, .arr eNegMag.k 63 (eNegMag.E ((List.replicate (x7.1.2.1).toNat ((false, ([] : List UInt8)) : TNegMag)).set (0 : Int).toNat x15)))]⟩) (le_q rfl rfl) ?_
   clear hK K
   refine AW.lpX h (by first | exact up_then | exact up_to) (S := (List TNegMag) × Int) (V := Unit) (fun a v => ⟨[(4, HV.ptr 32004 v1 0), (6, HV.ptr 32006 v9 0), (9, slE eNegMag a.1), (50, HV.int .i64 p1), (51, HV.int .i64 a.2)], [(32004, v1, .arr 2 63 [HV.bool false, HV.str ([] : List UInt8)]), (32006, v9, .arr 3 24 [HV.int .i64 x7.1.1, HV.int .i64 x7.1.2.1, slE eFromLabelTo x7.1.2.2])]⟩) ?_ (X := (List TNegMag)) (W := Unit) (fun a v => ⟨[(4, HV.ptr 32004 v1 0), (9, slE eNegMag a)], [(32004, v1, .arr 2 63 [HV.bool false, HV.str ([] : List UInt8)])]⟩) (fun a44 w45 h => ?_) (fun a19 w20 st21 h => ?_)
   ·refine to_bind (to_frz 2 [(32046, v13, .arr eNegMag.k 63 (eNegMag.E ((List.replicate (x7.1.2.1).toNat ((false, ([] : List UInt8)) : TNegMag)).set (0 : Int).toNat x15)))] ⟨[(4, HV.ptr 32004 v1 0), (6, HV.ptr 32006 v9 0), (9, slE eNegMag ((List.replicate (x7.1.2.1).toNat ((false, ([] : List UInt8)) : TNegMag)).set (0 : Int).toNat x15)), (50, HV.int .i64 p1), (51, HV.int .i64 0)], [(32004, v1, .arr 2 63 [HV.bool false, HV.str ([] : List UInt8)]), (32006, v9, .arr 3 24 [HV.int .i64 x7.1.1, HV.int .i64 x7.1.2.1, slE eFromLabelTo x7.1.2.2])]⟩ ⟨⟨_, rfl, rfl⟩, ⟨_, rfl, rfl⟩, ⟨_, rfl, frz_slE eNegMag (l := (List.replicate (x7.1.2.1).toNat ((false, ([] : List UInt8)) : TNegMag)).set (0 : Int).toNat x15) rfl fun _ _ => rfl⟩, ⟨_, rfl, rfl⟩, ⟨_, rfl, rfl⟩, trivial⟩ ⟨rfl, rfl, trivial⟩ ⟨rfl, trivial⟩ ⟨rfl, trivial⟩ ?_)
    exact to_le (s' := ⟨[(4, HV.ptr 32004 v1 0), (6, HV.ptr 32006 v9 0), (9, slE eNegMag ((List.replicate (x7.1.2.1).toNat ((false, ([] : List UInt8)) : TNegMag)).set (0 : Int).toNat x15)), (50, HV.int .i64 p1), (51, HV.int .i64 0)], [(32004, v1, .arr 2 63 [HV.bool false, HV.str ([] : List UInt8)]), (32006, v9, .arr 3 24 [HV.int .i64 x7.1.1, HV.int .i64 x7.1.2.1, slE eFromLabelTo x7.1.2.2])]⟩) (AS.le_of ⟨rfl, rfl, rfl, rfl, rfl, trivial⟩ ⟨rfl, rfl, trivial⟩) ⟨(), rfl⟩
   ·refine AW.rgs rfl fun K hK => ?_
    refine b_op rfl (o_alloc (fid := 32) (zs := [HV.bool false, HV.str ([] : List UInt8)]) 32013 rfl rfl ty63 rfl (fun v46 => ?_))
    refine b_fin hK (s' := ⟨[(4, HV.ptr 32004 v1 0), (9, slE eNegMag a44), (13, HV.ptr 32013 v46 0)], [(32004, v1, .arr 2 63 [HV.bool false, HV.str ([] : List UInt8)]), (32013, v46, .arr 2 63 [HV.bool false, HV.str ([] : List UInt8)])]⟩) (le_q rfl rfl) ?_
    clear hK K
    refine AW.seq ?_
    refine AW.rgs rfl fun K hK => ?_
    refine mv rfl rfl ?_
    refine bv rfl (v_lenF rfl rfl ty79 rfl) ?_
    refine mv rfl rfl ?_
    refine b_fin hK (s' := ⟨[(4, HV.ptr 32004 v1 0), (13, HV.ptr 32013 v46 0), (81, slE eNegMag a44), (82, HV.int .i64 ((a44).length : Int)), (83, HV.int .i64 0)], [(32004, v1, .arr 2 63 [HV.bool false, HV.str ([] : List UInt8)]), (32013, v46, .arr 2 63 [HV.bool false, HV.str ([] : List UInt8)])]⟩) (le_q rfl rfl) ?_
    clear hK K
    refine AW.lpX h (by first | exact up_then | exact up_to) (S := Int × Bool × (List UInt8)) (V := Unit) (fun a v => ⟨[(4, HV.ptr 32004 v1 0), (13, HV.ptr 32013 v46 0), (81, slE eNegMag a44), (82, HV.int .i64 ((a44).length : Int)), (83, HV.int .i64 a.1)], [(32004, v1, .arr 2 63 [HV.bool false, HV.str ([] : List UInt8)]), (32013, v46, .arr 2 63 [HV.bool a.2.1, HV.str a.2.2])]⟩) ?_ (X := Bool × (List UInt8)) (W := Unit) (fun a v => ⟨[(4, HV.ptr 32004 v1 0), (13, HV.ptr 32013 v46 0)], [(32004, v1, .arr 2 63 [HV.bool false, HV.str ([] : List UInt8)]), (32013, v46, .arr 2 63 [HV.bool a.1, HV.str a.2])]⟩) (fun a56 w57 h => ?_) (fun a47 w48 st49 h => ?_)
    ·exact to_le (s' := ⟨[(4, HV.ptr 32004 v1 0), (13, HV.ptr 32013 v46 0), (81, slE eNegMag a44), (82, HV.int .i64 ((a44).length : Int)), (83, HV.int .i64 0)], [(32004, v1, .arr 2 63 [HV.bool false, HV.str ([] : List UInt8)]), (32013, v46, .arr 2 63 [HV.bool false, HV.str ([] : List UInt8)])]⟩) (AS.le_of ⟨rfl, rfl, rfl, rfl, rfl, trivial⟩ ⟨rfl, rfl, trivial⟩) ⟨(), rfl⟩
    ·refine AW.rgs rfl fun K hK => ?_
     refine bv rfl (v_loadP ty63 rfl rfl (l_litA rfl (Nat.le_of_ble_eq_true rfl) rfl)) ?_
     refine b_op rfl (o_store (cs := [HV.bool a56.1, HV.str a56.2]) (zs := [HV.bool a56.1, HV.str a56.2]) rfl rfl rfl ty63 rfl rfl rfl rfl rfl ?_)
     refine mv rfl rfl ?_
     refine b_fin hK (s' := ⟨[(4, HV.ptr 32004 v1 0), (5, HV.int .i64 0)], [(32004, v1, .arr 2 63 [HV.bool a56.1, HV.str a56.2])]⟩) (le_q rfl rfl) ?_
     clear hK K
     refine AW.ret ?_
     have h := Option.some.inj h
     subst h
     exact ret_pure (hs := [HV.agg [HV.bool a56.1, HV.str a56.2], HV.int .i64 0]) (q := HV.tup [HV.agg [HV.bool a56.1, HV.str a56.2], HV.int .i64 0]) (.inr rfl) (resP ty63 rfl rfl (l_litA rfl (Nat.le_of_ble_eq_true rfl) rfl) (resT rfl rfl)) rfl ⟨⟨trivial, trivial, trivial⟩, trivial, trivial⟩
    refine AW.rgs rfl fun K hK => ?_
    refine bv rfl (v_bin rfl rfl b_lss) ?_
    refine b_fin hK (s' := ⟨[(4, HV.ptr 32004 v1 0), (13, HV.ptr 32013 v46 0), (81, slE eNegMag a44), (82, HV.int .i64 ((a44).length : Int)), (83, HV.int .i64 a47.1), (84, HV.bool (decide (a47.1 < ((a44).length : Int))))], [(32004, v1, .arr 2 63 [HV.bool false, HV.str ([] : List UInt8)]), (32013, v46, .arr 2 63 [HV.bool a47.2.1, HV.str a47.2.2])]⟩) (le_q rfl rfl) ?_
    clear hK K
    refine AW.cseq rfl (fun hc => ?_) (fun hc => ?_)
    ·have hc := of_decide_eq_true hc
     have h := ifT hc h
     refine AW.skip ?_
     refine AW.seq (AW.block ?_)
     refine AW.rgs rfl fun K hK => ?_
     obtain ⟨x51, h52, h⟩ := bS h
     refine bv rfl (v_idxF ty79 es79 rfl rfl (idx_lt h52)) ?_
     refine bv rfl (v_loadF ty63 rfl (l_agg eNegMag h52 rfl rfl)) ?_
     refine b_op rfl (o_alloc (fid := 32) (zs := [HV.bool false, HV.str ([] : List UInt8)]) 32015 rfl rfl ty63 rfl (fun v53 => ?_))
     refine b_op rfl (o_store (cs := [HV.bool x51.1, HV.str x51.2]) (zs := [HV.bool x51.1, HV.str x51.2]) rfl rfl rfl ty63 rfl rfl rfl rfl rfl ?_)
     refine b_fin hK (s' := ⟨[(4, HV.ptr 32004 v1 0), (13, HV.ptr 32013 v46 0), (15, HV.ptr 32015 v53 0), (81, slE eNegMag a44), (82, HV.int .i64 ((a44).length : Int)), (83, HV.int .i64 a47.1)], [(32004, v1, .arr 2 63 [HV.bool false, HV.str ([] : List UInt8)]), (32013, v46, .arr 2 63 [HV.bool a47.2.1, HV.str a47.2.2]), (32015, v53, .arr 2 63 [HV.bool x51.1, HV.str x51.2])]⟩) (le_q rfl rfl) ?_
     clear hK K
     refine AW.rg rfl fun K hK => ?_
     refine bv rfl (v_loadP ty63 rfl rfl (l_litA rfl (Nat.le_of_ble_eq_true rfl) rfl)) ?_
     refine bv rfl (v_loadP ty63 rfl rfl (l_litA rfl (Nat.le_of_ble_eq_true rfl) rfl)) ?_
     obtain ⟨x54, h55, h⟩ := bS h
     refine b_op rfl (o_call rfl rfl rfl rfl (ACallD.pure0 (w_integer_Add h55)) ?_)
     refine b_op rfl (o_store (cs := [HV.bool x54.1, HV.str x54.2]) (zs := [HV.bool x54.1, HV.str x54.2]) rfl rfl rfl ty63 rfl rfl rfl rfl rfl ?_)
     refine b_fin hK (s' := ⟨[(4, HV.ptr 32004 v1 0), (13, HV.ptr 32013 v46 0), (81, slE eNegMag a44), (82, HV.int .i64 ((a44).length : Int)), (83, HV.int .i64 a47.1)], [(32004, v1, .arr 2 63 [HV.bool false, HV.str ([] : List UInt8)]), (32013, v46, .arr 2 63 [HV.bool x54.1, HV.str x54.2])]⟩) (le_q rfl rfl) ?_
     clear hK K
     refine AW.rg rfl fun K hK => ?_
     refine bv rfl (v_bin rfl rfl b_add) ?_
     refine mv rfl rfl ?_
     refine b_nil (hK _ ?_)
     clear hK K
     exact to_le (s' := ⟨[(4, HV.ptr 32004 v1 0), (13, HV.ptr 32013 v46 0), (81, slE eNegMag a44), (82, HV.int .i64 ((a44).length : Int)), (83, HV.int .i64 (IntKind.wrap .i64 (a47.1 + 1)))], [(32004, v1, .arr 2 63 [HV.bool false, HV.str ([] : List UInt8)]), (32013, v46, .arr 2 63 [HV.bool x54.1, HV.str x54.2])]⟩) (AS.le_of ⟨rfl, rfl, rfl, rfl, rfl, trivial⟩ ⟨rfl, rfl, trivial⟩) ⟨(IntKind.wrap .i64 (a47.1 + 1), x54.1, x54.2), (), h, rfl⟩
    have hc := of_decide_eq_false hc
    have h := ifF hc h
    refine AW.exit ?_
    exact to_le (s' := ⟨[(4, HV.ptr 32004 v1 0), (13, HV.ptr 32013 v46 0)], [(32004, v1, .arr 2 63 [HV.bool false, HV.str ([] : List UInt8)]), (32013, v46, .arr 2 63 [HV.bool a47.2.1, HV.str a47.2.2])]⟩) (AS.le_of ⟨rfl, rfl, trivial⟩ ⟨rfl, rfl, trivial⟩) ⟨(a47.2.1, a47.2.2), (), h, rfl⟩
   refine AW.rgs rfl fun K hK => ?_
   refine bv rfl (v_bin rfl rfl b_lss) ?_
   refine b_fin hK (s' := ⟨[(4, HV.ptr 32004 v1 0), (6, HV.ptr 32006 v9 0), (9, slE eNegMag a19.1), (50, HV.int .i64 p1), (51, HV.int .i64 a19.2), (52, HV.bool (decide (a19.2 < p1)))], [(32004, v1, .arr 2 63 [HV.bool false, HV.str ([] : List UInt8)]), (32006, v9, .arr 3 24 [HV.int .i64 x7.1.1, HV.int .i64 x7.1.2.1, slE eFromLabelTo x7.1.2.2])]⟩) (le_q rfl rfl) ?_
   clear hK K
   refine AW.cseq rfl (fun hc => ?_) (fun hc => ?_)
   ·have hc := of_decide_eq_true hc
    have h := ifT hc h
    refine AW.skip ?_
    refine AW.seq (AW.block ?_)
    refine AW.rgs rfl fun K hK => ?_
    refine bv rfl (v_fieldAddrP fo24_1 rfl rfl) ?_
    refine bv rfl (v_loadP ty3 rfl rfl (l_lit rfl rfl)) ?_
    obtain ⟨h24, h⟩ := ifN h
    refine b_op rfl (o_makeE (fid := 32) eNegMag ((false, ([] : List UInt8)) : TNegMag) 32055 rfl rfl ty79 rfl rfl ty63 rfl rfl h24 (fun v23 => ?_))
    refine mv rfl rfl ?_
    refine b_fin hK (s' := ⟨[(4, HV.ptr 32004 v1 0), (6, HV.ptr 32006 v9 0), (9, slE eNegMag a19.1), (10, HV.ar 32055 v23 eNegMag.k 0 ((List.replicate (x7.1.2.1).toNat ((false, ([] : List UInt8)) : TNegMag)).length)), (50, HV.int .i64 p1), (51, HV.int .i64 a19.2)], [(32004, v1, .arr 2 63 [HV.bool false, HV.str ([] : List UInt8)]), (32006, v9, .arr 3 24 [HV.int .i64 x7.1.1, HV.int .i64 x7.1.2.1, slE eFromLabelTo x7.1.2.2]), (32055, v23, .arr eNegMag.k 63 (eNegMag.E (List.replicate (x7.1.2.1).toNat ((false, ([] : List UInt8)) : TNegMag))))]⟩) (le_q rfl rfl) ?_
    clear hK K
    refine AW.seq ?_
    refine AW.rgs rfl fun K hK => ?_
    refine bv rfl (v_fieldAddrP fo24_2 rfl rfl) ?_
    refine bv rfl (v_loadP ty22 rfl rfl (l_lit rfl rfl)) ?_
    refine bv rfl (v_lenF rfl rfl ty22 rfl) ?_
    refine mv rfl rfl ?_
    refine b_fin hK (s' := ⟨[(4, HV.ptr 32004 v1 0), (6, HV.ptr 32006 v9 0), (9, slE eNegMag a19.1), (10, HV.ar 32055 v23 eNegMag.k 0 ((List.replicate (x7.1.2.1).toNat ((false, ([] : List UInt8)) : TNegMag)).length)), (50, HV.int .i64 p1), (51, HV.int .i64 a19.2), (57, slE eFromLabelTo x7.1.2.2), (58, HV.int .i64 ((x7.1.2.2).length : Int)), (59, HV.int .i64 0)], [(32004, v1, .arr 2 63 [HV.bool false, HV.str ([] : List UInt8)]), (32006, v9, .arr 3 24 [HV.int .i64 x7.1.1, HV.int .i64 x7.1.2.1, slE eFromLabelTo x7.1.2.2]), (32055, v23, .arr eNegMag.k 63 (eNegMag.E (List.replicate (x7.1.2.1).toNat ((false, ([] : List UInt8)) : TNegMag))))]⟩) (le_q rfl rfl) ?_
    clear hK K
    refine AW.lpX h (by first | exact up_then | exact up_to) (S := Int × (List TNegMag)) (V := Unit) (fun a v => ⟨[(4, HV.ptr 32004 v1 0), (6, HV.ptr 32006 v9 0), (9, slE eNegMag a19.1), (10, HV.ar 32055 v23 eNegMag.k 0 ((a.2).length)), (50, HV.int .i64 p1), (51, HV.int .i64 a19.2), (57, slE eFromLabelTo x7.1.2.2), (58, HV.int .i64 ((x7.1.2.2).length : Int)), (59, HV.int .i64 a.1)], [(32004, v1, .arr 2 63 [HV.bool false, HV.str ([] : List UInt8)]), (32006, v9, .arr 3 24 [HV.int .i64 x7.1.1, HV.int .i64 x7.1.2.1, slE eFromLabelTo x7.1.2.2]), (32055, v23, .arr eNegMag.k 63 (eNegMag.E a.2))]⟩) ?_ (X := (List TNegMag)) (W := Unit) (fun a v => ⟨[(4, HV.ptr 32004 v1 0), (6, HV.ptr 32006 v9 0), (10, HV.ar 32055 v23 eNegMag.k 0 ((a).length)), (50, HV.int .i64 p1), (51, HV.int .i64 a19.2)], [(32004, v1, .arr 2 63 [HV.bool false, HV.str ([] : List UInt8)]), (32006, v9, .arr 3 24 [HV.int .i64 x7.1.1, HV.int .i64 x7.1.2.1, slE eFromLabelTo x7.1.2.2]), (32055, v23, .arr eNegMag.k 63 (eNegMag.E a))]⟩) (fun a42 w43 h => ?_) (fun a25 w26 st27 h => ?_)
    ·exact to_le (s' := ⟨[(4, HV.ptr 32004 v1 0), (6, HV.ptr 32006 v9 0), (9, slE eNegMag a19.1), (10, HV.ar 32055 v23 eNegMag.k 0 ((List.replicate (x7.1.2.1).toNat ((false, ([] : List UInt8)) : TNegMag)).length)), (50, HV.int .i64 p1), (51, HV.int .i64 a19.2), (57, slE eFromLabelTo x7.1.2.2), (58, HV.int .i64 ((x7.1.2.2).length : Int)), (59, HV.int .i64 0)], [(32004, v1, .arr 2 63 [HV.bool false, HV.str ([] : List UInt8)]), (32006, v9, .arr 3 24 [HV.int .i64 x7.1.1, HV.int .i64 x7.1.2.1, slE eFromLabelTo x7.1.2.2]), (32055, v23, .arr eNegMag.k 63 (eNegMag.E (List.replicate (x7.1.2.1).toNat ((false, ([] : List UInt8)) : TNegMag))))]⟩) (AS.le_of ⟨rfl, rfl, rfl, rfl, rfl, rfl, rfl, rfl, rfl, trivial⟩ ⟨rfl, rfl, rfl, trivial⟩) ⟨(), rfl⟩
    ·refine AW.rg rfl fun K hK => ?_
     refine mv rfl rfl ?_
     refine mv rfl rfl ?_
     refine b_fin hK (s' := ⟨[(4, HV.ptr 32004 v1 0), (6, HV.ptr 32006 v9 0), (9, HV.ar 32055 v23 eNegMag.k 0 ((a42).length)), (50, HV.int .i64 p1), (51, HV.int .i64 a19.2)], [(32004, v1, .arr 2 63 [HV.bool false, HV.str ([] : List UInt8)]), (32006, v9, .arr 3 24 [HV.int .i64 x7.1.1, HV.int .i64 x7.1.2.1, slE eFromLabelTo x7.1.2.2]), (32055, v23, .arr eNegMag.k 63 (eNegMag.E a42))]⟩) (le_q rfl rfl) ?_
     clear hK K
     refine AW.rg rfl fun K hK => ?_
     refine bv rfl (v_bin rfl rfl b_add) ?_
     refine mv rfl rfl ?_
     refine b_nil (hK _ ?_)
     clear hK K
     refine to_bind (to_frz 2 [(32055, v23, .arr eNegMag.k 63 (eNegMag.E a42))] ⟨[(4, HV.ptr 32004 v1 0), (6, HV.ptr 32006 v9 0), (9, slE eNegMag a42), (50, HV.int .i64 p1), (51, HV.int .i64 (IntKind.wrap .i64 (a19.2 + 1)))], [(32004, v1, .arr 2 63 [HV.bool false, HV.str ([] : List UInt8)]), (32006, v9, .arr 3 24 [HV.int .i64 x7.1.1, HV.int .i64 x7.1.2.1, slE eFromLabelTo x7.1.2.2])]⟩ ⟨⟨_, rfl, rfl⟩, ⟨_, rfl, rfl⟩, ⟨_, rfl, frz_slE eNegMag (l := a42) rfl fun _ _ => rfl⟩, ⟨_, rfl, rfl⟩, ⟨_, rfl, rfl⟩, trivial⟩ ⟨rfl, rfl, trivial⟩ ⟨rfl, trivial⟩ ⟨rfl, trivial⟩ ?_)
     exact to_le (s' := ⟨[(4, HV.ptr 32004 v1 0), (6, HV.ptr 32006 v9 0), (9, slE eNegMag a42), (50, HV.int .i64 p1), (51, HV.int .i64 (IntKind.wrap .i64 (a19.2 + 1)))], [(32004, v1, .arr 2 63 [HV.bool false, HV.str ([] : List UInt8)]), (32006, v9, .arr 3 24 [HV.int .i64 x7.1.1, HV.int .i64 x7.1.2.1, slE eFromLabelTo x7.1.2.2])]⟩) (AS.le_of ⟨rfl, rfl, rfl, rfl, rfl, trivial⟩ ⟨rfl, rfl, trivial⟩) ⟨(a42, IntKind.wrap .i64 (a19.2 + 1)), (), h, rfl⟩
    refine AW.rgs rfl fun K hK => ?_
    refine bv rfl (v_bin rfl rfl b_lss) ?_
    refine b_fin hK (s' := ⟨[(4, HV.ptr 32004 v1 0), (6, HV.ptr 32006 v9 0), (9, slE eNegMag a19.1), (10, HV.ar 32055 v23 eNegMag.k 0 ((a25.2).length)), (50, HV.int .i64 p1), (51, HV.int .i64 a19.2), (57, slE eFromLabelTo x7.1.2.2), (58, HV.int .i64 ((x7.1.2.2).length : Int)), (59, HV.int .i64 a25.1), (60, HV.bool (decide (a25.1 < ((x7.1.2.2).length : Int))))], [(32004, v1, .arr 2 63 [HV.bool false, HV.str ([] : List UInt8)]), (32006, v9, .arr 3 24 [HV.int .i64 x7.1.1, HV.int .i64 x7.1.2.1, slE eFromLabelTo x7.1.2.2]), (32055, v23, .arr eNegMag.k 63 (eNegMag.E a25.2))]⟩) (le_q rfl rfl) ?_
    clear hK K
    refine AW.cseq rfl (fun hc => ?_) (fun hc => ?_)
    ·have hc := of_decide_eq_true hc
     have h := ifT hc h
     refine AW.skip ?_
     refine AW.seq (AW.block ?_)
     refine AW.rgs rfl fun K hK => ?_
     obtain ⟨x29, h30, h⟩ := bS h
     refine bv rfl (v_idxF ty22 es22 rfl rfl (idx_lt h30)) ?_
     refine bv rfl (v_loadF ty49 rfl (l_agg eFromLabelTo h30 rfl rfl)) ?_
     refine b_op rfl (o_alloc (fid := 32) (zs := [HV.int .i64 0, HV.int .i64 0, HV.int .i64 0]) 32012 rfl rfl ty49 rfl (fun v31 => ?_))
     refine b_op rfl (o_store (cs := [HV.int .i64 x29.1, HV.int .i64 x29.2.1, HV.int .i64 x29.2.2]) (zs := [HV.int .i64 x29.1, HV.int .i64 x29.2.1, HV.int .i64 x29.2.2]) rfl rfl rfl ty49 rfl rfl rfl rfl rfl ?_)
     refine b_fin hK (s' := ⟨[(4, HV.ptr 32004 v1 0), (6, HV.ptr 32006 v9 0), (9, slE eNegMag a19.1), (10, HV.ar 32055 v23 eNegMag.k 0 ((a25.2).length)), (12, HV.ptr 32012 v31 0), (50, HV.int .i64 p1), (51, HV.int .i64 a19.2), (57, slE eFromLabelTo x7.1.2.2), (58, HV.int .i64 ((x7.1.2.2).length : Int)), (59, HV.int .i64 a25.1)], [(32004, v1, .arr 2 63 [HV.bool false, HV.str ([] : List UInt8)]), (32006, v9, .arr 3 24 [HV.int .i64 x7.1.1, HV.int .i64 x7.1.2.1, slE eFromLabelTo x7.1.2.2]), (32055, v23, .arr eNegMag.k 63 (eNegMag.E a25.2)), (32012, v31, .arr 3 49 [HV.int .i64 x29.1, HV.int .i64 x29.2.1, HV.int .i64 x29.2.2])]⟩) (le_q rfl rfl) ?_
     clear hK K
     refine AW.dg 15 follows rfl rfl fun K hK => ?_
     refine sm rfl rfl ?_
     refine sv rfl (v_fieldAddrP fo49_2 rfl rfl) ?_
     refine sv rfl (v_loadP ty3 rfl rfl (l_lit rfl rfl)) ?_
     refine sm rfl rfl ?_
     refine sv rfl (v_fieldAddrP fo49_2 rfl rfl) ?_
     refine sv rfl (v_loadP ty3 rfl rfl (l_lit rfl rfl)) ?_
     obtain ⟨x32, h33, h⟩ := bS h
     refine sv rfl (v_idxA ty79 es79 rfl rfl (idx_lt h33) rfl) ?_
     obtain ⟨x34, h35, h⟩ := bS h
     refine sv rfl (v_loadP ty63 rfl rfl (l_agg eNegMag h35 rfl rfl)) ?_
     refine sm rfl rfl ?_
     refine sv rfl (v_fieldAddrP fo49_0 rfl rfl) ?_
     refine sv rfl (v_loadP ty3 rfl rfl (l_lit rfl rfl)) ?_
     obtain ⟨x36, h37, h⟩ := bS h
     refine sv rfl (v_idxF ty79 es79 rfl rfl (idx_lt h37)) ?_
     refine sv rfl (v_loadF ty63 rfl (l_agg eNegMag h37 rfl rfl)) ?_
     obtain ⟨x38, h39, h⟩ := bS h
     refine s_op rfl rfl (ops_call rfl rfl rfl rfl (ACallD.pure0 (w_integer_Add h39)) ?_)
     obtain ⟨x40, h41, h⟩ := bS h
     refine sv rfl (v_idxA ty79 es79 rfl rfl (idx_lt h41) rfl) ?_
     refine s_nil ?_
     refine b_op rfl (o_storeE eNegMag (l := a25.2) (j := x29.2.2) (v := x38) rfl rfl rfl ty63 rfl rfl rfl (idx_lt h41) ?_)
     refine b_fin hK (s' := ⟨[(4, HV.ptr 32004 v1 0), (6, HV.ptr 32006 v9 0), (9, slE eNegMag a19.1), (10, HV.ar 32055 v23 eNegMag.k 0 (((a25.2).set (x29.2.2).toNat x38).length)), (50, HV.int .i64 p1), (51, HV.int .i64 a19.2), (57, slE eFromLabelTo x7.1.2.2), (58, HV.int .i64 ((x7.1.2.2).length : Int)), (59, HV.int .i64 a25.1)], [(32004, v1, .arr 2 63 [HV.bool false, HV.str ([] : List UInt8)]), (32006, v9, .arr 3 24 [HV.int .i64 x7.1.1, HV.int .i64 x7.1.2.1, slE eFromLabelTo x7.1.2.2]), (32055, v23, .arr eNegMag.k 63 (eNegMag.E ((a25.2).set (x29.2.2).toNat x38)))]⟩) (AS.le_of ⟨rfl, rfl, rfl, arl (by first | rfl | simp only [List.length_set, sortI_len, sortS_len]), rfl, rfl, rfl, rfl, rfl, trivial⟩ ⟨rfl, rfl, rfl, trivial⟩) ?_
     clear hK K
     refine AW.rg rfl fun K hK => ?_
     refine bv rfl (v_bin rfl rfl b_add) ?_
     refine mv rfl rfl ?_
     refine b_nil (hK _ ?_)
     clear hK K
     exact to_le (s' := ⟨[(4, HV.ptr 32004 v1 0), (6, HV.ptr 32006 v9 0), (9, slE eNegMag a19.1), (10, HV.ar 32055 v23 eNegMag.k 0 (((a25.2).set (x29.2.2).toNat x38).length)), (50, HV.int .i64 p1), (51, HV.int .i64 a19.2), (57, slE eFromLabelTo x7.1.2.2), (58, HV.int .i64 ((x7.1.2.2).length : Int)), (59, HV.int .i64 (IntKind.wrap .i64 (a25.1 + 1)))], [(32004, v1, .arr 2 63 [HV.bool false, HV.str ([] : List UInt8)]), (32006, v9, .arr 3 24 [HV.int .i64 x7.1.1, HV.int .i64 x7.1.2.1, slE eFromLabelTo x7.1.2.2]), (32055, v23, .arr eNegMag.k 63 (eNegMag.E ((a25.2).set (x29.2.2).toNat x38)))]⟩) (AS.le_of ⟨rfl, rfl, rfl, rfl, rfl, rfl, rfl, rfl, rfl, trivial⟩ ⟨rfl, rfl, rfl, trivial⟩) ⟨(IntKind.wrap .i64 (a25.1 + 1), (a25.2).set (x29.2.2).toNat x38), (), h, rfl⟩
    have hc := of_decide_eq_false hc
    have h := ifF hc h
    refine AW.exit ?_
    exact to_le (s' := ⟨[(4, HV.ptr 32004 v1 0), (6, HV.ptr 32006 v9 0), (10, HV.ar 32055 v23 eNegMag.k 0 ((a25.2).length)), (50, HV.int .i64 p1), (51, HV.int .i64 a19.2)], [(32004, v1, .arr 2 63 [HV.bool false, HV.str ([] : List UInt8)]), (32006, v9, .arr 3 24 [HV.int .i64 x7.1.1, HV.int .i64 x7.1.2.1, slE eFromLabelTo x7.1.2.2]), (32055, v23, .arr eNegMag.k 63 (eNegMag.E a25.2))]⟩) (AS.le_of ⟨rfl, rfl, rfl, rfl, rfl, trivial⟩ ⟨rfl, rfl, rfl, trivial⟩) ⟨a25.2, (), h, rfl⟩
   have hc := of_decide_eq_false hc
   have h := ifF hc h
   refine AW.exit ?_
   exact to_le (s' := ⟨[(4, HV.ptr 32004 v1 0), (9, slE eNegMag a19.1)], [(32004, v1, .arr 2 63 [HV.bool false, HV.str ([] : List UInt8)])]⟩) (AS.le_of ⟨rfl, rfl, trivial⟩ ⟨rfl, trivial⟩) ⟨a19.1, (), h, rfl⟩
  refine AW.rg rfl fun K hK => ?_
  refine mv rfl rfl ?_
  refine bv rfl (v_bin rfl rfl b_neq) ?_
  refine mv rfl rfl ?_
  by_cases hg58 : x7.2.2 ≠ 0
  ·have h := ifT hg58 h
   refine b_F rfl rfl rfl rfl rfl (decide_eq_true hg58) ?_
   refine b_F rfl rfl rfl rfl rfl rfl ?_
   refine b_F rfl rfl rfl rfl rfl rfl ?_
   refine bv rfl (v_pickT rfl rfl rfl) ?_
   refine b_nil (hK _ ?_)
   clear hK K
   exact to_le (s' := ⟨[(1, HV.int .i64 p1), (4, HV.ptr 32004 v1 0), (6, HV.ptr 32006 v9 0), (8, HV.int .i64 x7.2.2), (41, HV.bool true)], [(32004, v1, .arr 2 63 [HV.bool false, HV.str ([] : List UInt8)]), (32006, v9, .arr 3 24 [HV.int .i64 x7.1.1, HV.int .i64 x7.1.2.1, slE eFromLabelTo x7.1.2.2])]⟩) (AS.le_of ⟨rfl, rfl, rfl, rfl, rfl, trivial⟩ ⟨rfl, rfl, trivial⟩) ⟨true, (), h, rfl⟩
  have h := ifF hg58 h
  refine b_T rfl rfl rfl rfl (decide_eq_false hg58) (o_val rfl (v_fieldAddrP fo24_1 rfl rfl) ?_)
  refine b_T rfl rfl rfl rfl rfl (o_val rfl (v_loadP ty3 rfl rfl (l_lit rfl rfl)) ?_)
  refine b_T rfl rfl rfl rfl rfl (o_val rfl (v_bin rfl rfl b_eql) ?_)
  refine bv rfl (v_pickF rfl rfl rfl) ?_
  refine b_nil (hK _ ?_)
  clear hK K
  exact to_le (s' := ⟨[(1, HV.int .i64 p1), (4, HV.ptr 32004 v1 0), (6, HV.ptr 32006 v9 0), (8, HV.int .i64 x7.2.2), (41, HV.bool (decide (x7.1.2.1 = 0)))], [(32004, v1, .arr 2 63 [HV.bool false, HV.str ([] : List UInt8)]), (32006, v9, .arr 3 24 [HV.int .i64 x7.1.1, HV.int .i64 x7.1.2.1, slE eFromLabelTo x7.1.2.2])]⟩) (AS.le_of ⟨rfl, rfl, rfl, rfl, rfl, trivial⟩ ⟨rfl, rfl, trivial⟩) ⟨decide (x7.1.2.1 = 0), (), h, rfl⟩
 refine AW.rg rfl fun K hK => ?_
 refine mv rfl rfl ?_
 refine bv rfl (v_bin rfl rfl b_lss) ?_
 refine mv rfl rfl ?_
 by_cases hg59 : p1 < 0
 ·have h := ifT hg59 h
  refine b_F rfl rfl rfl rfl rfl (decide_eq_true hg59) ?_
  refine b_F rfl rfl rfl rfl rfl rfl ?_
  refine bv rfl (v_pickT rfl rfl rfl) ?_
  refine mv rfl rfl ?_
  refine b_nil (hK _ ?_)
  clear hK K
  exact to_le (s' := ⟨[(1, HV.int .i64 p1), (2, HV.fptr [HV.int .i64 p0.1, HV.int .i64 p0.2.1, slE eFromLabelTo p0.2.2] 0), (4, HV.ptr 32004 v1 0), (21, HV.bool true)], [(32004, v1, .arr 2 63 [HV.bool false, HV.str ([] : List UInt8)])]⟩) (AS.le_of ⟨rfl, rfl, rfl, rfl, trivial⟩ ⟨rfl, trivial⟩) ⟨true, (), h, rfl⟩
 have h := ifF hg59 h
 refine b_T rfl rfl rfl rfl (decide_eq_false hg59) (o_val rfl (mv_val rfl rfl).2 ?_)
 refine b_T rfl rfl rfl rfl rfl (o_val rfl (v_bin rfl rfl b_gtr) ?_)
 refine bv rfl (v_pickF rfl rfl rfl) ?_
 refine mv rfl rfl ?_
 refine b_nil (hK _ ?_)
 clear hK K
 exact to_le (s' := ⟨[(1, HV.int .i64 p1), (2, HV.fptr [HV.int .i64 p0.1, HV.int .i64 p0.2.1, slE eFromLabelTo p0.2.2] 0), (4, HV.ptr 32004 v1 0), (21, HV.bool (decide (4096 < p1)))], [(32004, v1, .arr 2 63 [HV.bool false, HV.str ([] : List UInt8)])]⟩) (AS.le_of ⟨rfl, rfl, rfl, rfl, trivial⟩ ⟨rfl, trivial⟩) ⟨decide (4096 < p1), (), h, rfl⟩

set_option maxHeartbeats 1600000 in
set_option maxRecDepth 100000 in
theorem w_ref01_mag {p0 : Int} {r : (List UInt8)} (h : m_ref01_mag p0 = some r) : Pure Tryd.prog 52 [HV.int .i64 p0] (· = HV.str r) := by
 unfold m_ref01_mag at h
 refine Pure.of_body Tryd.func52 rfl rfl (Nat.le_of_ble_eq_true rfl) fun hf => ?_
 unfold Tryd.f52
 dsimp only [enumS, Nat.reduceAdd]
 refine AW.rgs rfl fun K hK => ?_
 refine mv rfl rfl ?_
 refine b_fin hK (s' := ⟨[(0, HV.int .i64 p0)], []⟩) (le_q rfl rfl) ?_
 clear hK K
 refine AW.seq ?_
 refine AW.rgs rfl fun K hK => ?_
 refine mv rfl rfl ?_
 refine bv rfl (v_bin rfl rfl b_lss) ?_
 refine b_fin hK (s' := ⟨[(0, HV.int .i64 p0), (6, HV.bool (decide (p0 < 256)))], []⟩) (le_q rfl rfl) ?_
 clear hK K
 refine AW.cond rfl (fun hc => ?_) (fun hc => ?_)
 ·have hc := of_decide_eq_true hc
  have h := ifT hc h
  refine AW.seq ?_
  refine AW.rgs rfl fun K hK => ?_
  refine mv rfl rfl ?_
  refine bv rfl (v_bin rfl rfl b_eql) ?_
  refine b_fin hK (s' := ⟨[(0, HV.int .i64 p0), (8, HV.bool (decide (p0 = 0)))], []⟩) (le_q rfl rfl) ?_
  clear hK K
  refine AW.cond rfl (fun hc => ?_) (fun hc => ?_)
  ·have hc := of_decide_eq_true hc
   have h := ifT hc h
   refine AW.rgs rfl fun K hK => ?_
   refine mv rfl rfl ?_
   refine b_fin hK (s' := ⟨[(2, HV.str ([] : List UInt8))], []⟩) (le_q rfl rfl) ?_
   clear hK K
   refine AW.ret ?_
   have h := Option.some.inj h
   subst h
   exact ret_pure (hs := [HV.str ([] : List UInt8)]) (q := HV.str ([] : List UInt8)) (.inr rfl) (resT rfl rfl) rfl trivial
  have hc := of_decide_eq_false hc
  have h := ifF hc h
  refine AW.skip ?_
  refine AW.rgs rfl fun K hK => ?_
  refine mv rfl rfl ?_
  refine bv rfl (v_convI ty3 ty5 rfl) ?_
  refine b_op rfl (o_bsl rfl rfl (as_of (cs := [HV.int .u8 (IntKind.wrap .u8 p0)]) ty25 ty5 rfl rfl rfl rfl rfl) ?_)
  refine bv rfl (v_convB (l := [IntKind.wrap .u8 p0]) ty25 ty5 ty9 rfl) ?_
  refine mv rfl rfl ?_
  refine b_fin hK (s' := ⟨[(2, HV.str ([IntKind.wrap .u8 p0].map fun (n : Int) => UInt8.ofNat n.toNat))], []⟩) (le_q rfl rfl) ?_
  clear hK K
  refine AW.ret ?_
  have h := Option.some.inj h
  subst h
  exact ret_pure (hs := [HV.str ([IntKind.wrap .u8 p0].map fun (n : Int) => UInt8.ofNat n.toNat)]) (q := HV.str ([IntKind.wrap .u8 p0].map fun (n : Int) => UInt8.ofNat n.toNat)) (.inr rfl) (resT rfl rfl) rfl trivial
 have hc := of_decide_eq_false hc
 have h := ifF hc h
 refine AW.skip ?_
 cases h

set_option maxHeartbeats 1600000 in
set_option maxRecDepth 100000 in
theorem w_ref01_Of {p0 : Int} {r : TNegMag} (h : m_ref01_Of p0 = some r) : Pure Tryd.prog 34 [HV.int .i64 p0] (· = HV.agg [HV.bool r.1, HV.str r.2]) := by
 unfold m_ref01_Of at h
 refine Pure.of_body Tryd.func34 rfl rfl (Nat.le_of_ble_eq_true rfl) fun hf => ?_
 unfold Tryd.f34
 dsimp only [enumS, Nat.reduceAdd]
 refine AW.rgs rfl fun K hK => ?_
 refine b_op rfl (o_alloc (fid := 34) (zs := [HV.bool false, HV.str ([] : List UInt8)]) 34002 rfl rfl ty63 rfl (fun v1 => ?_))
 refine b_fin hK (s' := ⟨[(0, HV.int .i64 p0), (2, HV.ptr 34002 v1 0)], [(34002, v1, .arr 2 63 [HV.bool false, HV.str ([] : List UInt8)])]⟩) (le_q rfl rfl) ?_
 clear hK K
 refine AW.seq ?_
 refine AW.rgs rfl fun K hK => ?_
 refine mv rfl rfl ?_
 refine bv rfl (v_bin rfl rfl b_geq) ?_
 refine b_fin hK (s' := ⟨[(0, HV.int .i64 p0), (2, HV.ptr 34002 v1 0), (4, HV.bool (decide (0 ≤ p0)))], [(34002, v1, .arr 2 63 [HV.bool false, HV.str ([] : List UInt8)])]⟩) (le_q rfl rfl) ?_
 clear hK K
 refine AW.cond rfl (fun hc => ?_) (fun hc => ?_)
 ·have hc := of_decide_eq_true hc
  have h := ifT hc h
  refine AW.rgs rfl fun K hK => ?_
  refine mv rfl rfl ?_
  obtain ⟨x2, h3, h⟩ := bS h
  refine b_op rfl (o_call rfl rfl rfl rfl (ACallD.pure0 (w_ref01_mag h3)) ?_)
  refine b_op rfl (o_build (cs := [HV.bool false, HV.str x2]) rfl (bl_of ty63 rfl rfl rfl rfl) ?_)
  refine b_op rfl (o_store (cs := [HV.bool false, HV.str x2]) (zs := [HV.bool false, HV.str x2]) rfl rfl rfl ty63 rfl rfl rfl rfl rfl ?_)
  refine b_fin hK (s' := ⟨[(2, HV.ptr 34002 v1 0)], [(34002, v1, .arr 2 63 [HV.bool false, HV.str x2])]⟩) (le_q rfl rfl) ?_
  clear hK K
  refine AW.ret ?_
  have h := Option.some.inj h
  subst h
  exact ret_pure (hs := [HV.agg [HV.bool false, HV.str x2]]) (q := HV.agg [HV.bool false, HV.str x2]) (.inr rfl) (resP ty63 rfl rfl (l_litA rfl (Nat.le_of_ble_eq_true rfl) rfl) rfl) rfl ⟨trivial, trivial, trivial⟩
 have hc := of_decide_eq_false hc
 have h := ifF hc h
 refine AW.skip ?_
 refine AW.seq ?_
 refine AW.rgs rfl fun K hK => ?_
 refine mv rfl rfl ?_
 refine mv rfl rfl ?_
 refine bv rfl (v_neg rfl) ?_
 refine bv rfl (v_bin rfl rfl b_eql) ?_
 refine b_fin hK (s' := ⟨[(0, HV.int .i64 p0), (2, HV.ptr 34002 v1 0), (11, HV.bool (decide (p0 = (IntKind.wrap .i64 (0 - p0)))))], [(34002, v1, .arr 2 63 [HV.bool false, HV.str ([] : List UInt8)])]⟩) (le_q rfl rfl) ?_
 clear hK K
 refine AW.cond rfl (fun hc => ?_) (fun hc => ?_)
 ·have hc := of_decide_eq_true hc
  have h := ifT hc h
  refine AW.rgs rfl fun K hK => ?_
  refine b_op rfl (o_build (cs := [HV.bool true, HV.str [128, 0, 0, 0, 0, 0, 0, 0]]) rfl (bl_of ty63 rfl rfl rfl rfl) ?_)
  refine b_op rfl (o_store (cs := [HV.bool true, HV.str [128, 0, 0, 0, 0, 0, 0, 0]]) (zs := [HV.bool true, HV.str [128, 0, 0, 0, 0, 0, 0, 0]]) rfl rfl rfl ty63 rfl rfl rfl rfl rfl ?_)
  refine b_fin hK (s' := ⟨[(2, HV.ptr 34002 v1 0)], [(34002, v1, .arr 2 63 [HV.bool true, HV.str [128, 0, 0, 0, 0, 0, 0, 0]])]⟩) (le_q rfl rfl) ?_
  clear hK K
  refine AW.ret ?_
  have h := Option.some.inj h
  subst h
  exact ret_pure (hs := [HV.agg [HV.bool true, HV.str [128, 0, 0, 0, 0, 0, 0, 0]]]) (q := HV.agg [HV.bool true, HV.str [128, 0, 0, 0, 0, 0, 0, 0]]) (.inr rfl) (resP ty63 rfl rfl (l_litA rfl (Nat.le_of_ble_eq_true rfl) rfl) rfl) rfl ⟨trivial, trivial, trivial⟩
 have hc := of_decide_eq_false hc
 have h := ifF hc h
 refine AW.skip ?_
 refine AW.rgs rfl fun K hK => ?_
 refine mv rfl rfl ?_
 refine bv rfl (v_neg rfl) ?_
 obtain ⟨x4, h5, h⟩ := bS h
 refine b_op rfl (o_call rfl rfl rfl rfl (ACallD.pure0 (w_ref01_mag h5)) ?_)
 refine b_op rfl (o_build (cs := [HV.bool true, HV.str x4]) rfl (bl_of ty63 rfl rfl rfl rfl) ?_)
 refine b_op rfl (o_store (cs := [HV.bool true, HV.str x4]) (zs := [HV.bool true, HV.str x4]) rfl rfl rfl ty63 rfl rfl rfl rfl rfl ?_)
 refine b_fin hK (s' := ⟨[(2, HV.ptr 34002 v1 0)], [(34002, v1, .arr 2 63 [HV.bool true, HV.str x4])]⟩) (le_q rfl rfl) ?_
 clear hK K
 refine AW.ret ?_
 have h := Option.some.inj h
 subst h
 exact ret_pure (hs := [HV.agg [HV.bool true, HV.str x4]]) (q := HV.agg [HV.bool true, HV.str x4]) (.inr rfl) (resP ty63 rfl rfl (l_litA rfl (Nat.le_of_ble_eq_true rfl) rfl) rfl) rfl ⟨trivial, trivial, trivial⟩

set_option maxHeartbeats 1600000 in
set_option maxRecDepth 100000 in
theorem w_law12_awakeG  {r : Bool} (h : m_law12_awakeG  = some r) : Pure Tryd.prog 10 [] (· = HV.bool r) := by
 unfold m_law12_awakeG at h
 refine Pure.of_body Tryd.func10 rfl rfl (Nat.le_of_ble_eq_true rfl) fun hf => ?_
 unfold Tryd.f10
 dsimp only [enumS, Nat.reduceAdd]
 refine AW.rgs rfl fun K hK => ?_
 refine mv rfl rfl ?_
 refine b_fin hK (s' := ⟨[], []⟩) (le_q rfl rfl) ?_
 clear hK K
 refine AW.rgs rfl fun K hK => ?_
 obtain ⟨x1, h2, h⟩ := bS h
 refine b_op rfl (o_call rfl rfl rfl rfl (ACallD.pure0 (w_law12_even h2)) ?_)
 obtain ⟨x3, h4, h⟩ := bS h
 refine b_op rfl (o_call rfl rfl rfl rfl (ACallD.pure0 (w_subset_Build h4)) ?_)
 refine mv rfl rfl ?_
 refine bv rfl (v_extract rfl rfl) ?_
 refine bv rfl (v_extract rfl rfl) ?_
 refine bv rfl (v_extract rfl rfl) ?_
 refine b_op rfl (o_alloc (fid := 10) (zs := [HV.int .i64 0, HV.int .i64 0, HV.v (.slice none 0 0)]) 10001 rfl rfl ty24 rfl (fun v5 => ?_))
 refine b_op rfl (o_store (cs := [HV.int .i64 x3.1.1, HV.int .i64 x3.1.2.1, slE eFromLabelTo x3.1.2.2]) (zs := [HV.int .i64 x3.1.1, HV.int .i64 x3.1.2.1, slE eFromLabelTo x3.1.2.2]) rfl rfl rfl ty24 rfl rfl rfl rfl rfl ?_)
 refine mv rfl rfl ?_
 refine mv rfl rfl ?_
 refine b_fin hK (s' := ⟨[(1, HV.ptr 10001 v5 0), (2, slE (eSl eInt) x3.2.1), (3, HV.int .i64 x3.2.2)], [(10001, v5, .arr 3 24 [HV.int .i64 x3.1.1, HV.int .i64 x3.1.2.1, slE eFromLabelTo x3.1.2.2])]⟩) (le_q rfl rfl) ?_
 clear hK K
 refine AW.rgs rfl fun K hK => ?_
 obtain ⟨x6, h7, h⟩ := bS h
 refine b_op rfl (o_call rfl rfl rfl rfl (ACallD.pure0 (w_law12_even h7)) ?_)
 obtain ⟨x8, h9, h⟩ := bS h
 refine b_op rfl (o_call rfl rfl rfl rfl (ACallD.pure0 (w_subset_Focus h9)) ?_)
 refine mv rfl rfl ?_
 refine bv rfl (v_extract rfl rfl) ?_
 refine bv rfl (v_extract rfl rfl) ?_
 refine bv rfl (v_extract rfl rfl) ?_
 refine bv rfl (v_extract rfl rfl) ?_
 refine mv rfl rfl ?_
 refine mv rfl rfl ?_
 refine mv rfl rfl ?_
 refine mv rfl rfl ?_
 refine b_fin hK (s' := ⟨[(1, HV.ptr 10001 v5 0), (2, slE (eSl eInt) x3.2.1), (3, HV.int .i64 x3.2.2), (4, slE eInt x8.1), (5, HV.int .i64 x8.2.1), (6, HV.bool x8.2.2.1), (7, HV.int .i64 x8.2.2.2)], [(10001, v5, .arr 3 24 [HV.int .i64 x3.1.1, HV.int .i64 x3.1.2.1, slE eFromLabelTo x3.1.2.2])]⟩) (le_q rfl rfl) ?_
 clear hK K
 refine AW.rgs rfl fun K hK => ?_
 obtain ⟨x10, h11, h⟩ := bS h
 refine b_op rfl (o_call rfl rfl rfl rfl (ACallD.pure0 (w_law12_even h11)) ?_)
 obtain ⟨x12, h13, h⟩ := bS h
 refine b_op rfl (o_call rfl rfl rfl rfl (ACallD.pure0 (w_subset_Count h13)) ?_)
 refine mv rfl rfl ?_
 refine bv rfl (v_extract rfl rfl) ?_
 refine bv rfl (v_extract rfl rfl) ?_
 refine b_op rfl (o_alloc (fid := 10) (zs := [HV.bool false, HV.str ([] : List UInt8)]) 10008 rfl rfl ty63 rfl (fun v14 => ?_))
 refine b_op rfl (o_store (cs := [HV.bool x12.1.1, HV.str x12.1.2]) (zs := [HV.bool x12.1.1, HV.str x12.1.2]) rfl rfl rfl ty63 rfl rfl rfl rfl rfl ?_)
 refine mv rfl rfl ?_
 refine b_fin hK (s' := ⟨[(1, HV.ptr 10001 v5 0), (2, slE (eSl eInt) x3.2.1), (3, HV.int .i64 x3.2.2), (4, slE eInt x8.1), (5, HV.int .i64 x8.2.1), (6, HV.bool x8.2.2.1), (7, HV.int .i64 x8.2.2.2), (8, HV.ptr 10008 v14 0), (9, HV.int .i64 x12.2)], [(10001, v5, .arr 3 24 [HV.int .i64 x3.1.1, HV.int .i64 x3.1.2.1, slE eFromLabelTo x3.1.2.2]), (10008, v14, .arr 2 63 [HV.bool x12.1.1, HV.str x12.1.2])]⟩) (le_q rfl rfl) ?_
 clear hK K
 refine AW.seqJ h (S := Bool) (V := Unit) (fun a v => ⟨[(1, HV.ptr 10001 v5 0), (2, slE (eSl eInt) x3.2.1), (10, HV.bool a)], [(10001, v5, .arr 3 24 [HV.int .i64 x3.1.1, HV.int .i64 x3.1.2.1, slE eFromLabelTo x3.1.2.2])]⟩) (fun a15 w16 h => ?_) (fun k17 h => ?_)
 ·refine AW.seqJ h (S := Bool) (V := Unit) (fun a v => ⟨[(0, HV.bool a)], []⟩) (fun a18 w19 h => ?_) (fun k20 h => ?_)
  ·refine AW.ret ?_
   have h := Option.some.inj h
   subst h
   exact ret_pure (hs := [HV.bool a18]) (q := HV.bool a18) (.inr rfl) (resT rfl rfl) rfl trivial
  refine AW.rg rfl fun K hK => ?_
  refine mv rfl rfl ?_
  refine mv rfl rfl ?_
  by_cases hg25 : a15 = true
  ·have h := ifT hg25 h
   refine b_T rfl rfl rfl rfl hg25 (o_val rfl (v_fieldAddrP fo24_1 rfl rfl) ?_)
   refine b_T rfl rfl rfl rfl rfl (o_val rfl (v_loadP ty3 rfl rfl (l_lit rfl rfl)) ?_)
   refine b_T rfl rfl rfl rfl rfl (o_val rfl (v_bin rfl rfl b_eql) ?_)
   refine bv rfl (v_pickT rfl rfl rfl) ?_
   refine mv rfl rfl ?_
   by_cases hg24 : x3.1.2.1 = 3
   ·have h := ifT hg24 h
    refine b_T rfl rfl rfl rfl (decide_eq_true hg24) (o_val rfl (v_fieldAddrP fo24_2 rfl rfl) ?_)
    refine b_T rfl rfl rfl rfl rfl (o_val rfl (v_loadP ty22 rfl rfl (l_lit rfl rfl)) ?_)
    refine b_T rfl rfl rfl rfl rfl (o_val rfl (v_lenF rfl rfl ty22 rfl) ?_)
    refine b_T rfl rfl rfl rfl rfl (o_val rfl (v_bin rfl rfl b_eql) ?_)
    refine bv rfl (v_pickT rfl rfl rfl) ?_
    refine mv rfl rfl ?_
    by_cases hg23 : ((x3.1.2.2).length : Int) = 5
    ·have h := ifT hg23 h
     refine b_T rfl rfl rfl rfl (decide_eq_true hg23) (o_val rfl (mv_val rfl rfl).2 ?_)
     refine b_T rfl rfl rfl rfl rfl (o_bsl rfl rfl (as_of (cs := [HV.int .i64 0, HV.int .i64 1]) ty30 ty3 rfl rfl rfl rfl rfl) ?_)
     refine b_T rfl rfl rfl rfl rfl (o_bsl rfl rfl (as_of (cs := [HV.int .i64 0]) ty30 ty3 rfl rfl rfl rfl rfl) ?_)
     refine b_T rfl rfl rfl rfl rfl (o_bsl rfl rfl (as_of (cs := [HV.int .i64 1]) ty30 ty3 rfl rfl rfl rfl rfl) ?_)
     refine b_T rfl rfl rfl rfl rfl (o_bsl rfl rfl (as_of (cs := [slE eInt [0, 1], slE eInt [0], slE eInt [1]]) ty39 ty30 rfl rfl rfl rfl rfl) ?_)
     obtain ⟨x21, h22, h⟩ := bS h
     refine b_T rfl rfl rfl rfl rfl (o_call rfl rfl rfl rfl (ACallD.pure0 (w_ref12_SameSets h22)) ?_)
     refine bv rfl (v_pickT rfl rfl rfl) ?_
     refine mv rfl rfl ?_
     refine b_nil (hK _ ?_)
     clear hK K
     exact to_le (s' := ⟨[(0, HV.bool x21)], []⟩) (AS.le_of ⟨rfl, trivial⟩ trivial) ⟨x21, (), h, rfl⟩
    have h := ifF hg23 h
    refine b_F rfl rfl rfl rfl rfl (decide_eq_false hg23) ?_
    refine b_F rfl rfl rfl rfl rfl rfl ?_
    refine b_F rfl rfl rfl rfl rfl rfl ?_
    refine b_F rfl rfl rfl rfl rfl rfl ?_
    refine b_F rfl rfl rfl rfl rfl rfl ?_
    refine b_F rfl rfl rfl rfl rfl rfl ?_
    refine bv rfl (v_pickF rfl rfl rfl) ?_
    refine mv rfl rfl ?_
    refine b_nil (hK _ ?_)
    clear hK K
    exact to_le (s' := ⟨[(0, HV.bool false)], []⟩) (AS.le_of ⟨rfl, trivial⟩ trivial) ⟨false, (), h, rfl⟩
   have h := ifF hg24 h
   refine b_F rfl rfl rfl rfl rfl (decide_eq_false hg24) ?_
   refine b_F rfl rfl rfl rfl rfl rfl ?_
   refine b_F rfl rfl rfl rfl rfl rfl ?_
   refine b_F rfl rfl rfl rfl rfl rfl ?_
   refine bv rfl (v_pickF rfl rfl rfl) ?_
   refine mv rfl rfl ?_
   refine b_F rfl rfl rfl rfl rfl rfl ?_
   refine b_F rfl rfl rfl rfl rfl rfl ?_
   refine b_F rfl rfl rfl rfl rfl rfl ?_
   refine b_F rfl rfl rfl rfl rfl rfl ?_
   refine b_F rfl rfl rfl rfl rfl rfl ?_
   refine b_F rfl rfl rfl rfl rfl rfl ?_
   refine bv rfl (v_pickF rfl rfl rfl) ?_
   refine mv rfl rfl ?_
   refine b_nil (hK _ ?_)
   clear hK K
   exact to_le (s' := ⟨[(0, HV.bool false)], []⟩) (AS.le_of ⟨rfl, trivial⟩ trivial) ⟨false, (), h, rfl⟩
  have h := ifF hg25 h
  refine b_F rfl rfl rfl rfl rfl (bF hg25) ?_
  refine b_F rfl rfl rfl rfl rfl rfl ?_
  refine b_F rfl rfl rfl rfl rfl rfl ?_
  refine bv rfl (v_pickF rfl rfl rfl) ?_
  refine mv rfl rfl ?_
  refine b_F rfl rfl rfl rfl rfl rfl ?_
  refine b_F rfl rfl rfl rfl rfl rfl ?_
  refine b_F rfl rfl rfl rfl rfl rfl ?_
  refine b_F rfl rfl rfl rfl rfl rfl ?_
  refine bv rfl (v_pickF rfl rfl rfl) ?_
  refine mv rfl rfl ?_
  refine b_F rfl rfl rfl rfl rfl rfl ?_
  refine b_F rfl rfl rfl rfl rfl rfl ?_
  refine b_F rfl rfl rfl rfl rfl rfl ?_
  refine b_F rfl rfl rfl rfl rfl rfl ?_
  refine b_F rfl rfl rfl rfl rfl rfl ?_
  refine b_F rfl rfl rfl rfl rfl rfl ?_
  refine bv rfl (v_pickF rfl rfl rfl) ?_
  refine mv rfl rfl ?_
  refine b_nil (hK _ ?_)
  clear hK K
  exact to_le (s' := ⟨[(0, HV.bool false)], []⟩) (AS.le_of ⟨rfl, trivial⟩ trivial) ⟨false, (), h, rfl⟩
 refine AW.dg 23 follows rfl rfl fun K hK => ?_
 refine sm rfl rfl ?_
 refine sm rfl rfl ?_
 refine sm rfl rfl ?_
 refine sv rfl (v_max3 rfl rfl rfl rfl) ?_
 refine sv rfl (v_bin rfl rfl b_eql) ?_
 refine sm rfl rfl ?_
 by_cases hg33 : (max (max x3.2.2 x8.2.2.2) x12.2) = 0
 ·have h := ifT hg33 h
  refine s_T rfl rfl rfl rfl rfl (decide_eq_true hg33) (ops_val rfl (mv_val rfl rfl).2 ?_)
  refine sv rfl (v_pickT rfl rfl rfl) ?_
  refine sm rfl rfl ?_
  by_cases hg32 : x8.2.2.1 = true
  ·have h := ifT hg32 h
   refine s_T rfl rfl rfl rfl rfl hg32 (ops_val rfl (mv_val rfl rfl).2 ?_)
   refine s_T rfl rfl rfl rfl rfl rfl (ops_val rfl (v_bin rfl rfl b_eql) ?_)
   refine sv rfl (v_pickT rfl rfl rfl) ?_
   refine sm rfl rfl ?_
   by_cases hg31 : x8.2.1 = 0
   ·have h := ifT hg31 h
    refine s_T rfl rfl rfl rfl rfl (decide_eq_true hg31) (ops_val rfl (mv_val rfl rfl).2 ?_)
    refine s_T rfl rfl rfl rfl rfl rfl (ops_bsl rfl rfl (as_of (cs := [HV.int .i64 1]) ty30 ty3 rfl rfl rfl rfl rfl) ?_)
    obtain ⟨x26, h27, h⟩ := bS h
    refine s_T rfl rfl rfl rfl rfl rfl (ops_call rfl rfl rfl rfl (ACallD.pure0 (w_ref12_Same h27)) ?_)
    refine sv rfl (v_pickT rfl rfl rfl) ?_
    refine sm rfl rfl ?_
    by_cases hg30 : x26 = true
    ·have h := ifT hg30 h
     refine s_T rfl rfl rfl rfl rfl hg30 (ops_val rfl (v_loadP ty63 rfl rfl (l_litA rfl (Nat.le_of_ble_eq_true rfl) rfl)) ?_)
     obtain ⟨x28, h29, h⟩ := bS h
     refine s_T rfl rfl rfl rfl rfl rfl (ops_call rfl rfl rfl rfl (ACallD.pure0 (w_ref01_Of h29)) ?_)
     refine s_T rfl rfl rfl rfl rfl rfl (ops_val rfl (v_bin rfl rfl (b_aeql (hk63 _ _) (hk63 _ _) hc63 (hq63 x12.1 x28))) ?_)
     refine sv rfl (v_pickT rfl rfl rfl) ?_
     refine sm rfl rfl ?_
     refine s_nil ?_
     refine b_nil (hK _ ?_)
     clear hK K
     exact to_le (s' := ⟨[(1, HV.ptr 10001 v5 0), (2, slE (eSl eInt) x3.2.1), (10, HV.bool (decide (x12.1 = x28)))], [(10001, v5, .arr 3 24 [HV.int .i64 x3.1.1, HV.int .i64 x3.1.2.1, slE eFromLabelTo x3.1.2.2])]⟩) (AS.le_of ⟨rfl, rfl, rfl, trivial⟩ ⟨rfl, trivial⟩) ⟨decide (x12.1 = x28), (), h, rfl⟩
    have h := ifF hg30 h
    refine s_F rfl rfl rfl rfl rfl (bF hg30) ?_
    refine s_F rfl rfl rfl rfl rfl rfl ?_
    refine s_F rfl rfl rfl rfl rfl rfl ?_
    refine sv rfl (v_pickF rfl rfl rfl) ?_
    refine sm rfl rfl ?_
    refine s_nil ?_
    refine b_nil (hK _ ?_)
    clear hK K
    exact to_le (s' := ⟨[(1, HV.ptr 10001 v5 0), (2, slE (eSl eInt) x3.2.1), (10, HV.bool false)], [(10001, v5, .arr 3 24 [HV.int .i64 x3.1.1, HV.int .i64 x3.1.2.1, slE eFromLabelTo x3.1.2.2])]⟩) (AS.le_of ⟨rfl, rfl, rfl, trivial⟩ ⟨rfl, trivial⟩) ⟨false, (), h, rfl⟩
   have h := ifF hg31 h
   refine s_F rfl rfl rfl rfl rfl (decide_eq_false hg31) ?_
   refine s_F rfl rfl rfl rfl rfl rfl ?_
   refine s_F rfl rfl rfl rfl rfl rfl ?_
   refine sv rfl (v_pickF rfl rfl rfl) ?_
   refine sm rfl rfl ?_
   refine s_F rfl rfl rfl rfl rfl rfl ?_
   refine s_F rfl rfl rfl rfl rfl rfl ?_
   refine s_F rfl rfl rfl rfl rfl rfl ?_
   refine sv rfl (v_pickF rfl rfl rfl) ?_
   refine sm rfl rfl ?_
   refine s_nil ?_
   refine b_nil (hK _ ?_)
   clear hK K
   exact to_le (s' := ⟨[(1, HV.ptr 10001 v5 0), (2, slE (eSl eInt) x3.2.1), (10, HV.bool false)], [(10001, v5, .arr 3 24 [HV.int .i64 x3.1.1, HV.int .i64 x3.1.2.1, slE eFromLabelTo x3.1.2.2])]⟩) (AS.le_of ⟨rfl, rfl, rfl, trivial⟩ ⟨rfl, trivial⟩) ⟨false, (), h, rfl⟩
  have h := ifF hg32 h
  refine s_F rfl rfl rfl rfl rfl (bF hg32) ?_
  refine s_F rfl rfl rfl rfl rfl rfl ?_
  refine sv rfl (v_pickF rfl rfl rfl) ?_
  refine sm rfl rfl ?_
  refine s_F rfl rfl rfl rfl rfl rfl ?_
  refine s_F rfl rfl rfl rfl rfl rfl ?_
  refine s_F rfl rfl rfl rfl rfl rfl ?_
  refine sv rfl (v_pickF rfl rfl rfl) ?_
  refine sm rfl rfl ?_
  refine s_F rfl rfl rfl rfl rfl rfl ?_
  refine s_F rfl rfl rfl rfl rfl rfl ?_
  refine s_F rfl rfl rfl rfl rfl rfl ?_
  refine sv rfl (v_pickF rfl rfl rfl) ?_
  refine sm rfl rfl ?_
  refine s_nil ?_
  refine b_nil (hK _ ?_)
  clear hK K
  exact to_le (s' := ⟨[(1, HV.ptr 10001 v5 0), (2, slE (eSl eInt) x3.2.1), (10, HV.bool false)], [(10001, v5, .arr 3 24 [HV.int .i64 x3.1.1, HV.int .i64 x3.1.2.1, slE eFromLabelTo x3.1.2.2])]⟩) (AS.le_of ⟨rfl, rfl, rfl, trivial⟩ ⟨rfl, trivial⟩) ⟨false, (), h, rfl⟩
 have h := ifF hg33 h
 refine s_F rfl rfl rfl rfl rfl (decide_eq_false hg33) ?_
 refine sv rfl (v_pickF rfl rfl rfl) ?_
 refine sm rfl rfl ?_
 refine s_F rfl rfl rfl rfl rfl rfl ?_
 refine s_F rfl rfl rfl rfl rfl rfl ?_
 refine sv rfl (v_pickF rfl rfl rfl) ?_
 refine sm rfl rfl ?_
 refine s_F rfl rfl rfl rfl rfl rfl ?_
 refine s_F rfl rfl rfl rfl rfl rfl ?_
 refine s_F rfl rfl rfl rfl rfl rfl ?_
 refine sv rfl (v_pickF rfl rfl rfl) ?_
 refine sm rfl rfl ?_
 refine s_F rfl rfl rfl rfl rfl rfl ?_
 refine s_F rfl rfl rfl rfl rfl rfl ?_
 refine s_F rfl rfl rfl rfl rfl rfl ?_
 refine sv rfl (v_pickF rfl rfl rfl) ?_
 refine sm rfl rfl ?_
 refine s_nil ?_
 refine b_nil (hK _ ?_)
 clear hK K
 exact to_le (s' := ⟨[(1, HV.ptr 10001 v5 0), (2, slE (eSl eInt) x3.2.1), (10, HV.bool false)], [(10001, v5, .arr 3 24 [HV.int .i64 x3.1.1, HV.int .i64 x3.1.2.1, slE eFromLabelTo x3.1.2.2])]⟩) (AS.le_of ⟨rfl, rfl, rfl, trivial⟩ ⟨rfl, trivial⟩) ⟨false, (), h, rfl⟩

end Go.AW



/- What the functions of graphs compute: checks, steps, sets of states. -/
namespace Go.AW
open Go
set_option linter.unusedSimpArgs false
set_option linter.unusedVariables false

theorem loopW_eq {S X : Type} (body : S → Option (Stp S X)) (s : S) : loopW body s = match body s with
    | none => none
    | some (.exit x) => some x
    | some (.next s') => loopW body s' := by
  cases h : body s with
  | none => exact loopW_stuck h
  | some r => cases r with
    | exit x => exact loopW_exit h
    | next s' => exact loopW_next h

abbrev Gr := TLabelsStatesEdges
abbrev Ed := TFromLabelTo

def cmp3 (x y : Ed) : Int := if x.1 < y.1 then -1 else if y.1 < x.1 then 1 else if x.2.1 < y.2.1 then -1 else if y.2.1 < x.2.1 then 1 else if x.2.2 < y.2.2 then -1 else if y.2.2 < x.2.2 then 1 else 0

theorem cmpC (a b : Int) : m_cmp_Compare_int a b = some (if a < b then -1 else if b < a then 1 else 0) := by
  unfold m_cmp_Compare_int m_cmp_isNaN_int
  simp only [ne_eq, not_true_eq_false, decide_false, Option.bind_some, Bool.false_eq_true, if_false]
  split <;> (try rfl)
  split <;> rfl

theorem wr0 : IntKind.wrap .i64 (0 + 1) = 1 := by decide
theorem wr1 : IntKind.wrap .i64 (1 + 1) = 2 := by decide
theorem wr2 : IntKind.wrap .i64 (2 + 1) = 3 := by decide

theorem ix3_0 (a b c : Int) : idx [a, b, c] 0 = some a := rfl
theorem ix3_1 (a b c : Int) : idx [a, b, c] 1 = some b := rfl
theorem ix3_2 (a b c : Int) : idx [a, b, c] 2 = some c := rfl
theorem len3 (a b c : Int) : (([a, b, c] : List Int).length : Int) = 3 := rfl

theorem by1_eq (x y : Ed) : m_graph_by_api_Edge_1 x y = some (cmp3 x y) := by
  unfold m_graph_by_api_Edge_1 m_graph_list m_slices_Compare_Lint_int cmp3
  simp only [Option.bind_some, len3]
  rw [loopW_eq]
  simp only [ix3_0, cmpC, Option.bind_some, wr0]
  by_cases a1 : x.1 < y.1
  · simp [a1, lpO]
  by_cases a2 : y.1 < x.1
  · simp [a1, a2, lpO]
  simp only [a1, a2, if_false, ne_eq, not_true_eq_false, if_true, Int.reduceLT, Int.reduceLE]
  rw [loopW_eq]
  simp only [ix3_1, cmpC, Option.bind_some, wr1]
  by_cases b1 : x.2.1 < y.2.1
  · simp [b1, lpO]
  by_cases b2 : y.2.1 < x.2.1
  · simp [b1, b2, lpO]
  simp only [b1, b2, if_false, ne_eq, not_true_eq_false, if_true, Int.reduceLT, Int.reduceLE]
  rw [loopW_eq]
  simp only [ix3_2, cmpC, Option.bind_some, wr2]
  by_cases c1 : x.2.2 < y.2.2
  · simp [c1, lpO]
  by_cases c2 : y.2.2 < x.2.2
  · simp [c1, c2, lpO]
  simp only [c1, c2, if_false, ne_eq, not_true_eq_false, if_true, Int.reduceLT, Int.reduceLE]
  rw [loopW_eq]
  simp [lpO]

theorem cmp_eq (x y : Ed) : m_ref09_Compare x y = some (cmp3 x y) := by
  unfold m_ref09_Compare cmp3
  rw [loopW_eq]
  simp only [ix3_0, Option.bind_some, wr0]
  by_cases a1 : x.1 < y.1
  · simp [a1, lpO]
  by_cases a2 : y.1 < x.1
  · simp [a1, a2, lpO]
  simp only [a1, a2, if_false, if_true, Int.reduceLT]
  rw [loopW_eq]
  simp only [ix3_1, Option.bind_some, wr1]
  by_cases b1 : x.2.1 < y.2.1
  · simp [b1, lpO]
  by_cases b2 : y.2.1 < x.2.1
  · simp [b1, b2, lpO]
  simp only [b1, b2, if_false, if_true, Int.reduceLT]
  rw [loopW_eq]
  simp only [ix3_2, Option.bind_some, wr2]
  by_cases c1 : x.2.2 < y.2.2
  · simp [c1, lpO]
  by_cases c2 : y.2.2 < x.2.2
  · simp [c1, c2, lpO]
  simp only [c1, c2, if_false, if_true, Int.reduceLT]
  rw [loopW_eq]
  simp [lpO]

theorem Check_ref (g : Gr) : m_graph_Check g = m_ref09_Check g := by
  unfold m_graph_Check m_ref09_Check
  have key : ∀ (x : Ed) (k : Bool → Option (Stp Int (Ou Unit Int))), (if (min (min x.1 x.2.1) x.2.2) < 0 then k true else if g.2.1 ≤ (max x.1 x.2.2) then k true else k (decide (g.1 ≤ x.2.1))) =
      (if x.1 < 0 then k true else if g.2.1 ≤ x.1 then k true else if x.2.2 < 0 then k true else if g.2.1 ≤ x.2.2 then k true else if x.2.1 < 0 then k true else k (decide (g.1 ≤ x.2.1))) := by
    intro x k
    by_cases h1 : x.1 < 0
    · rw [if_pos (by omega), if_pos h1]
    by_cases h2 : g.2.1 ≤ x.1
    · rw [if_neg h1, if_pos h2]
      split
      · rfl
      · rw [if_pos (by omega)]
    by_cases h3 : x.2.2 < 0
    · rw [if_neg h1, if_neg h2, if_pos h3, if_pos (by omega)]
    by_cases h4 : g.2.1 ≤ x.2.2
    · rw [if_neg h1, if_neg h2, if_neg h3, if_pos h4]
      split
      · rfl
      · rw [if_pos (by omega)]
    by_cases h5 : x.2.1 < 0
    · rw [if_neg h1, if_neg h2, if_neg h3, if_neg h4, if_pos h5, if_pos (by omega)]
    · rw [if_neg h1, if_neg h2, if_neg h3, if_neg h4, if_neg h5, if_neg (by omega), if_neg (by omega)]
  simp only [by1_eq, cmp_eq, key]

structure VG (g : Gr) : Prop where
  l1 : 1 ≤ g.1
  l2 : g.1 ≤ 256
  s0 : 0 ≤ g.2.1
  s1 : g.2.1 ≤ 64
  el : g.2.2.length ≤ 1024
  ed : ∀ x ∈ g.2.2, 0 ≤ x.1 ∧ x.1 < g.2.1 ∧ 0 ≤ x.2.2 ∧ x.2.2 < g.2.1 ∧ 0 ≤ x.2.1 ∧ x.2.1 < g.1
  ord : ∀ (i : Nat) (h : i + 1 < g.2.2.length), cmp3 (g.2.2[i]'(by omega)) g.2.2[i + 1] < 0

theorem ix_pred {α : Type} {l : List α} {i : Nat} (h : i < l.length) (hm : l.length ≤ 9223372036854775807) (h0 : 0 < i) : idx l (IntKind.wrap .i64 ((i : Int) - 1)) = some (l[i - 1]'(by omega)) := by
  rw [w64 (by omega) (by omega), show ((i : Int) - 1) = ((i - 1 : Nat) : Int) by omega]
  exact ix (by omega)

theorem lpO_ex {V R Y : Type} {o : Option (Ou V R)} {M : V → Option Y} {Rt : R → Option Y} {C : Y → Prop} (Q : Ou V R → Prop) (h : ∃ x, o = some x ∧ Q x) (k : ∀ x, Q x → ∃ e, lpO (some x) M Rt = some e ∧ C e) : ∃ e, lpO o M Rt = some e ∧ C e := by
  obtain ⟨x, rfl, hq⟩ := h
  exact k x hq

theorem Check_tot (g : Gr) : ∃ e, m_ref09_Check g = some e ∧ (e = 0 ↔ VG g) := by
  unfold m_ref09_Check
  simp only [jp]
  by_cases h1 : g.1 < 1
  · exact ⟨12, by simp [h1], by simp; intro v; have := v.l1; omega⟩
  by_cases h2 : 256 < g.1
  · exact ⟨12, by simp [h1, h2], by simp; intro v; have := v.l2; omega⟩
  by_cases h3 : g.2.1 < 0
  · exact ⟨2, by simp [h1, h2, h3], by simp; intro v; have := v.s0; omega⟩
  by_cases h4 : 64 < g.2.1
  · exact ⟨4, by simp [h1, h2, h3, h4], by simp; intro v; have := v.s1; omega⟩
  by_cases h5 : 1024 < (g.2.2.length : Int)
  · exact ⟨4, by simp [h1, h2, h3, h4, h5], by simp; intro v; have := v.el; omega⟩
  simp only [h1, h2, h3, h4, h5, if_false, decide_false, Bool.false_eq_true, cmp_eq, Option.bind_some, if_true]
  refine lpO_ex (fun x => (x = .ret 2 ∧ ¬ VG g) ∨ (x = .ret 10 ∧ ¬ VG g) ∨ (x = .go () ∧ VG g)) ?_ ?_
  · refine loopN g.2.2.length (fun i s => s = (i : Int) ∧ (∀ (j : Nat) (h : j < i) (hj : j < g.2.2.length), 0 ≤ g.2.2[j].1 ∧ g.2.2[j].1 < g.2.1 ∧ 0 ≤ g.2.2[j].2.2 ∧ g.2.2[j].2.2 < g.2.1 ∧ 0 ≤ g.2.2[j].2.1 ∧ g.2.2[j].2.1 < g.1) ∧
        ∀ (j : Nat) (h : j + 1 < i) (hj : j + 1 < g.2.2.length), cmp3 (g.2.2[j]'(by omega)) g.2.2[j + 1] < 0) ?_ ?_ 0 _ (Nat.zero_le _) ⟨rfl, fun _ h => by omega, fun _ h => by omega⟩
    · rintro i s hi ⟨rfl, he, ho⟩
      rw [if_pos (lt_int hi), ix hi]
      simp only [Option.bind_some]
      by_cases hg : 0 ≤ g.2.2[i].1 ∧ g.2.2[i].1 < g.2.1 ∧ 0 ≤ g.2.2[i].2.2 ∧ g.2.2[i].2.2 < g.2.1 ∧ 0 ≤ g.2.2[i].2.1 ∧ g.2.2[i].2.1 < g.1
      · obtain ⟨e1, e2, e3, e4, e5, e6⟩ := hg
        rw [if_neg (by omega), if_neg (by omega), if_neg (by omega), if_neg (by omega), if_neg (by omega)]
        have hd : decide (g.1 ≤ g.2.2[i].2.1) = false := decide_eq_false (by omega)
        rw [hd]
        simp only [Bool.false_eq_true, if_false]
        have he' : ∀ (j : Nat) (h : j < i + 1) (hj : j < g.2.2.length), 0 ≤ g.2.2[j].1 ∧ g.2.2[j].1 < g.2.1 ∧ 0 ≤ g.2.2[j].2.2 ∧ g.2.2[j].2.2 < g.2.1 ∧ 0 ≤ g.2.2[j].2.1 ∧ g.2.2[j].2.1 < g.1 := by
          intro j hj hjl
          by_cases hji : j = i
          · subst hji; exact ⟨e1, e2, e3, e4, e5, e6⟩
          · exact he j (by omega) hjl
        by_cases h0 : 0 < i
        · rw [if_pos (by omega), ix_pred hi (by omega) h0]
          simp only [Option.bind_some]
          by_cases hc : 0 ≤ cmp3 (g.2.2[i - 1]'(by omega)) g.2.2[i]
          · refine .inr ⟨.ret 10, by rw [if_pos (decide_eq_true hc)], .inr (.inl ⟨rfl, fun v => ?_⟩)⟩
            have := v.ord (i - 1) (by omega)
            simp only [show i - 1 + 1 = i by omega] at this
            omega
          · refine .inl ⟨_, by rw [if_neg (by simpa using hc)], by rw [nx (by omega : g.2.2.length ≤ _) hi], he', fun j hj hjl => ?_⟩
            by_cases hji : j + 1 = i
            · have hj' : j = i - 1 := by omega
              subst hj'
              simp only [show i - 1 + 1 = i by omega]
              omega
            · exact ho j (by omega) hjl
        · refine .inl ⟨_, by rw [if_neg (by omega)], by rw [nx (by omega : g.2.2.length ≤ _) hi], he', fun j hj hjl => by omega⟩
      · have hv : ¬ VG g := fun v => hg (v.ed _ (List.getElem_mem hi))
        refine .inr ⟨.ret 2, ?_, .inl ⟨rfl, hv⟩⟩
        by_cases e1 : g.2.2[i].1 < 0
        · rw [if_pos e1]
        rw [if_neg e1]
        by_cases e2 : g.2.1 ≤ g.2.2[i].1
        · rw [if_pos e2]
        rw [if_neg e2]
        by_cases e3 : g.2.2[i].2.2 < 0
        · rw [if_pos e3]
        rw [if_neg e3]
        by_cases e4 : g.2.1 ≤ g.2.2[i].2.2
        · rw [if_pos e4]
        rw [if_neg e4]
        by_cases e5 : g.2.2[i].2.1 < 0
        · rw [if_pos e5]
        rw [if_neg e5, if_pos (decide_eq_true (by omega))]
    · rintro s ⟨rfl, he, ho⟩
      rw [if_neg (not_lt_int _)]
      refine ⟨_, rfl, .inr (.inr ⟨rfl, ⟨by omega, by omega, by omega, by omega, by omega, fun x hx => ?_, fun i h => ho i h h⟩⟩)⟩
      obtain ⟨j, hj, rfl⟩ := List.getElem_of_mem hx
      exact he j hj hj
  · rintro x (⟨rfl, hv⟩ | ⟨rfl, hv⟩ | ⟨rfl, hv⟩)
    · exact ⟨2, rfl, by simp [hv]⟩
    · exact ⟨10, rfl, by simp [hv]⟩
    · exact ⟨0, rfl, by simp [hv]⟩
end Go.AW

/- A step of a set of states, in the program and in the reference. -/
namespace Go.AW
open Go
set_option linter.unusedSimpArgs false
set_option linter.unusedVariables false

theorem asc_uniq {l m : List Int} (hl : l.Pairwise (· < ·)) (hm : m.Pairwise (· < ·)) (h : ∀ x, x ∈ l ↔ x ∈ m) : l = m := by
  have nl : l.Nodup := hl.imp fun h => Int.ne_of_lt h
  have nm : m.Nodup := hm.imp fun h => Int.ne_of_lt h
  have hp : l.Perm m := (List.perm_ext_iff_of_nodup nl nm).2 h
  exact hp.eq_of_pairwise (fun a b _ _ h1 h2 => by omega) hl hm

theorem sortI_mem {l : List Int} {x : Int} : x ∈ sortI l ↔ x ∈ l := (List.mergeSort_perm l _).mem_iff
theorem sortI_asc (l : List Int) : (sortI l).Pairwise (· ≤ ·) := by
  have := List.pairwise_mergeSort (le := fun x y : Int => decide (x ≤ y)) (fun a b c h1 h2 => by simp at *; omega) (fun a b => by simp; omega) l
  exact this.imp fun h => by simpa using h

theorem keeps_iff (d : Array Int) (j : Nat) : Lib.keeps d j = true ↔ j = 0 ∨ d[j]! ≠ d[j - 1]! := by
  simp [Lib.keeps]

theorem compact_asc {l : List Int} (h : l.Pairwise (· ≤ ·)) : (compact_ l).Pairwise (· < ·) := by
  show (Lib.compactUpTo l.toArray l.length).Pairwise (· < ·)
  unfold Lib.compactUpTo
  rw [List.pairwise_map]
  refine List.Pairwise.imp_of_mem ?_ ((List.pairwise_lt_range (n := l.length)).filter _)
  intro i j hi hj hij
  have hi' := List.mem_range.1 (List.mem_filter.1 hi).1
  have hj' := List.mem_range.1 (List.mem_filter.1 hj).1
  have hk := (keeps_iff _ _).1 (List.mem_filter.1 hj).2
  have e1 : l.toArray[i]! = l[i] := by simp [hi']
  have e2 : l.toArray[j]! = l[j] := by simp [hj']
  have e3 : l.toArray[j - 1]! = l[j - 1]'(by omega) := by simp [show j - 1 < l.length by omega]
  rw [e2, e3] at hk
  rw [e1, e2]
  have hp := List.pairwise_iff_getElem.1 h
  have h1 : l[i] ≤ l[j - 1]'(by omega) := by
    by_cases hie : i = j - 1
    · subst hie; exact Int.le_refl _
    · exact hp i (j - 1) hi' (by omega) (by omega)
  have h2 : l[j - 1]'(by omega) ≤ l[j] := hp (j - 1) j (by omega) hj' (by omega)
  omega

theorem compact_has {l : List Int} {x : Int} (h : x ∈ l) : x ∈ compact_ l := by
  show x ∈ Lib.compactUpTo l.toArray l.length
  unfold Lib.compactUpTo
  obtain ⟨i, hi, rfl⟩ := List.getElem_of_mem h
  obtain ⟨j, ⟨hjl, hj⟩, hmin⟩ := least (fun j => ∃ h : j < l.length, l[j] = l[i]) ⟨i, hi, rfl⟩
  refine List.mem_map.2 ⟨j, List.mem_filter.2 ⟨List.mem_range.2 hjl, (keeps_iff _ _).2 ?_⟩, by simp [hjl, hj]⟩
  by_cases h0 : j = 0
  · exact .inl h0
  · right
    intro he
    have e2 : l.toArray[j]! = l[j] := by simp [hjl]
    have e3 : l.toArray[j - 1]! = l[j - 1]'(by omega) := by simp [show j - 1 < l.length by omega]
    rw [e2, e3] at he
    have := hmin (j - 1) ⟨by omega, by rw [← he, hj]⟩
    omega

theorem compact_sort_mem {l : List Int} {x : Int} : x ∈ compact_ (sortI l) ↔ x ∈ l := ⟨fun h => sortI_mem.1 (compact_mem h), fun h => compact_has (sortI_mem.2 h)⟩

def SetOk (g : Gr) (a : List Int) : Prop := a.Pairwise (· < ·) ∧ ∀ x ∈ a, 0 ≤ x ∧ x < g.2.1

def upto (n : Int) : List Int := (List.range n.toNat).map Int.ofNat
theorem mem_upto {n x : Int} : x ∈ upto n ↔ 0 ≤ x ∧ x < n := by
  simp only [upto, List.mem_map, List.mem_range]
  constructor
  · rintro ⟨i, hi, rfl⟩; simp only [Int.ofNat_eq_natCast]; omega
  · rintro ⟨h0, h1⟩; exact ⟨x.toNat, by omega, by simp only [Int.ofNat_eq_natCast]; omega⟩
theorem upto_asc (n : Int) : (upto n).Pairwise (· < ·) := by
  rw [upto, List.pairwise_map]
  exact (List.pairwise_lt_range (n := n.toNat)).imp fun h => by simp only [Int.ofNat_eq_natCast]; omega
theorem upto_len (n : Int) : (upto n).length = n.toNat := by simp [upto]

def stepL (g : Gr) (a : List Int) (c : Int) : List Int := (upto g.2.1).filter fun t => g.2.2.any fun e => decide (e.2.2 = t ∧ e.2.1 = c ∧ e.1 ∈ a)
theorem mem_stepL {g : Gr} (hv : VG g) {a : List Int} {c t : Int} : t ∈ stepL g a c ↔ ∃ e ∈ g.2.2, e.2.2 = t ∧ e.2.1 = c ∧ e.1 ∈ a := by
  simp only [stepL, List.mem_filter, List.any_eq_true, decide_eq_true_eq, mem_upto]
  constructor
  · rintro ⟨_, h⟩; exact h
  · rintro ⟨e, he, h1, h2, h3⟩
    have := hv.ed e he
    exact ⟨by omega, e, he, h1, h2, h3⟩
theorem stepL_ok (g : Gr) (a : List Int) (c : Int) : SetOk g (stepL g a c) :=
  ⟨(upto_asc _).filter _, fun x hx => mem_upto.1 (List.mem_filter.1 hx).1⟩
theorem upto_ok (g : Gr) : SetOk g (upto g.2.1) := ⟨upto_asc _, fun x hx => mem_upto.1 hx⟩

theorem setOk_len {g : Gr} {a : List Int} (hv : VG g) (h : SetOk g a) : a.length ≤ 64 := by
  have e : a = (upto g.2.1).filter fun x => decide (x ∈ a) := asc_uniq h.1 ((upto_asc _).filter _) fun x => by
    simp only [List.mem_filter, mem_upto, decide_eq_true_eq]
    exact ⟨fun hx => ⟨h.2 x hx, hx⟩, fun hx => hx.2⟩
  rw [e]
  refine Nat.le_trans (List.length_filter_le _ _) ?_
  rw [upto_len]
  have := hv.s1
  omega

theorem checkSet_ok {g : Gr} {a : List Int} (h : SetOk g a) (hm : a.length ≤ 9223372036854775807) : m_graph_checkSet g a = some 0 := by
  unfold m_graph_checkSet
  simp only [jp]
  refine lpL (loop_is (fun i => (i : Int)) a.length (Ou.go ()) (fun i hi => ?_) (by rw [if_neg (not_lt_int _)]) rfl) rfl
  obtain ⟨h0, h1⟩ := h.2 a[i] (List.getElem_mem hi)
  rw [if_pos (lt_int hi), ix hi]
  simp only [Option.bind_some]
  rw [if_neg (by omega)]
  have hd : decide (g.2.1 ≤ a[i]) = false := decide_eq_false (by omega)
  simp only [hd, Bool.false_eq_true, if_false]
  by_cases hz : 0 < i
  · have hlt := List.pairwise_iff_getElem.1 h.1 (i - 1) i (by omega) hi (by omega)
    rw [if_pos (by omega), ix_pred hi hm hz]
    simp only [Option.bind_some]
    have hd2 : decide (a[i] ≤ a[i - 1]'(by omega)) = false := decide_eq_false (by omega)
    simp only [hd2, Bool.false_eq_true, if_false, nx hm hi]
  · rw [if_neg (by omega)]
    simp only [Bool.false_eq_true, if_false, nx hm hi]

def outL (g : Gr) (s c : Int) : List Int := ((leaveL g.2.2 s).filter fun x => decide (x.2.2.1 = c)).map fun x => x.2.2.2
theorem mem_leaveL {es : List Ed} {s : Int} {x : Ed} : (∃ i, (i, x) ∈ leaveL es s) ↔ x ∈ es ∧ x.1 = s := by
  constructor
  · rintro ⟨i, h⟩
    obtain ⟨p, hp, he⟩ := List.mem_map.1 h
    obtain ⟨hp1, hp2⟩ := List.mem_filter.1 hp
    cases he
    exact ⟨List.fst_mem_of_mem_zipIdx hp1, of_decide_eq_true hp2⟩
  · rintro ⟨hm, hs⟩
    obtain ⟨k, hk, rfl⟩ := List.getElem_of_mem hm
    exact ⟨_, List.mem_map.2 ⟨(es[k], k), List.mem_filter.2 ⟨by rw [List.mem_zipIdx_iff_getElem?]; exact List.getElem?_eq_getElem hk, decide_eq_true hs⟩, rfl⟩⟩
theorem mem_outL {g : Gr} {s c t : Int} : t ∈ outL g s c ↔ ∃ e ∈ g.2.2, e.2.2 = t ∧ e.2.1 = c ∧ e.1 = s := by
  simp only [outL, List.mem_map, List.mem_filter, decide_eq_true_eq]
  constructor
  · rintro ⟨⟨i, x⟩, ⟨hm, hc⟩, rfl⟩
    obtain ⟨h1, h2⟩ := mem_leaveL.1 ⟨i, hm⟩
    exact ⟨x, h1, rfl, hc, h2⟩
  · rintro ⟨x, hx, rfl, hc, hs⟩
    obtain ⟨i, hi⟩ := mem_leaveL.2 ⟨hx, hs⟩
    exact ⟨(i, x), ⟨hi, hc⟩, rfl⟩
theorem outL_len (g : Gr) (s c : Int) : (outL g s c).length ≤ g.2.2.length := by
  simp only [outL, leaveL, List.length_map]
  refine Nat.le_trans (List.length_filter_le _ _) ?_
  rw [List.length_map]
  refine Nat.le_trans (List.length_filter_le _ _) ?_
  simp

theorem fold_out (c : Int) : ∀ (L : List (Int × Ed)) (acc : List Int), L.foldl (fun (a : List Int) (x : Int × Ed) => if x.2.2.1 = c then a ++ [x.2.2.2] else a) acc = acc ++ (L.filter fun x => decide (x.2.2.1 = c)).map fun x => x.2.2.2
  | [], acc => by simp
  | x :: L, acc => by
    rw [List.foldl_cons, fold_out c L]
    by_cases h : x.2.2.1 = c
    · rw [if_pos h, List.filter_cons_of_pos (by simpa using h)]; simp
    · rw [if_neg h, List.filter_cons_of_neg (by simpa using h)]

theorem forL_foldI {S α X : Type} {body : S → α → Option (Stp S X)} (f : S → α → S) (P : Nat → S → Prop) : ∀ (L : List α) (s : S) (k : Nat), (∀ i s x, i < L.length → x ∈ L → P (k + i) s → body s x = some (.next (f s x)) ∧ P (k + i + 1) (f s x)) → P k s → forL body L s = some (.go (L.foldl f s))
  | [], _, _, _, _ => rfl
  | x :: L, s, k, h, hs => by
    obtain ⟨h1, h2⟩ := h 0 s x (by simp) (List.mem_cons_self ..) hs
    simp only [forL, h1]
    exact forL_foldI f P L _ (k + 1) (fun i s y hi hy hP => by
      have e : k + 1 + i = k + (i + 1) := by omega
      rw [e] at hP ⊢
      exact h (i + 1) s y (by simp; omega) (List.mem_cons_of_mem _ hy) hP) h2

theorem fits_le {k n : Nat} (h : n * k ≤ 140737488355328) (h2 : n ≤ 1048576) : fits k n := ⟨h, by simp only [maxLen]; omega⟩

theorem Step_eq {g : Gr} (hv : VG g) {a : List Int} (ha : SetOk g a) {c : Int} (h0 : 0 ≤ c) (h1 : c < g.1) : m_graph_Step g a c = some (stepL g a c, 0) := by
  obtain ⟨e, he, hz⟩ := Check_tot g
  have he0 := hz.2 hv
  subst he0
  have hl := setOk_len hv ha
  have hel := hv.el
  unfold m_graph_Step
  rw [Check_ref, he, Option.bind_some, checkSet_ok ha (by omega)]
  simp only [ne_eq, not_true_eq_false, if_false, Option.bind_some, jp]
  rw [if_neg (by omega)]
  have hd : decide (g.1 ≤ c) = false := decide_eq_false (by omega)
  simp only [hd, Bool.false_eq_true, if_false]
  have hy : ∀ x, y_graph_leaving g x = some (leaveL g.2.2 x) := fun x => by unfold y_graph_leaving; rw [if_pos (by omega)]
  have hlen : ∀ i, i ≤ a.length → ((a.take i).flatMap fun s => outL g s c).length ≤ i * 1024 := by
    intro i
    induction i with
    | zero => intro _; simp
    | succ i ih =>
      intro hi
      have := ih (by omega)
      rw [List.take_add_one, List.getElem?_eq_getElem (by omega)]
      simp only [Option.toList_some, List.flatMap_append, List.flatMap_cons, List.flatMap_nil, List.append_nil, List.length_append]
      have h2 := outL_len g a[i] c
      omega
  refine bindL (loop_is (fun i => ((i : Int), (a.take i).flatMap fun s => outL g s c)) a.length (a.flatMap fun s => outL g s c) (fun i hi => ?_) ?_ (by simp)) ?_
  · dsimp only
    rw [if_pos (lt_int hi), ix hi]
    simp only [Option.bind_some, hy]
    have hb := hlen i (by omega)
    have hll : (leaveL g.2.2 a[i]).length ≤ 1024 := by
      simp only [leaveL, List.length_map]
      refine Nat.le_trans (List.length_filter_le _ _) ?_
      simp; omega
    rw [forL_foldI (fun (acc : List Int) (x : Int × Ed) => if x.2.2.1 = c then acc ++ [x.2.2.2] else acc) (fun k s => s.length ≤ i * 1024 + k) _ _ 0 (fun k s x hk hx hP => ?_) (Nat.le_trans hb (Nat.le_add_right _ _))]
    · simp only [lpO, nx (by omega : a.length ≤ _) hi, fold_out, Option.some.injEq, Stp.next.injEq, Prod.mk.injEq, true_and]
      rw [List.take_add_one, List.getElem?_eq_getElem hi]
      simp only [Option.toList_some, List.flatMap_append, List.flatMap_cons, List.flatMap_nil, List.append_nil]
      rfl
    · by_cases hc : x.2.2.1 = c
      · rw [if_pos hc, if_pos hc, if_pos (fits_le (by simp; omega) (by simp; omega))]
        exact ⟨rfl, by simp; omega⟩
      · rw [if_neg hc, if_neg hc]
        exact ⟨rfl, by omega⟩
  · dsimp only
    rw [if_neg (not_lt_int _), List.take_length]
  · have hb := hlen a.length (Nat.le_refl _)
    rw [List.take_length] at hb
    rw [if_pos (by omega)]
    congr 2
    refine asc_uniq (compact_asc (sortI_asc _)) (stepL_ok g a c).1 fun x => ?_
    rw [compact_sort_mem, mem_stepL hv]
    simp only [List.mem_flatMap, mem_outL]
    constructor
    · rintro ⟨s, hs, e, he, h1, h2, rfl⟩; exact ⟨e, he, h1, h2, hs⟩
    · rintro ⟨e, he, h1, h2, hs⟩; exact ⟨_, hs, e, he, h1, h2, rfl⟩
end Go.AW

/- The words of a graph: the reference's lists, and the program's. -/
namespace Go.AW
open Go
set_option linter.unusedSimpArgs false
set_option linter.unusedVariables false

end Go.AW

/- The words of a length: the program's list, the reference's list, and their order. -/
namespace Go.AW
open Go
set_option linter.unusedSimpArgs false
set_option linter.unusedVariables false

theorem idx_letter {i : Nat} (h : i < letters.length) : Lib.indexByte letters letters[i] = (i : Int) := by
  have : ∀ j : Fin 16, Lib.indexByte letters (letters[j.1]'j.2) = (j.1 : Int) := by decide
  exact this ⟨i, h⟩
def lets (g : Gr) : List UInt8 := letters.take g.1.toNat

section
variable {g : Gr}
theorem mem_lets {c : UInt8} (h : c ∈ letters.take g.1.toNat) : ∃ (i : Nat) (hi : i < letters.length), (i : Int) < g.1 ∧ letters[i] = c := by
  obtain ⟨i, hi, rfl⟩ := List.mem_take_iff_getElem.1 h
  have h1 : i < g.1.toNat := by omega
  exact ⟨i, by omega, by omega, rfl⟩
/-! ### order -/
/-! ### Words -/
end
end Go.AW

/- Reading words in graphs: ends of words, and the law of factors. -/
namespace Go.AW
open Go
set_option linter.unusedSimpArgs false
set_option linter.unusedVariables false

def lab (c : UInt8) : Int := Lib.indexByte letters c

def WOk (g : Gr) (w : List UInt8) : Prop := w.length ≤ 65536 ∧ ∀ c ∈ w, c ∈ lets g

section
variable {g : Gr}

theorem lab_mem {c : UInt8} (h : c ∈ lets g) : ∃ (i : Nat) (hi : i < letters.length), (i : Int) < g.1 ∧ letters[i] = c ∧ lab c = i := by
  obtain ⟨i, hi, hg, rfl⟩ := mem_lets h
  exact ⟨i, hi, hg, rfl, idx_letter hi⟩
theorem stepL_nil (c : Int) : stepL g [] c = [] := by simp [stepL]
end

theorem WOk.sub {g : Gr} {w u : List UInt8} (h : WOk g w) (hl : u.length ≤ w.length) (hs : ∀ c ∈ u, c ∈ w) : WOk g u := ⟨Nat.le_trans hl h.1, fun c hc => h.2 c (hs c hc)⟩

end Go.AW

/- The least path that is labelled with a word. -/
namespace Go.AW
open Go
set_option linter.unusedSimpArgs false
set_option linter.unusedVariables false

section
variable {g : Gr}

def canB (g : Gr) : List UInt8 → List Bool
  | [] => List.replicate g.2.1.toNat true
  | c :: w => (upto g.2.1).map fun s => g.2.2.any fun x => decide (x.1 = s ∧ x.2.1 = lab c) && (canB g w).getD x.2.2.toNat false
def okE (g : Gr) (w : List UInt8) (c : UInt8) (prev : Option Int) (x : Ed) : Bool := decide (x.2.1 = lab c) && (canB g w).getD x.2.2.toNat false && (match prev with
  | none => true
  | some s => decide (x.1 = s))
def pick (g : Gr) (w : List UInt8) (c : UInt8) (prev : Option Int) : Nat := g.2.2.findIdx (okE g w c prev)
end
end Go.AW

/- language.Path gives the least path. -/
namespace Go.AW
open Go
set_option linter.unusedSimpArgs false
set_option linter.unusedVariables false
section
variable {g : Gr}

end
end Go.AW

/- language.Path: the edges; the whole function. -/
namespace Go.AW
open Go
set_option linter.unusedSimpArgs false
set_option linter.unusedVariables false
section
variable {g : Gr}

end
end Go.AW

/- All words of a length. -/
namespace Go.AW
open Go
set_option linter.unusedSimpArgs false
set_option linter.unusedVariables false

section
variable {g : Gr}
end
end Go.AW

/- Models, printed by lk.py. -/
namespace Go.AW
open Go
set_option linter.unusedVariables false
end Go.AW

/- The first missing word. -/
namespace Go.AW
open Go
set_option linter.unusedSimpArgs false
set_option linter.unusedVariables false

section
variable {β : Type}
theorem mlook_put (k q : List UInt8) (v : β) : ∀ l : List (List UInt8 × β), mlook q (mputN k v l) = if q = k then some v else mlook q l
  | [] => by simp only [mputN, mlook]
  | (p, x) :: l => by
    simp only [mputN]
    by_cases h : k = p
    · rw [if_pos h]
      simp only [mlook]
      by_cases e : q = p
      · rw [if_pos e, if_pos (e.trans h.symm)]
      · rw [if_neg e, if_neg (fun e' => e (e'.trans h)), if_neg e]
    · rw [if_neg h]
      simp only [mlook]
      by_cases e : q = p
      · rw [if_pos e, if_neg (fun e' => h (e'.symm.trans e)), if_pos e]
      · rw [if_neg e, mlook_put k q v l, if_neg e]
end

section
variable {g : Gr}
end
end Go.AW

/- Models, printed by lk.py. -/
namespace Go.AW
open Go
set_option linter.unusedVariables false
end Go.AW

/- The words of a length, by reading; the anchor of chapter 11. -/
namespace Go.AW
open Go
set_option linter.unusedSimpArgs false
set_option linter.unusedVariables false

section
variable {g : Gr}
def stpL (g : Gr) (a : List Int) (c : UInt8) : List Int := stepL g a (lab c)
end

end Go.AW

/- Models, printed by lk.py. -/
namespace Go.AW
open Go
set_option linter.unusedVariables false
end Go.AW

/- The law of words. -/
namespace Go.AW
open Go
set_option linter.unusedSimpArgs false
set_option linter.unusedVariables false

section
variable {g : Gr}
end

end Go.AW

/- word.All; the law of words. -/
namespace Go.AW
open Go
set_option linter.unusedSimpArgs false
set_option linter.unusedVariables false

end Go.AW

/- Models, printed by lk.py. -/
namespace Go.AW
open Go
set_option linter.unusedVariables false
end Go.AW

/- The law of the first missing word. -/
namespace Go.AW
open Go
set_option linter.unusedSimpArgs false
set_option linter.unusedVariables false
section
variable {g : Gr}

end

end Go.AW

/- The letters that can follow in a set of states. -/
namespace Go.AW
open Go
end Go.AW

/- Models, printed by lk.py. -/
namespace Go.AW
open Go
set_option linter.unusedVariables false
end Go.AW

/- The law of letters. -/
namespace Go.AW
open Go
set_option linter.unusedSimpArgs false
set_option linter.unusedVariables false

end Go.AW

/- Models, printed by lk.py. -/
namespace Go.AW
open Go
set_option linter.unusedVariables false
end Go.AW

/- Reading words, in the program and in the reference. -/
namespace Go.AW
open Go
set_option linter.unusedSimpArgs false
set_option linter.unusedVariables false

section
variable {g : Gr}
end
end Go.AW

/- Models, printed by lk.py. -/
namespace Go.AW
open Go
set_option linter.unusedVariables false
noncomputable def m_ref09_Great (p0 : TLabelsStatesEdges) : Option (Bool) :=
  jp (fun (a1 : Bool) =>
    some a1)
    fun k3 =>
    if 30 < ((p0.2.2).length : Int) then
      k3 true
    else
      if 10 < p0.2.1 then
        k3 (decide (p0.2.1 ≤ 64))
      else
        k3 false

noncomputable def m_law12_great (p0 : TLabelsStatesEdges) : Option (Bool) :=
  (m_ref09_Great p0).bind fun x1 =>
  some x1

noncomputable def m_graph_Deterministic (p0 : TLabelsStatesEdges) : Option (Bool × Int) :=
  (m_graph_Check p0).bind fun x1 =>
  if x1 ≠ 0 then
    some (false, 1)
  else
    lpO (loopW (S := Int) (X := Ou (Unit) (Bool × Int)) (fun a3 =>
        if a3 < ((p0.2.2).length : Int) then
          (idx p0.2.2 (IntKind.wrap .i64 (a3 - 1))).bind fun x70401 =>
          (idx p0.2.2 a3).bind fun x70901 =>
          jp (fun (a8 : Bool) =>
            if a8 = true then
              some (Stp.exit (Ou.ret (false, 0)))
            else
              some (Stp.next (IntKind.wrap .i64 (a3 + 1))))
            fun k10 =>
            if x70401.1 = x70901.1 then
              k10 (decide (x70401.2.1 = x70901.2.1))
            else
              k10 false
        else
          some (Stp.exit (Ou.go ()))) 1) (fun a12 =>
        some (true, 0)) some

end Go.AW

/- Graphs of sets: the program's search and the reference's find the same. -/
namespace Go.AW
open Go
set_option linter.unusedSimpArgs false
set_option linter.unusedVariables false

theorem lpN {V R Y : Type} {o : Option (Ou V R)} {M : V → Option Y} {Rt : R → Option Y} {r : Option Y} (Q : Ou V R → Prop) (h : ∃ x, o = some x ∧ Q x) (k : ∀ x, Q x → lpO (some x) M Rt = r) : lpO o M Rt = r := by
  obtain ⟨x, rfl, hq⟩ := h
  exact k x hq
theorem bindNE {X R T : Type} {o : Option X} {M : X → Option R} {C : T → Prop} {r : T → Option R} (Q : X → Prop) (h : ∃ x, o = some x ∧ Q x) (k : ∀ x, Q x → ∃ t, C t ∧ M x = r t) : ∃ t, C t ∧ o.bind M = r t := by
  obtain ⟨x, rfl, hq⟩ := h
  exact k x hq

theorem dec2_pre : ∀ n, n < 64 → ∀ m, m < 64 → (dec2 n ++ [32]).isPrefixOf (dec2 m ++ [32]) = true → n = m := by decide +kernel
theorem dec2_len (n : Nat) : (dec2 n).length ≤ 2 := by unfold dec2; split <;> simp
def keyL (a : List Int) : List UInt8 := a.flatMap fun s => dec2 s.toNat ++ [32]
theorem keyL_inj : ∀ {a b : List Int}, (∀ x ∈ a, 0 ≤ x ∧ x < 64) → (∀ x ∈ b, 0 ≤ x ∧ x < 64) → keyL a = keyL b → a = b
  | [], [], _, _, _ => rfl
  | [], y :: b, _, _, h => by simp [keyL] at h
  | x :: a, [], _, _, h => by simp [keyL] at h
  | x :: a, y :: b, ha, hb, h => by
    have hx := ha x (List.mem_cons_self ..)
    have hy := hb y (List.mem_cons_self ..)
    have h' : (dec2 x.toNat ++ [32]) ++ keyL a = (dec2 y.toNat ++ [32]) ++ keyL b := by
      simpa only [keyL, List.flatMap_cons] using h
    have h1 : dec2 x.toNat ++ [32] <+: (dec2 y.toNat ++ [32]) ++ keyL b := ⟨_, h'⟩
    have h2 : dec2 y.toNat ++ [32] <+: (dec2 y.toNat ++ [32]) ++ keyL b := ⟨_, rfl⟩
    have e : x.toNat = y.toNat := by
      rcases List.prefix_or_prefix_of_prefix h1 h2 with hp | hp
      · exact dec2_pre _ (by omega) _ (by omega) (List.isPrefixOf_iff_prefix.2 hp)
      · exact (dec2_pre _ (by omega) _ (by omega) (List.isPrefixOf_iff_prefix.2 hp)).symm
    have hk : keyL a = keyL b := by
      rw [e] at h'
      exact List.append_cancel_left h'
    have := keyL_inj (fun z hz => ha z (List.mem_cons_of_mem _ hz)) (fun z hz => hb z (List.mem_cons_of_mem _ hz)) hk
    rw [this]
    congr 1
    omega

section
variable {g : Gr}
theorem setOk_64 (hv : VG g) {a : List Int} (h : SetOk g a) : ∀ x ∈ a, 0 ≤ x ∧ x < 64 := fun x hx => by
  have := h.2 x hx
  have := hv.s1
  omega
theorem keyL_take (a : List Int) {i : Nat} (h : i < a.length) : keyL (a.take (i + 1)) = keyL (a.take i) ++ (dec2 a[i].toNat ++ [32]) := by
  rw [List.take_add_one, List.getElem?_eq_getElem h]
  simp only [keyL, Option.toList_some, List.flatMap_append, List.flatMap_cons, List.flatMap_nil, List.append_nil]
theorem keyL_len (a : List Int) : (keyL a).length ≤ 3 * a.length := by
  induction a with
  | nil => simp [keyL]
  | cons x a ih =>
    have := dec2_len x.toNat
    simp only [keyL, List.flatMap_cons, List.length_append, List.length_cons, List.length_nil] at ih ⊢
    omega
theorem key_eq (hv : VG g) {a : List Int} (h : SetOk g a) : m_subset_key a = some (keyL a) := by
  have hl := setOk_len hv h
  unfold m_subset_key
  refine bindL (loop_is (fun i => ((i : Int), keyL (a.take i))) a.length (keyL a) (fun i hi => ?_) ?_ (by simp [keyL])) rfl
  · dsimp only
    obtain ⟨h0, h1⟩ := setOk_64 hv h a[i] (List.getElem_mem hi)
    have hs : m_strconv_Itoa a[i] = some (dec2 a[i].toNat) := by unfold m_strconv_Itoa; rw [if_pos (by omega)]
    have hd := dec2_len a[i].toNat
    have hk := keyL_len (a.take i)
    rw [if_pos (lt_int hi), ix hi]
    simp only [Option.bind_some, hs]
    rw [if_pos (by simp [maxLen]; omega), if_pos (fits_le (by simp at hk ⊢; omega) (by simp at hk ⊢; omega)), nx (by omega : a.length ≤ _) hi, keyL_take a hi]
  · dsimp only
    rw [if_neg (not_lt_int _), List.take_length]

abbrev BS := List Ed × List (List Int)
def bstep (g : Gr) (i : Nat) (a : List Int) (st : BS) (lab : Nat) : BS :=
  if stepL g a lab = [] then st else (st.1 ++ [((i : Int), (lab : Int), ((st.2.idxOf (stepL g a lab) : Nat) : Int))], if stepL g a lab ∈ st.2 then st.2 else st.2 ++ [stepL g a lab])
def browN (g : Gr) (i : Nat) (a : List Int) (n : Nat) (st : BS) : BS := (List.range n).foldl (bstep g i a) st
theorem browN_zero {i : Nat} {a : List Int} {st : BS} : browN g i a 0 st = st := rfl
theorem browN_succ {i n : Nat} {a : List Int} {st : BS} : browN g i a (n + 1) st = bstep g i a (browN g i a n st) n := by simp [browN, List.range_succ, List.foldl_append]
def brow (g : Gr) (i : Nat) (st : BS) : BS := browN g i (st.2.getD i []) g.1.toNat st
def small (st : BS) : Prop := st.2.length ≤ 64 ∧ st.1.length ≤ 1024
instance (st : BS) : Decidable (small st) := by unfold small; infer_instance
def brun (g : Gr) : Nat → Nat → BS → Option BS
  | 0, _, _ => none
  | f + 1, i, st => if i < st.2.length then (if small (brow g i st) then brun g f (i + 1) (brow g i st) else none) else some st

theorem bstep_grow (i : Nat) (a : List Int) (st : BS) (n : Nat) : st.1 <+: (bstep g i a st n).1 ∧ st.2 <+: (bstep g i a st n).2 ∧ (bstep g i a st n).1.length ≤ st.1.length + 1 ∧ (bstep g i a st n).2.length ≤ st.2.length + 1 := by
  unfold bstep
  split
  · exact ⟨List.prefix_refl _, List.prefix_refl _, Nat.le_succ _, Nat.le_succ _⟩
  · refine ⟨List.prefix_append _ _, ?_, by simp, ?_⟩
    · dsimp only
      split
      · exact List.prefix_refl _
      · exact List.prefix_append _ _
    · dsimp only
      split
      · exact Nat.le_succ _
      · simp
theorem browN_grow (i : Nat) (a : List Int) (st : BS) : ∀ n, st.1 <+: (browN g i a n st).1 ∧ st.2 <+: (browN g i a n st).2 ∧ (browN g i a n st).1.length ≤ st.1.length + n ∧ (browN g i a n st).2.length ≤ st.2.length + n
  | 0 => ⟨List.prefix_refl _, List.prefix_refl _, Nat.le_refl _, Nat.le_refl _⟩
  | n + 1 => by
    obtain ⟨h1, h2, h3, h4⟩ := browN_grow i a st n
    obtain ⟨k1, k2, k3, k4⟩ := bstep_grow (g := g) i a (browN g i a n st) n
    rw [browN_succ]
    exact ⟨h1.trans k1, h2.trans k2, by omega, by omega⟩
def Good (g : Gr) (st : BS) : Prop := ∀ x ∈ st.2, SetOk g x
theorem bstep_good {i n : Nat} {a : List Int} {st : BS} (h : Good g st) : Good g (bstep g i a st n) := by
  unfold bstep
  split
  · exact h
  · intro x hx
    dsimp only at hx
    split at hx
    · exact h x hx
    · rcases List.mem_append.1 hx with hx | hx
      · exact h x hx
      · rw [List.mem_singleton.1 hx]; exact stepL_ok g a n
theorem browN_good {i : Nat} {a : List Int} {st : BS} (h : Good g st) : ∀ n, Good g (browN g i a n st)
  | 0 => h
  | n + 1 => by rw [browN_succ]; exact bstep_good (browN_good h n)
theorem bfs_loop {S R V T : Type} {body : S → Option (Stp S (Ou V R))} (enc : Nat → BS → T → S) (out : BS → V) (rl : R) (Ok : BS → T → Prop)
    (h : ∀ i st t, Good g st → small st → Ok st t → i < st.2.length → ∃ t', Ok (brow g i st) t' ∧ body (enc i st t) = some (if small (brow g i st) then .next (enc (i + 1) (brow g i st) t') else .exit (.ret rl)))
    (hf : ∀ i st t, small st → i ≤ st.2.length → ¬ i < st.2.length → body (enc i st t) = some (.exit (.go (out st)))) :
    ∀ f i st t, Good g st → small st → Ok st t → i ≤ st.2.length → i + f = 66 → loopW body (enc i st t) = some (match brun g f i st with | none => .ret rl | some st' => .go (out st'))
  | 0, i, st, t, _, hs, _, hi, hf' => by
    have := hs.1
    omega
  | f + 1, i, st, t, hg, hs, hok, hi, hf' => by
    unfold brun
    by_cases hlt : i < st.2.length
    · obtain ⟨t', ht', hb⟩ := h i st t hg hs hok hlt
      rw [if_pos hlt]
      by_cases hsm : small (brow g i st)
      · rw [if_pos hsm] at hb ⊢
        rw [loopW_next hb]
        have hgr := (browN_grow (g := g) i (st.2.getD i []) st g.1.toNat).2.1.length_le
        exact bfs_loop enc out rl Ok h hf f (i + 1) _ t' (browN_good hg _) hsm ht' (by unfold brow; omega) (by omega)
      · rw [if_neg hsm] at hb ⊢
        rw [loopW_exit hb]
    · rw [if_neg hlt, loopW_exit (hf i st t hs hi hlt)]

theorem idxOf_lt {l : List (List Int)} {x : List Int} (h : x ∈ l) : l.idxOf x < l.length := List.idxOf_lt_length_of_mem h
theorem idxOf_no {l : List (List Int)} {x : List Int} (h : x ∉ l) : l.idxOf x = l.length := List.idxOf_eq_length h
theorem idxOf_at {l : List (List Int)} {x : List Int} {i : Nat} (hi : i < l.length) (hx : l[i] = x) (hn : x ∉ l.take i) : l.idxOf x = i := by
  have e : l = l.take i ++ l[i] :: l.drop (i + 1) := by rw [← List.drop_eq_getElem_cons hi, List.take_append_drop]
  conv => lhs; rw [e]
  rw [List.idxOf_append, if_neg hn, hx, List.idxOf_cons_self]
  simp; omega

def NumOk (g : Gr) (l : List (List Int)) (M : List (List UInt8 × Int)) : Prop := ∀ x, SetOk g x → mlook (keyL x) M = if x ∈ l then some ((l.idxOf x : Nat) : Int) else none
theorem numOk_put (hv : VG g) {l : List (List Int)} {M : List (List UInt8 × Int)} (h : NumOk g l M) {y : List Int} (hy : SetOk g y) (hn : y ∉ l) : NumOk g (l ++ [y]) (mputN (keyL y) ((l.length : Nat) : Int) M) := fun x hx => by
  rw [mlook_put]
  by_cases e : x = y
  · subst e
    rw [if_pos rfl, if_pos (by simp), List.idxOf_append, if_neg hn, List.idxOf_cons_self]
    simp
  · rw [if_neg (fun hk => e (keyL_inj (setOk_64 hv hx) (setOk_64 hv hy) hk)), h x hx]
    by_cases hm : x ∈ l
    · rw [if_pos hm, if_pos (by simp [hm]), List.idxOf_append, if_pos hm]
    · rw [if_neg hm, if_neg (by simp [hm, e])]
theorem numOk_one (hv : VG g) {a : List Int} (ha : SetOk g a) : NumOk g [a] (mputN (keyL a) 0 ([] : List (List UInt8 × Int))) := by
  have := numOk_put hv (l := []) (M := []) (fun x _ => by simp [mlook]) ha (by simp)
  simpa using this

theorem cloneI_eq {l : List Int} (h : l.length ≤ 1000000) : m_slices_Clone_Lint_int l = some l := by unfold m_slices_Clone_Lint_int; rw [if_pos (by omega)]

def buildR (g : Gr) (a : List Int) : Gr × List (List Int) × Int := match brun g 66 0 ([], [a]) with
  | none => ((0, 0, []), [], 4)
  | some st => ((g.1, (st.2.length : Int), st.1), st.2, 0)

theorem small_one (a : List Int) : small (([], [a]) : BS) := ⟨by simp, by simp⟩
theorem good_one {a : List Int} (ha : SetOk g a) : Good g ([], [a]) := fun x hx => by rw [List.mem_singleton.1 hx]; exact ha

theorem build_eq (hv : VG g) {a : List Int} (ha : SetOk g a) : m_subset_build g a = some (buildR g a) := by
  have hl := setOk_len hv ha
  have h256 := hv.l2
  have h1 := hv.l1
  unfold m_subset_build
  rw [key_eq hv ha, Option.bind_some, cloneI_eq (by omega), Option.bind_some]
  refine lpL (bfs_loop (g := g) (T := List (List UInt8 × Int)) (fun i st M => (st.1, (i : Int), M, st.2)) (fun st => (st.1, st.2)) ((0, 0, []), [], 4) (fun st M => NumOk g st.2 M) (fun i st M hg hs hM hi => ?_) (fun i st M hs hi hn => ?_) 66 0 ([], [a]) _ (good_one ha) (small_one a) (numOk_one hv ha) (Nat.zero_le _) rfl) ?_
  · -- a row
    have hsl := hs.1
    have hel := hs.2
    have hset : SetOk g st.2[i] := hg _ (List.getElem_mem hi)
    have hgd : st.2.getD i [] = st.2[i] := by simp [List.getD, hi]
    dsimp only
    rw [if_pos (by omega), ix hi]
    simp only [Option.bind_some, jp]
    refine bindNE (fun x => x.1 = (brow g i st).1 ∧ NumOk g (brow g i st).2 x.2.1 ∧ x.2.2 = (brow g i st).2) (loopN g.1.toNat (fun k s => ∃ M, NumOk g (browN g i st.2[i] k st).2 M ∧ s = ((k : Int), (browN g i st.2[i] k st).1, M, (browN g i st.2[i] k st).2))
      (fun k s hk hI => .inl ?_) (fun s hI => ?_) 0 _ (Nat.zero_le _) ⟨M, hM, rfl⟩) fun x ⟨hxq1, hxq2, hxq3⟩ => ?_
    · -- a label
      obtain ⟨M, hM, rfl⟩ := hI
      obtain ⟨_, _, b1, b2⟩ := browN_grow (g := g) i st.2[i] st k
      have hgk := browN_good (i := i) (a := st.2[i]) hg k
      dsimp only
      rw [if_pos (by omega), Step_eq hv hset (by omega) (by omega)]
      simp only [Option.bind_some]
      have hnx : IntKind.wrap .i64 ((k : Int) + 1) = ((k + 1 : Nat) : Int) := by rw [w64 (by omega) (by omega)]; omega
      have hno := stepL_ok g st.2[i] (k : Int)
      rw [browN_succ]
      by_cases hz : stepL g st.2[i] (k : Int) = []
      · have e : bstep g i st.2[i] (browN g i st.2[i] k st) k = browN g i st.2[i] k st := by unfold bstep; rw [if_pos hz]
        rw [if_neg (by rw [hz]; simp), hnx, e]
        exact ⟨_, rfl, M, hM, rfl⟩
      · have hpos : 0 < (stepL g st.2[i] (k : Int)).length := List.length_pos_iff.2 hz
        rw [if_pos (by omega), key_eq hv hno]
        simp only [Option.bind_some]
        rw [hM _ hno]
        have hf1 : ∀ x : Ed, fits 24 ((browN g i st.2[i] k st).1.length + ([x] : List Ed).length) := fun x => fits_le (by simp; omega) (by simp; omega)
        by_cases hm : stepL g st.2[i] (k : Int) ∈ (browN g i st.2[i] k st).2
        · have e : bstep g i st.2[i] (browN g i st.2[i] k st) k = ((browN g i st.2[i] k st).1 ++ [((i : Int), (k : Int), (((browN g i st.2[i] k st).2.idxOf (stepL g st.2[i] (k : Int)) : Nat) : Int))], (browN g i st.2[i] k st).2) := by unfold bstep; rw [if_neg hz, if_pos hm]
          rw [if_pos hm]
          simp only [Option.isSome_some, Bool.not_true, Bool.false_eq_true, if_false, Option.getD_some, hnx]
          rw [if_pos (hf1 _), e]
          exact ⟨_, rfl, M, hM, rfl⟩
        · have e : bstep g i st.2[i] (browN g i st.2[i] k st) k = ((browN g i st.2[i] k st).1 ++ [((i : Int), (k : Int), (((browN g i st.2[i] k st).2.length : Nat) : Int))], (browN g i st.2[i] k st).2 ++ [stepL g st.2[i] (k : Int)]) := by unfold bstep; rw [if_neg hz, if_neg hm, idxOf_no hm]
          rw [if_neg hm]
          simp only [Option.isSome_none, Bool.not_false, if_true, hnx]
          rw [if_pos (fits_le (by simp; omega) (by simp; omega)), if_pos (hf1 _), e]
          exact ⟨_, rfl, _, numOk_put hv hM hno hm, rfl⟩
    · obtain ⟨M, hM, rfl⟩ := hI
      dsimp only
      rw [if_neg (by omega)]
      refine ⟨_, rfl, ?_⟩
      unfold brow
      rw [hgd]
      exact ⟨rfl, hM, rfl⟩
    · refine ⟨x.2.1, hxq2, ?_⟩
      simp only [Option.bind_some, hxq1, hxq3]
      rw [nx (by omega : st.2.length ≤ _) hi]
      by_cases hsm : small (brow g i st)
      · obtain ⟨s1, s2⟩ := id hsm
        rw [if_pos hsm, if_neg (by omega)]
        have hd : decide ((1024 : Int) < (((brow g i st).1.length : Nat) : Int)) = false := decide_eq_false (by omega)
        simp only [hd, Bool.false_eq_true, if_false]
      · rw [if_neg hsm]
        by_cases h64 : (64 : Int) < (((brow g i st).2.length : Nat) : Int)
        · rw [if_pos h64, if_pos trivial]
        · have hd : decide ((1024 : Int) < (((brow g i st).1.length : Nat) : Int)) = true := decide_eq_true (by
            have : ¬ ((brow g i st).2.length ≤ 64 ∧ (brow g i st).1.length ≤ 1024) := hsm
            omega)
          rw [if_neg h64]
          simp only [hd, if_true]
  · dsimp only
    rw [if_neg (by omega)]
  · unfold buildR
    cases hb : brun g 66 0 ([], [a]) with
    | none => rfl
    | some st => rfl
end
end Go.AW

/- Graphs of sets: the reference. -/
namespace Go.AW
open Go
set_option linter.unusedSimpArgs false
set_option linter.unusedVariables false

theorem loop_eqL {α S X : Type} [DecidableEq α] {body : S → Option (Stp S X)} (st : Nat → S) (a b : List α) (hl : a.length = b.length) (xr xf : X) (h : ∀ i (h1 : i < a.length) (h2 : i < b.length), body (st i) = if a[i] ≠ b[i] then some (.exit xr) else some (.next (st (i + 1)))) (hf : body (st a.length) = some (.exit xf)) {s0 : S} (hs0 : s0 = st 0) :
    loopW body s0 = some (if a = b then xf else xr) := by
  subst hs0
  obtain ⟨x, hx, hq⟩ := loopN (body := body) (Q := fun x => x = if a = b then xf else xr) a.length (fun i s => s = st i ∧ ∀ j, j < i → a[j]? = b[j]?) (fun i s hi ⟨hs, ha⟩ => by
    subst hs
    have h2 : i < b.length := by omega
    by_cases he : a[i] = b[i]
    · refine .inl ⟨_, by rw [h i hi h2, if_neg (by simpa using he)], rfl, fun j hj => ?_⟩
      by_cases hji : j = i
      · subst hji; rw [List.getElem?_eq_getElem hi, List.getElem?_eq_getElem h2, he]
      · exact ha j (by omega)
    · refine .inr ⟨xr, by rw [h i hi h2, if_pos he], ?_⟩
      rw [if_neg]
      intro hab
      subst hab
      exact he rfl) (fun s ⟨hs, ha⟩ => by
    subst hs
    refine ⟨xf, hf, ?_⟩
    rw [if_pos]
    exact List.ext_getElem? fun j => by
      by_cases hj : j < a.length
      · exact ha j hj
      · rw [List.getElem?_eq_none (by omega), List.getElem?_eq_none (by omega)]) 0 (st 0) (Nat.zero_le _) ⟨rfl, fun j hj => by omega⟩
  rw [hx, hq]

theorem Same12_eq {a b : List Int} (hm : a.length ≤ 9223372036854775807) : m_ref12_Same a b = some (decide (a = b)) := by
  unfold m_ref12_Same
  by_cases hl : a.length = b.length
  · rw [if_neg (by omega)]
    refine lpL (loop_eqL (fun i => (i : Int)) a b hl (Ou.ret false) (Ou.go ()) (fun i h1 h2 => ?_) (by rw [if_neg (not_lt_int _)]) rfl) ?_
    · rw [if_pos (lt_int h1), ix h1, ix h2]
      simp only [Option.bind_some, nx hm h1]
    · by_cases he : a = b <;> simp [he, lpO]
  · rw [if_pos (by omega)]
    have : ¬ a = b := fun e => hl (by rw [e])
    simp [this]
theorem SameSets_eq {a b : List (List Int)} (hm : a.length ≤ 9223372036854775807) (hx : ∀ x ∈ a, x.length ≤ 9223372036854775807) : m_ref12_SameSets a b = some (decide (a = b)) := by
  unfold m_ref12_SameSets
  by_cases hl : a.length = b.length
  · rw [if_neg (by omega)]
    refine lpL (loop_eqL (fun i => (i : Int)) a b hl (Ou.ret false) (Ou.go ()) (fun i h1 h2 => ?_) (by rw [if_neg (not_lt_int _)]) rfl) ?_
    · rw [if_pos (lt_int h1), ix h1, ix h2]
      simp only [Option.bind_some, Same12_eq (hx _ (List.getElem_mem h1)), nx hm h1]
      by_cases he : a[i] = b[i] <;> simp [he]
    · by_cases he : a = b <;> simp [he, lpO]
  · rw [if_pos (by omega)]
    have : ¬ a = b := fun e => hl (by rw [e])
    simp [this]

section
variable {g : Gr}
end
end Go.AW

/- Graphs of sets: From and Build in both, and what they have. -/
namespace Go.AW
open Go
set_option linter.unusedSimpArgs false
set_option linter.unusedVariables false

section
variable {g : Gr}
theorem set_up {n i : Nat} (h : i < n) : ((List.range i).map Int.ofNat ++ List.replicate (n - i) (0 : Int)).set i (i : Int) = (List.range (i + 1)).map Int.ofNat ++ List.replicate (n - (i + 1)) (0 : Int) := by
  obtain ⟨d, rfl⟩ : ∃ d, n = i + 1 + d := ⟨n - i - 1, by omega⟩
  rw [show i + 1 + d - i = d + 1 by omega, show i + 1 + d - (i + 1) = d by omega, List.replicate_succ, List.set_append_right _ _ (by simp), List.range_succ]
  simp

def buildG (g : Gr) : Gr × List (List Int) × Int := if g.2.1 = 0 then ((g.1, 0, []), [], 0) else buildR g (upto g.2.1)
def buildE (g : Gr) (e : Int) : Gr × List (List Int) × Int := if e ≠ 0 then ((0, 0, []), [], 1) else buildG g

theorem Build_eq {e : Int} (he : m_ref09_Check g = some e) (hz : e = 0 ↔ VG g) : m_subset_Build g = some (buildE g e) := by
  unfold m_subset_Build buildE
  rw [Check_ref, he, Option.bind_some]
  by_cases h0 : e = 0
  · have hv := hz.1 h0
    have hs0 := hv.s0
    have hs1 := hv.s1
    rw [if_neg (show ¬ e ≠ 0 from fun h => h h0), if_neg (show ¬ e ≠ 0 from fun h => h h0)]
    unfold buildG
    by_cases hn : g.2.1 = 0
    · rw [if_pos hn, if_pos hn]
    · rw [if_neg hn, if_neg hn, if_pos (by omega)]
      refine bindL (loop_is (fun i => ((i : Int), (List.range i).map Int.ofNat ++ List.replicate (g.2.1.toNat - i) (0 : Int))) g.2.1.toNat (upto g.2.1) (fun i hi => ?_) ?_ (by simp)) ?_
      · dsimp only
        have hlen : i < ((List.range i).map Int.ofNat ++ List.replicate (g.2.1.toNat - i) (0 : Int)).length := by simp; omega
        rw [if_pos (by simp; omega), ix hlen]
        simp only [Option.bind_some, Int.toNat_natCast]
        rw [set_up hi, nx (by omega : g.2.1.toNat ≤ _) hi]
      · dsimp only
        rw [if_neg (by simp)]
        simp [upto]
      · rw [build_eq hv (upto_ok g)]
        rfl
  · rw [if_pos h0, if_pos h0]

def rowE (g : Gr) (i : Nat) (a : List Int) (L : List (List Int)) (n : Nat) : List Ed :=
  (List.range n).filterMap fun (lab : Nat) => if stepL g a (lab : Int) = [] then none else some ((i : Int), (lab : Int), ((L.idxOf (stepL g a (lab : Int)) : Nat) : Int))
theorem rowE_succ (i : Nat) (a : List Int) (L : List (List Int)) (n : Nat) : rowE g i a L (n + 1) = rowE g i a L n ++ if stepL g a (n : Int) = [] then [] else [((i : Int), (n : Int), ((L.idxOf (stepL g a (n : Int)) : Nat) : Int))] := by
  unfold rowE
  rw [List.range_succ, List.filterMap_append]
  congr 1
  by_cases h : stepL g a (n : Int) = [] <;> simp [h]
theorem idxOf_pre {L L' : List (List Int)} {x : List Int} (h : L <+: L') (hx : x ∈ L) : L'.idxOf x = L.idxOf x := by
  obtain ⟨r, rfl⟩ := h
  rw [List.idxOf_append, if_pos hx]

theorem browN_form (i : Nat) (a : List Int) (st : BS) : ∀ n L', (browN g i a n st).2 <+: L' → (browN g i a n st).1 = st.1 ++ rowE g i a L' n ∧ ∀ lab, lab < n → stepL g a (lab : Int) = [] ∨ stepL g a (lab : Int) ∈ (browN g i a n st).2
  | 0, L', _ => ⟨by simp [browN_zero, rowE], fun lab h => by omega⟩
  | n + 1, L', hp => by
    rw [browN_succ] at hp ⊢
    have hpre := (bstep_grow (g := g) i a (browN g i a n st) n).2.1
    obtain ⟨ih1, ih2⟩ := browN_form i a st n L' (hpre.trans hp)
    have old : ∀ lab, lab < n → stepL g a (lab : Int) = [] ∨ stepL g a (lab : Int) ∈ (bstep g i a (browN g i a n st) n).2 := fun lab hl => (ih2 lab hl).imp id fun h => hpre.subset h
    rw [rowE_succ, ← List.append_assoc, ← ih1]
    by_cases hz : stepL g a (n : Int) = []
    · refine ⟨?_, fun lab hl => ?_⟩
      · unfold bstep
        rw [if_pos hz, if_pos hz, List.append_nil]
      · by_cases e : lab = n
        · subst e; exact .inl hz
        · exact old lab (by omega)
    · have hin : stepL g a (n : Int) ∈ (bstep g i a (browN g i a n st) n).2 := by
        unfold bstep
        rw [if_neg hz]
        dsimp only
        split
        · assumption
        · simp
      refine ⟨?_, fun lab hl => ?_⟩
      · rw [idxOf_pre hp hin, if_neg hz]
        unfold bstep
        rw [if_neg hz]
        dsimp only
        by_cases hm : stepL g a (n : Int) ∈ (browN g i a n st).2
        · rw [if_pos hm]
        · rw [if_neg hm, idxOf_no hm, List.idxOf_append, if_neg hm, List.idxOf_cons_self]
          simp
      · by_cases e : lab = n
        · subst e; exact .inr hin
        · exact old lab (by omega)

structure Sets (g : Gr) (a : List Int) (E : List Ed) (L : List (List Int)) : Prop where
  ed : E = (List.range L.length).flatMap fun j => rowE g j (L.getD j []) L g.1.toNat
  clo : ∀ j, j < L.length → ∀ lab, lab < g.1.toNat → stepL g (L.getD j []) (lab : Int) = [] ∨ stepL g (L.getD j []) (lab : Int) ∈ L
  nd : L.Nodup
  good : ∀ x ∈ L, SetOk g x
  ne : ∀ x ∈ L, x ≠ []
  hd : [a] <+: L
  s1 : L.length ≤ 64
  s2 : E.length ≤ 1024

theorem brun_ind {P : Nat → BS → Prop} (hstep : ∀ i st, P i st → i < st.2.length → small (brow g i st) → P (i + 1) (brow g i st)) : ∀ f i st st', brun g f i st = some st' → P i st → ∃ k, P k st' ∧ st'.2.length ≤ k
  | 0, i, st, st', h, _ => by cases h
  | f + 1, i, st, st', h, hP => by
    unfold brun at h
    by_cases hlt : i < st.2.length
    · rw [if_pos hlt] at h
      by_cases hsm : small (brow g i st)
      · rw [if_pos hsm] at h
        exact brun_ind hstep f _ _ _ h (hstep i st hP hlt hsm)
      · rw [if_neg hsm] at h; cases h
    · rw [if_neg hlt] at h
      cases h
      exact ⟨i, hP, by omega⟩

theorem bstep_nd {i n : Nat} {a : List Int} {st : BS} (h : st.2.Nodup) : (bstep g i a st n).2.Nodup := by
  unfold bstep
  split
  · exact h
  · dsimp only
    split
    · exact h
    · rename_i hm
      rw [List.nodup_append]
      exact ⟨h, by simp, fun x hx y hy => by rw [List.mem_singleton.1 hy]; intro e; subst e; exact hm hx⟩
theorem browN_nd {i : Nat} {a : List Int} {st : BS} (h : st.2.Nodup) : ∀ n, (browN g i a n st).2.Nodup
  | 0 => h
  | n + 1 => by rw [browN_succ]; exact bstep_nd (browN_nd h n)
theorem browN_ne {i : Nat} {a : List Int} {st : BS} (h : ∀ x ∈ st.2, x ≠ []) : ∀ n, ∀ x ∈ (browN g i a n st).2, x ≠ []
  | 0 => h
  | n + 1 => by
    rw [browN_succ]
    unfold bstep
    split
    · exact browN_ne h n
    · rename_i hz
      dsimp only
      split
      · exact browN_ne h n
      · intro x hx
        rcases List.mem_append.1 hx with hx | hx
        · exact browN_ne h n x hx
        · rw [List.mem_singleton.1 hx]; exact hz

theorem pre_getD {L L' : List (List Int)} (h : L <+: L') {i : Nat} (hi : i < L.length) : L'.getD i [] = L.getD i [] := by
  have := h.length_le
  rw [show L'.getD i [] = L'[i]'(by omega) by simp [List.getD, show i < L'.length by omega], show L.getD i [] = L[i] by simp [List.getD, hi]]
  exact (List.IsPrefix.getElem h hi).symm

theorem brun_sets {a : List Int} (ha : SetOk g a) (hne : a ≠ []) {st : BS} (h : brun g 66 0 ([], [a]) = some st) : Sets g a st.1 st.2 := by
  obtain ⟨k, ⟨h1, h2, h3, h4, h5, h6, h7, h8⟩, hk⟩ := brun_ind (g := g) (P := fun i st => (∀ L', st.2 <+: L' → st.1 = (List.range i).flatMap fun j => rowE g j (L'.getD j []) L' g.1.toNat) ∧ (∀ j, j < i → ∀ lab, lab < g.1.toNat → stepL g (st.2.getD j []) (lab : Int) = [] ∨ stepL g (st.2.getD j []) (lab : Int) ∈ st.2) ∧ i ≤ st.2.length ∧ st.2.Nodup ∧ Good g st ∧ (∀ x ∈ st.2, x ≠ []) ∧ [a] <+: st.2 ∧ small st) (fun i st ⟨h1, h2, h3, h4, h5, h6, h7, h8⟩ hi hsm => by
    have hg := browN_grow (g := g) i (st.2.getD i []) st g.1.toNat
    have hpre : st.2 <+: (brow g i st).2 := hg.2.1
    have hlen := hpre.length_le
    refine ⟨fun L' hL' => ?_, fun j hj lab hlab => ?_, by omega, browN_nd h4 _, browN_good h5 _, browN_ne h6 _, h7.trans hpre, hsm⟩
    · rw [List.range_succ, List.flatMap_append, ← h1 L' (hpre.trans hL')]
      simp only [List.flatMap_cons, List.flatMap_nil, List.append_nil]
      rw [pre_getD (hpre.trans hL') hi]
      exact (browN_form i (st.2.getD i []) st g.1.toNat L' hL').1
    · have hjl : j < st.2.length := by omega
      rw [pre_getD hpre hjl]
      by_cases e : j = i
      · subst e
        exact (browN_form j (st.2.getD j []) st g.1.toNat _ (List.prefix_refl _)).2 lab hlab
      · exact (h2 j (by omega) lab hlab).imp id fun h => hpre.subset h) 66 0 ([], [a]) st h ⟨fun L' _ => by simp, fun j hj => by omega, by simp, by simp, good_one ha, fun x hx => by rw [List.mem_singleton.1 hx]; exact hne, List.prefix_refl _, small_one a⟩
  have hkl : k = st.2.length := by omega
  subst hkl
  exact ⟨h1 _ (List.prefix_refl _), h2, h4, h5, h6, h7, h8.1, h8.2⟩

theorem buildR_cases {a : List Int} (ha : SetOk g a) (hne : a ≠ []) : buildR g a = ((0, 0, []), [], 4) ∨ ∃ E L, Sets g a E L ∧ brun g 66 0 ([], [a]) = some (E, L) ∧ buildR g a = ((g.1, (L.length : Int), E), L, 0) := by
  unfold buildR
  cases h : brun g 66 0 ([], [a]) with
  | none => exact .inl rfl
  | some st => exact .inr ⟨st.1, st.2, brun_sets ha hne h, rfl, rfl⟩

section
variable {a : List Int} {E : List Ed} {L : List (List Int)}
theorem Sets.mem (h : Sets g a E L) {e : Ed} : e ∈ E ↔ ∃ j lab : Nat, j < L.length ∧ lab < g.1.toNat ∧ stepL g (L.getD j []) (lab : Int) ≠ [] ∧ e = ((j : Int), (lab : Int), ((L.idxOf (stepL g (L.getD j []) (lab : Int)) : Nat) : Int)) := by
  rw [h.ed]
  simp only [List.mem_flatMap, List.mem_range, rowE, List.mem_filterMap]
  constructor
  · rintro ⟨j, hj, lab, hlab, he⟩
    split at he
    · cases he
    · rename_i hz
      exact ⟨j, lab, hj, hlab, hz, (Option.some.inj he).symm⟩
  · rintro ⟨j, lab, hj, hlab, hz, rfl⟩
    exact ⟨j, hj, lab, hlab, by rw [if_neg hz]⟩
theorem Sets.to_lt (h : Sets g a E L) {j lab : Nat} (hj : j < L.length) (hlab : lab < g.1.toNat) (hz : stepL g (L.getD j []) (lab : Int) ≠ []) : L.idxOf (stepL g (L.getD j []) (lab : Int)) < L.length := idxOf_lt ((h.clo j hj lab hlab).resolve_left hz)
theorem Sets.asc (h : Sets g a E L) : E.Pairwise fun x y => x.1 < y.1 ∨ x.1 = y.1 ∧ x.2.1 < y.2.1 := by
  rw [h.ed, List.pairwise_flatMap]
  refine ⟨fun j _ => ?_, ?_⟩
  · unfold rowE
    rw [List.pairwise_filterMap]
    refine List.Pairwise.imp (R := (· < ·)) ?_ (List.pairwise_lt_range (n := g.1.toNat))
    intro x y hxy e he e' he'
    split at he
    · cases he
    · split at he'
      · cases he'
      · cases he; cases he'
        exact .inr ⟨rfl, by dsimp only; omega⟩
  · refine List.Pairwise.imp (R := (· < ·)) ?_ (List.pairwise_lt_range (n := L.length))
    intro x y hxy e he e' he'
    unfold rowE at he he'
    obtain ⟨l1, _, he⟩ := List.mem_filterMap.1 he
    obtain ⟨l2, _, he'⟩ := List.mem_filterMap.1 he'
    split at he
    · cases he
    · split at he'
      · cases he'
      · cases he; cases he'
        exact .inl (by dsimp only; omega)
theorem cmp3_lt {x y : Ed} (h : x.1 < y.1 ∨ x.1 = y.1 ∧ x.2.1 < y.2.1) : cmp3 x y < 0 := by
  unfold cmp3
  rcases h with h | ⟨h1, h2⟩
  · rw [if_pos h]; decide
  · rw [if_neg (by omega), if_neg (by omega), if_pos h2]; decide
theorem Sets.vg (hv : VG g) (h : Sets g a E L) : VG (g.1, (L.length : Int), E) where
  l1 := hv.l1
  l2 := hv.l2
  s0 := by dsimp only; omega
  s1 := by have := h.s1; dsimp only; omega
  el := h.s2
  ed := fun x hx => by
    obtain ⟨j, lab, hj, hlab, hz, rfl⟩ := h.mem.1 hx
    have := h.to_lt hj hlab hz
    have := hv.l1
    dsimp only
    omega
  ord := fun i hi => cmp3_lt (List.pairwise_iff_getElem.1 h.asc i (i + 1) (by simp at hi; omega) hi (by omega))
theorem Sets.len_pos (h : Sets g a E L) : 0 < L.length := by have := h.hd.length_le; simp at this; omega
theorem Sets.zero (h : Sets g a E L) : L.getD 0 [] = a := by
  have := pre_getD h.hd (i := 0) (by simp)
  simpa using this
theorem Sets.at_idx (h : Sets g a E L) {x : List Int} (hx : x ∈ L) : L.getD (L.idxOf x) [] = x := by
  have hl := idxOf_lt hx
  rw [show L.getD (L.idxOf x) [] = L[L.idxOf x] by simp [List.getD, hl]]
  exact List.getElem_idxOf hl
theorem Sets.idx_at (h : Sets g a E L) {j : Nat} (hj : j < L.length) : L.idxOf (L.getD j []) = j := by
  rw [show L.getD j [] = L[j] by simp [List.getD, hj]]
  exact List.Nodup.idxOf_getElem h.nd j hj
end
end
end Go.AW

/- Graphs of sets: the words by which the sets were found. -/
namespace Go.AW
open Go
set_option linter.unusedSimpArgs false
set_option linter.unusedVariables false

def wfold (W : List (List Int)) (x : Ed) : List (List Int) := if x.2.2 = (W.length : Int) then W ++ [W.getD x.1.toNat [] ++ [x.2.1]] else W
def wordsQ (E : List Ed) : List (List Int) := E.foldl wfold [[]]
theorem wordsQ_snoc (E : List Ed) (x : Ed) : wordsQ (E ++ [x]) = wfold (wordsQ E) x := by simp [wordsQ, List.foldl_append]
theorem wfold_pre (W : List (List Int)) (x : Ed) : W <+: wfold W x := by
  unfold wfold
  split
  · exact List.prefix_append _ _
  · exact List.prefix_refl _
theorem foldW_pre : ∀ (E : List Ed) (W : List (List Int)), W <+: E.foldl wfold W
  | [], W => List.prefix_refl _
  | x :: E, W => (wfold_pre W x).trans (foldW_pre E _)
theorem wordsQ_app (E F : List Ed) : wordsQ E <+: wordsQ (E ++ F) := by
  unfold wordsQ
  rw [List.foldl_append]
  exact foldW_pre F _
theorem wordsQ_pos (E : List Ed) : 0 < (wordsQ E).length := by
  have := (foldW_pre E [[]]).length_le
  exact this

def endsI (g : Gr) (a : List Int) (w : List Int) : List Int := w.foldl (stepL g) a
theorem endsI_snoc (g : Gr) (a w : List Int) (c : Int) : endsI g a (w ++ [c]) = stepL g (endsI g a w) c := by simp [endsI, List.foldl_append]
def DO (E : List Ed) : Prop := ∀ E1 x E2, E = E1 ++ x :: E2 → 0 ≤ x.1 ∧ x.1 < ((wordsQ E1).length : Int) ∧ 0 ≤ x.2.2 ∧ x.2.2 ≤ ((wordsQ E1).length : Int)
theorem DO_nil : DO [] := fun E1 x E2 h => by
  have := congrArg List.length h
  simp at this
theorem DO_snoc {E : List Ed} {x : Ed} (h : DO E) (hx : 0 ≤ x.1 ∧ x.1 < ((wordsQ E).length : Int) ∧ 0 ≤ x.2.2 ∧ x.2.2 ≤ ((wordsQ E).length : Int)) : DO (E ++ [x]) := fun E1 y E2 he => by
  rcases List.eq_nil_or_concat E2 with rfl | ⟨E3, z, rfl⟩
  · obtain ⟨h1, h2⟩ := List.append_inj' he rfl
    cases h2
    rw [← h1]; exact hx
  · rw [List.concat_eq_append] at he
    have he' : E ++ [x] = (E1 ++ y :: E3) ++ [z] := by rw [he]; simp
    exact h E1 y E3 (List.append_inj' he' rfl).1

section
variable {g : Gr}
structure Disc (g : Gr) (a : List Int) (st : BS) : Prop where
  len : (wordsQ st.1).length = st.2.length
  ord : DO st.1
  ends : ∀ j, j < st.2.length → endsI g a ((wordsQ st.1).getD j []) = st.2.getD j []
  size : ∀ j, j < (wordsQ st.1).length → ((wordsQ st.1).getD j []).length ≤ j
  labs : ∀ w ∈ wordsQ st.1, ∀ c ∈ w, 0 ≤ c ∧ c < g.1

theorem disc_one (a : List Int) : Disc g a ([], [a]) where
  len := rfl
  ord := DO_nil
  ends := fun j hj => by
    have : j = 0 := by simp at hj; omega
    subst this; rfl
  size := fun j hj => by
    have : j = 0 := by simp [wordsQ] at hj; omega
    subst this; simp [wordsQ]
  labs := fun w hw c hc => by
    have : w = [] := by simpa [wordsQ] using hw
    subst this; cases hc

theorem getD_app_lt {α : Type} {l m : List α} {d : α} {j : Nat} (h : j < l.length) : (l ++ m).getD j d = l.getD j d := by
  simp [List.getD, List.getElem?_append_left h]
theorem getD_app_len {α : Type} (l : List α) (x d : α) : (l ++ [x]).getD l.length d = x := by simp [List.getD]
theorem getD_mem {α : Type} {l : List α} {d : α} {j : Nat} (h : j < l.length) : l.getD j d ∈ l := by
  rw [show l.getD j d = l[j] by simp [List.getD, h]]; exact List.getElem_mem h

theorem Disc.step {a : List Int} {st : BS} (h : Disc g a st) {i n : Nat} (hi : i < st.2.length) (hn : (n : Int) < g.1) : Disc g a (bstep g i (st.2.getD i []) st n) := by
  unfold bstep
  by_cases hz : stepL g (st.2.getD i []) (n : Int) = []
  · rw [if_pos hz]; exact h
  · rw [if_neg hz]
    have hlen := h.len
    by_cases hm : stepL g (st.2.getD i []) (n : Int) ∈ st.2
    · rw [if_pos hm]
      have hlt := idxOf_lt hm
      have hw : wordsQ (st.1 ++ [((i : Int), (n : Int), ((st.2.idxOf (stepL g (st.2.getD i []) (n : Int)) : Nat) : Int))]) = wordsQ st.1 := by
        rw [wordsQ_snoc]
        unfold wfold
        rw [if_neg (by dsimp only; omega)]
      exact ⟨by dsimp only; rw [hw]; exact hlen, DO_snoc h.ord (by dsimp only; omega), by dsimp only; rw [hw]; exact h.ends, by dsimp only; rw [hw]; exact h.size, by dsimp only; rw [hw]; exact h.labs⟩
    · rw [if_neg hm, idxOf_no hm]
      have hw : wordsQ (st.1 ++ [((i : Int), (n : Int), ((st.2.length : Nat) : Int))]) = wordsQ st.1 ++ [(wordsQ st.1).getD i [] ++ [(n : Int)]] := by
        rw [wordsQ_snoc]
        unfold wfold
        rw [if_pos (by dsimp only; omega)]
        simp
      refine ⟨by dsimp only; rw [hw]; simp [hlen], DO_snoc h.ord (by dsimp only; omega), ?_, ?_, ?_⟩
      · dsimp only
        rw [hw]
        intro j hj
        simp only [List.length_append, List.length_cons, List.length_nil] at hj
        by_cases hjl : j < st.2.length
        · rw [getD_app_lt (by omega), getD_app_lt hjl]; exact h.ends j hjl
        · have e : j = st.2.length := by omega
          subst e
          rw [getD_app_len]
          have := getD_app_len (wordsQ st.1) ((wordsQ st.1).getD i [] ++ [(n : Int)]) []
          rw [hlen] at this
          rw [this, endsI_snoc, h.ends i hi]
      · dsimp only
        rw [hw]
        intro j hj
        simp only [List.length_append, List.length_cons, List.length_nil] at hj
        by_cases hjl : j < (wordsQ st.1).length
        · rw [getD_app_lt hjl]; exact h.size j hjl
        · have e : j = (wordsQ st.1).length := by omega
          subst e
          rw [getD_app_len]
          have := h.size i (by omega)
          simp only [List.length_append, List.length_cons, List.length_nil]
          omega
      · dsimp only
        rw [hw]
        intro w hw c hc
        rcases List.mem_append.1 hw with hw | hw
        · exact h.labs w hw c hc
        · rw [List.mem_singleton.1 hw] at hc
          rcases List.mem_append.1 hc with hc | hc
          · exact h.labs _ (getD_mem (by omega)) c hc
          · rw [List.mem_singleton.1 hc]; omega
theorem Disc.row {a : List Int} {st : BS} (h : Disc g a st) {i : Nat} (hi : i < st.2.length) : ∀ n : Nat, (n : Int) ≤ g.1 → Disc g a (browN g i (st.2.getD i []) n st)
  | 0, _ => h
  | n + 1, hn => by
    have ih := Disc.row h hi n (by omega)
    have hp := (browN_grow (g := g) i (st.2.getD i []) st n).2.1
    have hle := hp.length_le
    have := ih.step (i := i) (n := n) (by omega) (by omega)
    rw [pre_getD hp hi] at this
    rw [browN_succ]
    exact this

def below (j : Nat) (E : List Ed) : List Ed := E.filter fun x => decide (x.1 < (j : Int))
structure Found (g : Gr) (a : List Int) (E : List Ed) (L : List (List Int)) : Prop where
  disc : Disc g a (E, L)
  asc : E.Pairwise fun x y => x.1 ≤ y.1
  row : ∀ j, j < L.length → j < (wordsQ (below j E)).length

theorem rowE_from {i : Nat} {a : List Int} {L : List (List Int)} {n : Nat} {x : Ed} (h : x ∈ rowE g i a L n) : x.1 = (i : Int) := by
  unfold rowE at h
  obtain ⟨l, _, h⟩ := List.mem_filterMap.1 h
  split at h
  · cases h
  · cases h; rfl

theorem brun_found (hv : VG g) {a : List Int} {E : List Ed} {L : List (List Int)} (h : brun g 66 0 ([], [a]) = some (E, L)) : Found g a E L := by
  have hl1 := hv.l1
  obtain ⟨k, ⟨h1, h2, h3, h4, h5⟩, hk⟩ := brun_ind (g := g) (P := fun i st => Disc g a st ∧ (∀ x ∈ st.1, 0 ≤ x.1 ∧ x.1 < (i : Int)) ∧ (st.1.Pairwise fun x y => x.1 ≤ y.1) ∧ (∀ j, j ≤ i → j < st.2.length → j < (wordsQ (below j st.1)).length) ∧ i ≤ st.2.length) (fun i st ⟨h1, h2, h3, h4, h5⟩ hi hsm => by
    have hd : Disc g a (brow g i st) := h1.row hi _ (by omega)
    have hlen := (browN_grow (g := g) i (st.2.getD i []) st g.1.toNat).2.1.length_le
    have hform : (brow g i st).1 = st.1 ++ rowE g i (st.2.getD i []) (brow g i st).2 g.1.toNat := (browN_form i (st.2.getD i []) st g.1.toNat _ (List.prefix_refl _)).1
    have hin : ∀ x ∈ (brow g i st).1, 0 ≤ x.1 ∧ x.1 < ((i + 1 : Nat) : Int) := fun x hx => by
      rw [hform] at hx
      rcases List.mem_append.1 hx with hx | hx
      · have := h2 x hx; omega
      · rw [rowE_from hx]; omega
    refine ⟨hd, hin, ?_, fun j hj hjl => ?_, by unfold brow; omega⟩
    · rw [hform, List.pairwise_append]
      refine ⟨h3, ?_, fun x hx y hy => ?_⟩
      · exact List.pairwise_of_forall_mem_list fun x hx y hy => by rw [rowE_from hx, rowE_from hy]; exact Int.le_refl _
      · rw [rowE_from hy]; have := h2 x hx; omega
    · by_cases e : j = i + 1
      · subst e
        have hb : below (i + 1) (brow g i st).1 = (brow g i st).1 := List.filter_eq_self.2 fun x hx => decide_eq_true (hin x hx).2
        rw [hb, hd.len]
        exact hjl
      · have hb : below j (brow g i st).1 = below j st.1 := by
          unfold below
          rw [hform, List.filter_append]
          have : (rowE g i (st.2.getD i []) (brow g i st).2 g.1.toNat).filter (fun x => decide (x.1 < (j : Int))) = [] := List.filter_eq_nil_iff.2 fun x hx => by
            rw [rowE_from hx]; simp; omega
          rw [this, List.append_nil]
        rw [hb]
        exact h4 j (by omega) (by omega)) 66 0 ([], [a]) (E, L) h ⟨disc_one a, fun x hx => by simp at hx, List.Pairwise.nil, fun j hj _ => by
      have : j = 0 := by omega
      subst this; exact wordsQ_pos _, by simp⟩
  have h5 : k ≤ L.length := h5
  have hk : L.length ≤ k := hk
  exact ⟨h1, h3, fun j hj => h4 j (by omega) hj⟩

theorem below_succ {i : Nat} : ∀ {E : List Ed}, (E.Pairwise fun x y => x.1 ≤ y.1) → below (i + 1) E = below i E ++ E.filter fun x => decide (x.1 = (i : Int))
  | [], _ => rfl
  | x :: E, h => by
    obtain ⟨h1, h2⟩ := List.pairwise_cons.1 h
    have ih := below_succ (i := i) h2
    unfold below at ih ⊢
    by_cases c1 : x.1 < (i : Int)
    · rw [List.filter_cons_of_pos (by simp; omega), List.filter_cons_of_pos (by simp; omega), List.filter_cons_of_neg (by simp; omega), ih, List.cons_append]
    · have hnil : E.filter (fun y => decide (y.1 < (i : Int))) = [] := List.filter_eq_nil_iff.2 fun y hy => by
        have := h1 y hy
        simp; omega
      rw [hnil, List.nil_append] at ih
      have e1 : (x :: E).filter (fun y => decide (y.1 < (i : Int))) = [] := by rw [List.filter_cons_of_neg (by simpa using c1), hnil]
      rw [e1, List.nil_append]
      by_cases c2 : x.1 = (i : Int)
      · rw [List.filter_cons_of_pos (by simp; omega), List.filter_cons_of_pos (by simpa using c2), ih]
      · rw [List.filter_cons_of_neg (by simp; omega), List.filter_cons_of_neg (by simpa using c2), ih]
theorem below_pre {i : Nat} : ∀ {E : List Ed}, (E.Pairwise fun x y => x.1 ≤ y.1) → below i E <+: E
  | [], _ => List.prefix_refl _
  | x :: E, h => by
    obtain ⟨h1, h2⟩ := List.pairwise_cons.1 h
    have ih := below_pre (i := i) h2
    unfold below at ih ⊢
    by_cases c1 : x.1 < (i : Int)
    · rw [List.filter_cons_of_pos (by simpa using c1)]
      exact List.cons_prefix_cons.2 ⟨rfl, ih⟩
    · have hnil : E.filter (fun y => decide (y.1 < (i : Int))) = [] := List.filter_eq_nil_iff.2 fun y hy => by
        have := h1 y hy
        simp; omega
      rw [List.filter_cons_of_neg (by simpa using c1), hnil]
      exact List.nil_prefix
theorem wordsQ_below {i : Nat} {E : List Ed} (h : E.Pairwise fun x y => x.1 ≤ y.1) : wordsQ (below i E) <+: wordsQ E := by
  obtain ⟨r, hr⟩ := below_pre (i := i) h
  conv => rhs; rw [← hr]
  exact wordsQ_app _ _
end
end Go.AW

/- Graphs of sets: the first focus. -/
namespace Go.AW
open Go
set_option linter.unusedSimpArgs false
set_option linter.unusedVariables false

section
variable {g : Gr}
def oneB (x : List Int) : Bool := decide (x.length = 1)
def focusR (E : List Ed) (L : List (List Int)) : List Int × Int × Bool × Int := match L.findIdx? oneB with
  | none => ([], 0, false, 0)
  | some i => ((wordsQ E).getD i [], (L.getD i []).getD 0 0, true, 0)
def focusE (g : Gr) (e : Int) : List Int × Int × Bool × Int := if (buildE g e).2.2 ≠ 0 ∨ (buildE g e).1.2.1 = 0 then ([], 0, false, (buildE g e).2.2) else focusR (buildE g e).1.2.2 (buildE g e).2.1

theorem set_next {α : Type} (W : List α) {n : Nat} (x d : α) (h : W.length < n) : (W ++ List.replicate (n - W.length) d).set W.length x = (W ++ [x]) ++ List.replicate (n - (W ++ [x]).length) d := by
  obtain ⟨k, rfl⟩ : ∃ k, n = W.length + 1 + k := ⟨n - W.length - 1, by omega⟩
  rw [show W.length + 1 + k - W.length = k + 1 by omega, List.replicate_succ, List.set_append_right _ _ (Nat.le_refl _)]
  simp only [Nat.sub_self, List.set_cons_zero, List.length_append, List.length_cons, List.length_nil, List.append_assoc, List.singleton_append]
  rw [show W.length + 1 + k - (W.length + (0 + 1)) = k by omega]

theorem upto_ne {n : Int} (h : 0 < n) : upto n ≠ [] := fun e => by
  have := upto_len n
  rw [e] at this
  simp at this
  omega

theorem Focus_eq {e : Int} (he : m_ref09_Check g = some e) (hz : e = 0 ↔ VG g) : m_subset_Focus g = some (focusE g e) := by
  unfold m_subset_Focus
  rw [Build_eq he hz, Option.bind_some]
  unfold focusE
  simp only [jp]
  by_cases hb : (buildE g e).2.2 = 0
  case neg => rw [if_pos hb, if_pos trivial, if_pos (.inl hb)]
  rw [if_neg (by simpa using hb)]
  by_cases hs : (buildE g e).1.2.1 = 0
  case pos => rw [if_pos (decide_eq_true hs), if_pos (.inr hs)]
  rw [if_neg (show ¬ decide ((buildE g e).1.2.1 = 0) = true by simpa using hs), if_neg (show ¬ ((buildE g e).2.2 ≠ 0 ∨ (buildE g e).1.2.1 = 0) from fun h => h.elim (fun h => h hb) hs)]
  -- a graph of sets
  have h0 : e = 0 := by
    apply Classical.byContradiction
    intro h
    unfold buildE at hb
    rw [if_pos h] at hb
    cases hb
  have hv := hz.1 h0
  have hne : g.2.1 ≠ 0 := fun h => by
    unfold buildE buildG at hs
    rw [if_neg (show ¬ e ≠ 0 from fun h => h h0), if_pos h] at hs
    exact hs rfl
  have hpos : 0 < g.2.1 := by have := hv.s0; omega
  have hbe : buildE g e = buildR g (upto g.2.1) := by
    unfold buildE buildG
    rw [if_neg (show ¬ e ≠ 0 from fun h => h h0), if_neg hne]
  rcases buildR_cases (upto_ok g) (upto_ne hpos) with h | ⟨E, L, hS, hrun, h⟩
  · rw [hbe, h] at hb; cases hb
  have hF := brun_found hv hrun
  rw [hbe, h]
  dsimp only
  have hL := hS.s1
  have hE := hS.s2
  have hlenW : (wordsQ E).length = L.length := hF.disc.len
  rw [if_pos (by omega)]
  simp only [Int.toNat_natCast]
  refine lpN (fun x => x = match L.findIdx? oneB with
      | none => Ou.go ()
      | some i => Ou.ret ((wordsQ E).getD i [], (L.getD i []).getD 0 0, true, (0 : Int)))
    (loopN L.length (fun i s => s = ((i : Int), (((wordsQ (below i E)).length : Nat) : Int), wordsQ (below i E) ++ List.replicate (L.length - (wordsQ (below i E)).length) []) ∧ ∀ j, j < i → oneB (L.getD j []) = false)
      (fun i s hi hI => ?_) (fun s hI => ?_) 0 _ (Nat.zero_le _) ⟨?_, fun j hj => by omega⟩) fun x hx => ?_
  · obtain ⟨rfl, hno⟩ := hI
    have hgd : L.getD i [] = L[i] := by simp [List.getD, hi]
    have hpre := wordsQ_below (i := i) hF.asc
    have hple := hpre.length_le
    have hrow := hF.row i hi
    dsimp only
    rw [if_pos (by omega), ix hi]
    simp only [Option.bind_some]
    have hil : i < (wordsQ (below i E) ++ List.replicate (L.length - (wordsQ (below i E)).length) []).length := by simp; omega
    by_cases h1 : L[i].length = 1
    · refine .inr ⟨_, ?_, rfl⟩
      have hf : L.findIdx? oneB = some i := List.findIdx?_eq_some_iff_getElem.2 ⟨hi, decide_eq_true h1, fun j hj => by
        have := hno j hj
        rw [show L.getD j [] = L[j]'(by omega) by simp [List.getD, show j < L.length by omega]] at this
        simp [this]⟩
      rw [if_pos (by omega), ix hil]
      simp only [Option.bind_some]
      rw [ix0 (by omega : 0 < L[i].length), hf]
      simp only [Option.bind_some]
      have e1 : (wordsQ (below i E) ++ List.replicate (L.length - (wordsQ (below i E)).length) [])[i] = (wordsQ E).getD i [] := by
        rw [List.getElem_append_left hrow, pre_getD hpre hrow]
        simp [List.getD, hrow]
      have e2 : (L.getD i []).getD 0 0 = L[i][0] := by rw [hgd]; simp [List.getD, h1]
      rw [e1, e2]
    · refine .inl ?_
      rw [if_neg (by omega)]
      refine ⟨((((i + 1 : Nat) : Int)), (((wordsQ (below (i + 1) E)).length : Nat) : Int), wordsQ (below (i + 1) E) ++ List.replicate (L.length - (wordsQ (below (i + 1) E)).length) []), ?_, rfl, fun j hj => ?_⟩
      case refine_2 =>
        by_cases hji : j = i
        · subst hji; rw [hgd]; exact decide_eq_false h1
        · exact hno j (by omega)
      -- the edges
      have hstep : wordsQ (below (i + 1) E) = (E.filter fun x => decide (x.1 = (i : Int))).foldl wfold (wordsQ (below i E)) := by
        rw [below_succ hF.asc]
        unfold wordsQ
        rw [List.foldl_append]
      let V : Nat → List (List Int) := fun k => ((E.take k).filter fun x => decide (x.1 = (i : Int))).foldl wfold (wordsQ (below i E))
      have hVle : ∀ k, (V k).length ≤ L.length := fun k => by
        have h1 : V k <+: wordsQ (below (i + 1) E) := by
          rw [hstep]
          have : (E.filter fun x => decide (x.1 = (i : Int))) = ((E.take k).filter fun x => decide (x.1 = (i : Int))) ++ (E.drop k).filter fun x => decide (x.1 = (i : Int)) := by rw [← List.filter_append, List.take_append_drop]
          rw [this, List.foldl_append]
          exact foldW_pre _ _
        have h2 := (wordsQ_below (i := i + 1) hF.asc).length_le
        have := h1.length_le
        omega
      have hVge : ∀ k, wordsQ (below i E) <+: V k := fun k => foldW_pre _ _
      have hVs : ∀ k (hk : k < E.length), V (k + 1) = if E[k].1 = (i : Int) then wfold (V k) E[k] else V k := fun k hk => by
        show ((E.take (k + 1)).filter _).foldl wfold _ = _
        rw [List.take_add_one, List.getElem?_eq_getElem hk]
        simp only [Option.toList_some, List.filter_append, List.foldl_append]
        by_cases hc : E[k].1 = (i : Int)
        · rw [if_pos hc, List.filter_cons_of_pos (by simpa using hc)]; rfl
        · rw [if_neg hc, List.filter_cons_of_neg (by simpa using hc)]; rfl
      refine bindL (loop_is (fun k => ((((V k).length : Nat) : Int), (k : Int), V k ++ List.replicate (L.length - (V k).length) [])) E.length (wordsQ (below (i + 1) E) ++ List.replicate (L.length - (wordsQ (below (i + 1) E)).length) [], (((wordsQ (below (i + 1) E)).length : Nat) : Int)) (fun k hk => ?_) ?_ rfl) ?_
      · dsimp only
        rw [if_pos (lt_int hk), ix hk]
        simp only [Option.bind_some, nx (by omega : E.length ≤ _) hk]
        rw [hVs k hk]
        have hmem := hS.mem.1 (List.getElem_mem hk)
        obtain ⟨j, lab, hj, hlab, hnz, hx⟩ := hmem
        have hto := hS.to_lt hj hlab hnz
        by_cases c1 : E[k].1 = (i : Int)
        · rw [if_pos c1, if_pos c1]
          by_cases c2 : E[k].2.2 = (((V k).length : Nat) : Int)
          · have hlt : (V k).length < L.length := by
              rw [hx] at c2
              dsimp only at c2
              omega
            have hVk := (hVge k).length_le
            have hik : i < (V k ++ List.replicate (L.length - (V k).length) []).length := by simp; omega
            have hnk : (V k).length < (V k ++ List.replicate (L.length - (V k).length) ([] : List Int)).length := by simp; omega
            have ei : (V k ++ List.replicate (L.length - (V k).length) [])[i] = (wordsQ E).getD i [] := by
              rw [List.getElem_append_left (by omega), pre_getD hpre hrow]
              have := pre_getD (hVge k) hrow
              rw [← this]
              simp [List.getD, show i < (V k).length by omega]
            have eV : (V k).getD i [] = (wordsQ E).getD i [] := by rw [pre_getD (hVge k) hrow, pre_getD hpre hrow]
            have hsz := hF.disc.size i (by show i < (wordsQ E).length; omega)
            have hsz : ((wordsQ E).getD i []).length ≤ i := hsz
            rw [if_pos (decide_eq_true c2), ix hik]
            simp only [Option.bind_some]
            rw [ei, cloneI_eq (by omega), Option.bind_some, if_pos (fits_le (by simp at hsz ⊢; omega) (by simp at hsz ⊢; omega)), ix hnk]
            simp only [Option.bind_some, Int.toNat_natCast]
            rw [set_next _ _ _ hlt]
            have hw : wfold (V k) E[k] = V k ++ [(wordsQ E).getD i [] ++ [E[k].2.1]] := by
              unfold wfold
              rw [if_pos c2, c1]
              simp only [Int.toNat_natCast]
              rw [eV]
            rw [hw, w64 (by omega) (by omega)]
            simp only [List.length_append, List.length_cons, List.length_nil]
            congr 3
          · rw [if_neg (by simpa using c2)]
            have hw : wfold (V k) E[k] = V k := by unfold wfold; rw [if_neg c2]
            rw [hw]
        · rw [if_neg c1, if_neg c1, if_neg (by decide)]
      · dsimp only
        rw [if_neg (not_lt_int _)]
        have : V E.length = wordsQ (below (i + 1) E) := by
          show ((E.take E.length).filter _).foldl wfold _ = _
          rw [List.take_length, hstep]
        rw [this]
      · dsimp only
        rw [nx (by omega : L.length ≤ _) hi]
  · obtain ⟨rfl, hno⟩ := hI
    dsimp only
    rw [if_neg (by omega)]
    have hf : L.findIdx? oneB = none := List.findIdx?_eq_none_iff.2 fun x hx => by
      obtain ⟨j, hj, rfl⟩ := List.getElem_of_mem hx
      have := hno j hj
      rwa [show L.getD j [] = L[j] by simp [List.getD, hj]] at this
    rw [hf]
    exact ⟨_, rfl, rfl⟩
  · have hb0 : below 0 E = [] := List.filter_eq_nil_iff.2 fun x hx => by
      obtain ⟨j, lab, hj, hlab, hnz, rfl⟩ := hS.mem.1 hx
      simp
    have hlp := hS.len_pos
    rw [hb0]
    obtain ⟨m, hm⟩ : ∃ m, L.length = m + 1 := ⟨L.length - 1, by omega⟩
    rw [hm]
    simp [wordsQ, List.replicate_succ]
  · rw [hx]
    unfold focusR
    cases hf : L.findIdx? oneB with
    | none => rfl
    | some i => rfl
end
end Go.AW

/- Integers: digits to the base 2^32, bytes. -/
namespace Go.AW
open Go
set_option linter.unusedSimpArgs false
set_option linter.unusedVariables false

theorem wu8 (n : Int) : IntKind.wrap .u8 n = n % 256 := by simp [IntKind.wrap, IntKind.bits, IntKind.signed]
theorem wu32 (n : Int) : IntKind.wrap .u32 n = n % 4294967296 := by simp [IntKind.wrap, IntKind.bits, IntKind.signed]
theorem wu64 (n : Int) : IntKind.wrap .u64 n = n % 18446744073709551616 := by simp [IntKind.wrap, IntKind.bits, IntKind.signed]

theorem loopW_to {S X : Type} {body : S → Option (Stp S X)} {x0 : X} (I : S → Prop) (m : S → Nat) (step : ∀ s, I s → (∃ s', body s = some (.next s') ∧ I s' ∧ m s' < m s) ∨ body s = some (.exit x0)) {s : S} (hI : I s) : loopW body s = some x0 := by
  obtain ⟨x, hx, rfl⟩ := loopW_inv I m (fun x => x = x0) (fun s hs => (step s hs).imp id fun h => ⟨_, h, rfl⟩) s hI
  exact hx

def be (n : Nat) : List UInt8 := if n = 0 then [] else be (n / 256) ++ [UInt8.ofNat n]
termination_by n
decreasing_by omega

theorem be0 : be 0 = [] := by rw [be]; simp
theorem be_step (m c : Nat) (hc : c < 256) (h : ¬ (m = 0 ∧ c = 0)) : be (256 * m + c) = be m ++ [UInt8.ofNat c] := by
  rw [be, if_neg (by omega), show (256 * m + c) / 256 = m by omega]
  congr 2
  apply UInt8.toNat_inj.1
  simp
theorem be_nil {n : Nat} : be n = [] ↔ n = 0 := by
  constructor
  · intro h
    rw [be] at h
    by_cases e : n = 0
    · exact e
    · rw [if_neg e] at h; simp at h
  · rintro rfl; exact be0
theorem be_pos {n : Nat} (h : n ≠ 0) : 0 < (be n).length := List.length_pos_iff.2 fun e => h (be_nil.1 e)

def valB (l : List UInt8) : Nat := l.foldl (fun a b => 256 * a + b.toNat) 0
theorem valB_app (l : List UInt8) (b : UInt8) : valB (l ++ [b]) = 256 * valB l + b.toNat := by simp [valB]
theorem valB_be (n : Nat) : valB (be n) = n := by
  induction n using Nat.strongRecOn with
  | _ n ih =>
    rw [be]
    by_cases e : n = 0
    · simp [e, valB]
    · rw [if_neg e, valB_app, ih (n / 256) (by omega)]
      simp
      omega
theorem be_len {n : Nat} : ∀ k, n < 256 ^ k → (be n).length ≤ k
  | 0, h => by
    have : n = 0 := by simpa using h
    rw [this, be0]; simp
  | k + 1, h => by
    rw [be]
    by_cases e : n = 0
    · simp [e]
    · rw [if_neg e, List.length_append]
      have := be_len (n := n / 256) k (by rw [Nat.pow_succ] at h; omega)
      simp
      omega
def valN : List Int → Nat
  | [] => 0
  | d :: l => d.toNat + 4294967296 * valN l
def wfN (x : List Int) : Prop := ∀ d ∈ x, 0 ≤ d ∧ d < 4294967296
theorem valN_zeros : ∀ (x : List Int), (∀ d ∈ x, d = 0) → valN x = 0
  | [], _ => rfl
  | d :: l, h => by
    have h0 := h d (by simp)
    subst h0
    simp [valN, valN_zeros l fun d hd => h d (by simp [hd])]
theorem valN_app : ∀ (x y : List Int), valN (x ++ y) = valN x + 4294967296 ^ x.length * valN y
  | [], y => by simp [valN]
  | d :: l, y => by
    simp only [List.cons_append, valN, valN_app l y, List.length_cons, Nat.pow_succ]
    rw [Nat.mul_add]
    have : 4294967296 ^ l.length * 4294967296 * valN y = 4294967296 * (4294967296 ^ l.length * valN y) := by rw [Nat.mul_comm (4294967296 ^ l.length), Nat.mul_assoc]
    omega
theorem valN_lt : ∀ {x : List Int}, wfN x → valN x < 4294967296 ^ x.length
  | [], _ => by simp [valN]
  | d :: l, h => by
    have h0 := h d (by simp)
    have := valN_lt (x := l) fun d hd => h d (by simp [hd])
    simp only [valN, List.length_cons, Nat.pow_succ]
    omega

theorem trim_eq : ∀ (n : Nat) (x : List Int), x.length = n → x.length ≤ 9223372036854775807 → ∃ y k, m_integer_trim x = some y ∧ x = y ++ List.replicate k 0 ∧ (y = [] ∨ ∃ z d, y = z ++ [d] ∧ d ≠ 0) := by
  intro n
  induction n with
  | zero =>
    intro x hx _
    have : x = [] := List.length_eq_zero_iff.1 hx
    subst this
    refine ⟨[], 0, ?_, rfl, .inl rfl⟩
    unfold m_integer_trim
    rw [loopW_eq]
    simp [jp]
  | succ n ih =>
    intro x hx hm
    obtain ⟨z, d, rfl⟩ : ∃ z d, x = z ++ [d] := ⟨x.dropLast, x.getLast (by intro e; simp [e] at hx), (List.dropLast_concat_getLast _).symm⟩
    simp only [List.length_append, List.length_cons, List.length_nil, Nat.zero_add] at hx hm
    have hw : IntKind.wrap .i64 (((z ++ [d]).length : Int) - 1) = (z.length : Int) := by
      rw [w64 (by simp only [List.length_append, List.length_cons, List.length_nil]; omega) (by simp only [List.length_append, List.length_cons, List.length_nil]; omega)]
      simp only [List.length_append, List.length_cons, List.length_nil]; omega
    have hi : idx (z ++ [d]) ((z.length : Nat) : Int) = some d := by
      unfold idx
      rw [if_pos (by omega)]
      simp
    by_cases h0 : d = 0
    · subst h0
      obtain ⟨y, k, h1, h2, h3⟩ := ih z (by omega) (by omega)
      refine ⟨y, k + 1, ?_, ?_, h3⟩
      · rw [← h1]
        unfold m_integer_trim
        rw [loopW_eq]
        simp only [jp, hw, hi, Option.bind_some]
        rw [if_pos (by simp)]
        simp only [decide_true, if_true]
        rw [if_pos (by simp; omega)]
        have ht : (((z ++ [(0 : Int)]).take ((z.length : Nat) : Int).toNat).drop (0 : Int).toNat) = z := by simp
        simp only [ht]
      · rw [h2, List.append_assoc]
        congr 1
        rw [show ([(0 : Int)] : List Int) = List.replicate 1 0 from rfl, List.replicate_append_replicate]
    · refine ⟨z ++ [d], 0, ?_, by simp, .inr ⟨z, d, rfl, h0⟩⟩
      unfold m_integer_trim
      rw [loopW_eq]
      simp only [jp, hw, hi, Option.bind_some]
      rw [if_pos (by simp)]
      simp [h0]

theorem trim_spec {x : List Int} (hw : wfN x) (hm : x.length ≤ 9223372036854775807) : ∃ y, m_integer_trim x = some y ∧ valN y = valN x ∧ wfN y ∧ y.length ≤ x.length ∧ (y = [] ↔ valN x = 0) := by
  obtain ⟨y, k, h1, h2, h3⟩ := trim_eq _ x rfl hm
  have hv : valN y = valN x := by
    rw [h2, valN_app, valN_zeros (List.replicate k 0) (fun d hd => (List.mem_replicate.1 hd).2)]
    simp
  have hwy : wfN y := fun d hd => hw d (by rw [h2]; simp [hd])
  refine ⟨y, h1, hv, hwy, by rw [h2]; simp, ?_⟩
  constructor
  · rintro rfl; rw [← hv]; rfl
  · intro h
    rcases h3 with h3 | ⟨z, d, rfl, hd⟩
    · exact h3
    · exfalso
      have h4 := hwy d (by simp)
      rw [← hv, valN_app] at h
      have h5 : valN [d] = 0 := by
        rcases Nat.mul_eq_zero.1 (by omega : 4294967296 ^ z.length * valN [d] = 0) with h6 | h6
        · have := Nat.pow_pos (n := z.length) (show 0 < 4294967296 by decide); omega
        · exact h6
      simp only [valN] at h5
      omega

def bI (l : List UInt8) : List Int := l.map fun c => (c.toNat : Int)
theorem bI_back (l : List UInt8) : (bI l).map (fun n => UInt8.ofNat n.toNat) = l := by
  unfold bI
  rw [List.map_map]
  exact (List.map_congr_left fun c _ => by simp).trans (List.map_id l)
theorem bI_len (l : List UInt8) : (bI l).length = l.length := List.length_map _

theorem byte_at (xi m : Nat) (h : m < 4) : IntKind.wrap .u8 (Int.fdiv (xi : Int) (2 ^ (min ((IntKind.wrap .i64 (8 * (m : Int)))).toNat (IntKind.bits .u32)))) = ((xi / 256 ^ m % 256 : Nat) : Int) := by
  rw [wu8, w64 (by omega) (by omega)]
  have hm : m = 0 ∨ m = 1 ∨ m = 2 ∨ m = 3 := by omega
  rcases hm with rfl | rfl | rfl | rfl
  · have : (2 : Int) ^ (min ((8 * ((0 : Nat) : Int))).toNat (IntKind.bits .u32)) = 1 := by decide
    rw [this, Int.fdiv_eq_ediv_of_nonneg _ (by omega)]; omega
  · have : (2 : Int) ^ (min ((8 * ((1 : Nat) : Int))).toNat (IntKind.bits .u32)) = 256 := by decide
    rw [this, Int.fdiv_eq_ediv_of_nonneg _ (by omega)]; omega
  · have : (2 : Int) ^ (min ((8 * ((2 : Nat) : Int))).toNat (IntKind.bits .u32)) = 65536 := by decide
    rw [this, Int.fdiv_eq_ediv_of_nonneg _ (by omega)]; omega
  · have : (2 : Int) ^ (min ((8 * ((3 : Nat) : Int))).toNat (IntKind.bits .u32)) = 16777216 := by decide
    rw [this, Int.fdiv_eq_ediv_of_nonneg _ (by omega)]; omega

theorem byte_low {N xi H m : Nat} (h : m < 4) (hN : N = xi + 4294967296 * H) : N / 256 ^ m % 256 = xi / 256 ^ m % 256 := by
  have hm : m = 0 ∨ m = 1 ∨ m = 2 ∨ m = 3 := by omega
  rcases hm with rfl | rfl | rfl | rfl <;> omega

theorem fits1 {n : Nat} (h : n ≤ 35184372088832) : fits 1 n := by
  unfold fits
  simp only [maxLen]
  omega

theorem bytes_loop {x2 : List Int} {i : Int} {xi : Nat} (hi : idx x2 i = some (xi : Int)) {N H K : Nat} (hx : xi < 4294967296) (hN : N = xi + 4294967296 * H) (hK : N < 256 ^ K) (hK2 : K ≤ 35184372088830) :
    loopW (S := Int × (List Int)) (X := (List Int)) (fun a10 =>
                if 0 ≤ a10.1 then
                  jp (fun (a14 : (List Int)) =>
                    some (Stp.next (IntKind.wrap .i64 (a10.1 - 1), a14)))
                    fun k16 =>
                    (idx x2 i).bind fun x17 =>
                    if 0 ≤ (IntKind.wrap .i64 (8 * a10.1)) then
                      jp (fun (a20 : Bool) =>
                        if a20 = true then
                          if fits 1 ((a10.2 : List Int).length + ([IntKind.wrap .u8 (Int.fdiv x17 (2 ^ (min ((IntKind.wrap .i64 (8 * a10.1))).toNat (IntKind.bits .u32))))]).length) then
                            k16 (a10.2 ++ [IntKind.wrap .u8 (Int.fdiv x17 (2 ^ (min ((IntKind.wrap .i64 (8 * a10.1))).toNat (IntKind.bits .u32))))])
                          else none
                        else
                          k16 a10.2)
                        fun k22 =>
                        if (IntKind.wrap .u8 (Int.fdiv x17 (2 ^ (min ((IntKind.wrap .i64 (8 * a10.1))).toNat (IntKind.bits .u32))))) ≠ 0 then
                          k22 true
                        else
                          k22 (decide (0 < (((a10.2).length : Nat) : Int)))
                    else none
                else
                  some (Stp.exit a10.2)) (3, bI (be H)) = some (bI (be N)) := by
  have hle : ∀ M, M ≤ N → (be M).length ≤ K := fun M hM => be_len K (by omega)
  refine loopW_to (fun s : Int × List Int => ∃ m : Nat, m ≤ 4 ∧ s = ((m : Int) - 1, bI (be (N / 256 ^ m)))) (fun s => (s.1 + 1).toNat) (fun s hs => ?_) ⟨4, Nat.le_refl _, by
      have : N / 256 ^ 4 = H := by omega
      rw [this]; rfl⟩
  · obtain ⟨m, hm, rfl⟩ := hs
    dsimp only
    cases m with
    | zero =>
      right
      rw [if_neg (by omega)]
      simp
    | succ j =>
      left
      have e : (((j + 1 : Nat) : Int) - 1) = (j : Int) := by omega
      rw [e, if_pos (by omega)]
      simp only [jp, hi, Option.bind_some, byte_at xi j (by omega)]
      rw [if_pos (by rw [w64 (by omega) (by omega)]; omega)]
      have hb := byte_low (m := j) (by omega) hN
      have hs : N / 256 ^ j = 256 * (N / 256 ^ (j + 1)) + xi / 256 ^ j % 256 := by
        rw [← hb, Nat.pow_succ, ← Nat.div_div_eq_div_mul]
        omega
      have hl2 := hle (N / 256 ^ (j + 1)) (Nat.div_le_self _ _)
      generalize xi / 256 ^ j % 256 = c at *
      generalize N / 256 ^ (j + 1) = M at *
      have hc : c < 256 := by
        rw [← hb]; exact Nat.mod_lt _ (by decide)
      have hwj : IntKind.wrap .i64 ((j : Int) - 1) = (j : Int) - 1 := w64 (by omega) (by omega)
      have app : fits 1 ((bI (be M)).length + ([(c : Int)]).length) := fits1 (by simp [bI_len]; omega)
      have hcc : [((c : Nat) : Int)] = bI [UInt8.ofNat c] := by simp [bI]; omega
      by_cases hz : M = 0 ∧ c = 0
      · obtain ⟨rfl, rfl⟩ := hz
        simp only [be0, bI, List.map_nil, List.length_nil]
        refine ⟨_, rfl, ⟨j, by omega, ?_⟩, ?_⟩
        · simp only [hwj, Prod.mk.injEq, true_and]
          rw [hs, Nat.mul_zero, be0]; simp
        · simp [hwj]
      · have hbe := be_step M c hc hz
        by_cases hc0 : c = 0
        · subst hc0
          have hM : M ≠ 0 := fun e => hz ⟨e, rfl⟩
          rw [if_neg (by simp)]
          have : decide (0 < (((bI (be M)).length : Nat) : Int)) = true := by
            have := be_pos hM
            simp [bI_len]; omega
          simp only [this, if_true]
          rw [if_pos app]
          refine ⟨_, rfl, ⟨j, by omega, ?_⟩, ?_⟩
          · simp only [hwj, Prod.mk.injEq, true_and]
            rw [hs, hbe, hcc]; simp [bI]
          · simp [hwj]
        · rw [if_pos (by omega)]
          simp only [if_true]
          rw [if_pos app]
          refine ⟨_, rfl, ⟨j, by omega, ?_⟩, ?_⟩
          · simp only [hwj, Prod.mk.injEq, true_and]
            rw [hs, hbe, hcc]; simp [bI]
          · simp [hwj]

theorem number_spec {x : List Int} (hw : wfN x) (hm : x.length ≤ 1099511627776) (neg : Bool) : m_integer_number neg x = some (if valN x = 0 then (false, []) else (neg, be (valN x))) := by
  obtain ⟨y, h1, hv, hwy, hyl, hy0⟩ := trim_spec hw (by omega)
  unfold m_integer_number
  rw [h1, Option.bind_some]
  by_cases h0 : valN x = 0
  · rw [if_pos h0]
    have := hy0.2 h0
    subst this
    simp
  · rw [if_neg h0]
    have hy : y ≠ [] := fun e => h0 (hy0.1 e)
    have hyp : 0 < y.length := List.length_pos_iff.2 hy
    rw [if_neg (by omega), if_pos (by rw [w64 (by omega) (by omega)]; omega)]
    have main : ∃ b, loopW (S := Int × (List Int)) (X := (List Int)) (fun a6 =>
          if 0 ≤ a6.1 then
            (loopW (S := Int × (List Int)) (X := (List Int)) (fun a10 =>
                if 0 ≤ a10.1 then
                  jp (fun (a14 : (List Int)) =>
                    some (Stp.next (IntKind.wrap .i64 (a10.1 - 1), a14)))
                    fun k16 =>
                    (idx y a6.1).bind fun x17 =>
                    if 0 ≤ (IntKind.wrap .i64 (8 * a10.1)) then
                      jp (fun (a20 : Bool) =>
                        if a20 = true then
                          if fits 1 ((a10.2 : List Int).length + ([IntKind.wrap .u8 (Int.fdiv x17 (2 ^ (min ((IntKind.wrap .i64 (8 * a10.1))).toNat (IntKind.bits .u32))))]).length) then
                            k16 (a10.2 ++ [IntKind.wrap .u8 (Int.fdiv x17 (2 ^ (min ((IntKind.wrap .i64 (8 * a10.1))).toNat (IntKind.bits .u32))))])
                          else none
                        else
                          k16 a10.2)
                        fun k22 =>
                        if (IntKind.wrap .u8 (Int.fdiv x17 (2 ^ (min ((IntKind.wrap .i64 (8 * a10.1))).toNat (IntKind.bits .u32))))) ≠ 0 then
                          k22 true
                        else
                          k22 (decide (0 < (((a10.2).length : Nat) : Int)))
                    else none
                else
                  some (Stp.exit a10.2)) (3, a6.2)).bind fun a26 =>
            some (Stp.next (IntKind.wrap .i64 (a6.1 - 1), a26))
          else
            some (Stp.exit a6.2)) (IntKind.wrap .i64 (((y).length : Int) - 1), List.replicate (0 : Int).toNat (0 : Int)) = some b ∧ b = bI (be (valN y)) := by
      refine loopW_inv (fun s : Int × List Int => ∃ i : Nat, i ≤ y.length ∧ s = ((i : Int) - 1, bI (be (valN (y.drop i))))) (fun s => (s.1 + 1).toNat) (fun b => b = bI (be (valN y))) (fun s hs => ?_) _ ⟨y.length, Nat.le_refl _, by
        rw [w64 (by omega) (by omega)]
        simp [valN, be0, bI]⟩
      obtain ⟨i, hi, rfl⟩ := hs
      dsimp only
      cases i with
      | zero =>
        right
        rw [if_neg (by omega)]
        exact ⟨_, rfl, by simp⟩
      | succ j =>
        left
        have e : (((j + 1 : Nat) : Int) - 1) = (j : Int) := by omega
        rw [e, if_pos (by omega)]
        have hdj : y.drop j = y[j] :: y.drop (j + 1) := List.drop_eq_getElem_cons (by omega)
        have hd := hwy y[j] (List.getElem_mem _)
        have hix : idx y (j : Int) = some ((y[j].toNat : Nat) : Int) := by
          unfold idx
          rw [if_pos (by omega)]
          simp only [Int.toNat_natCast, List.getElem?_eq_getElem (show j < y.length by omega)]
          congr 1
          omega
        have hwd : wfN (y.drop j) := fun d hd => hwy d (List.mem_of_mem_drop hd)
        have hlt := valN_lt hwd
        have hK : valN (y.drop j) < 256 ^ (4 * y.length) := by
          refine Nat.lt_of_lt_of_le hlt ?_
          rw [show (4294967296 : Nat) = 256 ^ 4 by decide, ← Nat.pow_mul]
          exact Nat.pow_le_pow_right (by decide) (by simp; omega)
        rw [bytes_loop hix (H := valN (y.drop (j + 1))) (N := valN (y.drop j)) (K := 4 * y.length) (by omega) (by rw [hdj, valN]) hK (by omega)]
        refine ⟨_, rfl, ⟨j, by omega, ?_⟩, ?_⟩
        · rw [w64 (by omega) (by omega)]
        · dsimp only
          rw [w64 (by omega) (by omega)]; omega
    obtain ⟨b, hb, rfl⟩ := main
    rw [hb, Option.bind_some, bI_back, hv]

theorem of_spec {n : Int} (h0 : 0 ≤ n) (h1 : n ≤ 9223372036854775807) : m_integer_Of n = some (false, be n.toNat) := by
  unfold m_integer_Of
  simp only [jp]
  rw [if_neg (by omega)]
  have e : IntKind.wrap .u64 n = n := by rw [wu64]; omega
  have e2 : Int.fdiv n (2 ^ (min (32 : Int).toNat (IntKind.bits .u64))) = n / 4294967296 := by
    have : (2 : Int) ^ (min (32 : Int).toNat (IntKind.bits .u64)) = 4294967296 := by decide
    rw [this, Int.fdiv_eq_ediv_of_nonneg _ (by omega)]
  rw [e, e2, wu32, wu32]
  have hv : valN [n % 4294967296, n / 4294967296 % 4294967296] = n.toNat := by
    simp only [valN]; omega
  rw [number_spec (x := [n % 4294967296, n / 4294967296 % 4294967296]) (by intro d hd; simp at hd; omega) (by simp), hv, Option.bind_some]
  by_cases h : n.toNat = 0
  · rw [if_pos h, h, be0]
  · rw [if_neg h]
    have : decide (n < 0) = false := by simp; omega
    rw [this]

theorem valB_cons (c : UInt8) (l : List UInt8) : valB (c :: l) = c.toNat * 256 ^ l.length + valB l := by
  have gen : ∀ (l : List UInt8) (a : Nat), l.foldl (fun a b => 256 * a + b.toNat) a = a * 256 ^ l.length + valB l := by
    intro l
    induction l with
    | nil => intro a; simp [valB]
    | cons b l ih =>
      intro a
      have e1 := ih (256 * a + b.toNat)
      have e2 := ih b.toNat
      simp only [List.foldl_cons, valB, List.length_cons, Nat.pow_succ] at e1 e2 ⊢
      rw [e1, show 256 * 0 + b.toNat = b.toNat by omega, e2, Nat.add_mul, Nat.mul_comm 256 a, Nat.mul_assoc, Nat.mul_comm 256 (256 ^ l.length)]
      omega
  have := gen l c.toNat
  simp only [valB, List.foldl_cons, Nat.mul_zero, Nat.zero_add] at this ⊢
  exact this
theorem valB_lt : ∀ l : List UInt8, valB l < 256 ^ l.length
  | [] => by simp [valB]
  | c :: l => by
    rw [valB_cons, List.length_cons, Nat.pow_succ]
    have h1 := valB_lt l
    have h2 := c.toNat_lt
    have h3 : c.toNat * 256 ^ l.length ≤ 255 * 256 ^ l.length := Nat.mul_le_mul_right _ (by omega)
    omega

theorem valN_set : ∀ (x : List Int) (q : Nat) (d : Int) (h : q < x.length), valN (x.set q d) + 4294967296 ^ q * x[q].toNat = valN x + 4294967296 ^ q * d.toNat
  | [], _, _, h => by simp at h
  | e :: l, 0, d, _ => by simp [valN]; omega
  | e :: l, q + 1, d, h => by
    have ih := valN_set l q d (by simpa using h)
    simp only [List.set_cons_succ, valN, List.getElem_cons_succ, Nat.pow_succ]
    have a1 : 4294967296 ^ q * 4294967296 * (l[q]'(by simpa using h)).toNat = 4294967296 * (4294967296 ^ q * (l[q]'(by simpa using h)).toNat) := by rw [Nat.mul_comm (4294967296 ^ q), Nat.mul_assoc]
    have a2 : 4294967296 ^ q * 4294967296 * d.toNat = 4294967296 * (4294967296 ^ q * d.toNat) := by rw [Nat.mul_comm (4294967296 ^ q), Nat.mul_assoc]
    omega
theorem wfN_set {x : List Int} (h : wfN x) {q : Nat} {d : Int} (hd : 0 ≤ d ∧ d < 4294967296) : wfN (x.set q d) := fun e he => by
  rcases List.mem_or_eq_of_mem_set he with h1 | rfl
  · exact h e h1
  · exact hd
theorem valN_drop (x : List Int) (q : Nat) : valN x = valN (x.take q) + 4294967296 ^ (x.take q).length * valN (x.drop q) := by
  have := valN_app (x.take q) (x.drop q)
  rwa [List.take_append_drop] at this

theorem or_case (a c m : Nat) (hm : m < 4) (ha : a < 256 ^ m) (hc : c < 256) :
    IntKind.wrap .u32 (BitVec.ofInt (IntKind.bits .u32) (a : Int) ||| BitVec.ofInt (IntKind.bits .u32) (IntKind.wrap .u32 ((IntKind.wrap .u32 (c : Int)) * 2 ^ (min ((IntKind.wrap .i64 (8 * (m : Int)))).toNat (IntKind.bits .u32))))).toNat = ((a + c * 256 ^ m : Nat) : Int) := by
  have key : ∀ k : Nat, 256 ^ m = 2 ^ k → k < 25 → IntKind.wrap .u32 (BitVec.ofInt (IntKind.bits .u32) (a : Int) ||| BitVec.ofInt (IntKind.bits .u32) (((c * 2 ^ k : Nat) : Int))).toNat = ((a + c * 256 ^ m : Nat) : Int) := by
    intro k hk hk2
    have hlt : c * 2 ^ k < 4294967296 := by
      have h1 : (2 : Nat) ^ k ≤ 2 ^ 24 := Nat.pow_le_pow_right (by decide) (by omega)
      have h2 : c * 2 ^ k ≤ 255 * 2 ^ 24 := Nat.mul_le_mul (by omega) h1
      omega
    have ha2 : a < 2 ^ k := by rw [← hk]; exact ha
    have ha3 : a < 4294967296 := by
      have h1 : (2 : Nat) ^ k ≤ 2 ^ 24 := Nat.pow_le_pow_right (by decide) (by omega)
      omega
    rw [BitVec.toNat_or]
    have e1 : (BitVec.ofInt (IntKind.bits .u32) ((a : Nat) : Int)).toNat = a := by
      rw [BitVec.toNat_ofInt]
      show (((a : Nat) : Int) % ((2 ^ 32 : Nat) : Int)).toNat = a
      omega
    have e2 : (BitVec.ofInt (IntKind.bits .u32) ((c * 2 ^ k : Nat) : Int)).toNat = c * 2 ^ k := by
      rw [BitVec.toNat_ofInt]
      show (((c * 2 ^ k : Nat) : Int) % ((2 ^ 32 : Nat) : Int)).toNat = c * 2 ^ k
      omega
    rw [e1, e2, Nat.or_comm, Nat.mul_comm c, ← Nat.two_pow_add_eq_or_of_lt ha2, hk, wu32, Nat.mul_comm c]
    have hlt2 : 2 ^ k * c + a < 4294967296 := by
      have h1 : (2 : Nat) ^ k ≤ 2 ^ 24 := Nat.pow_le_pow_right (by decide) (by omega)
      have h2 : 2 ^ k * c ≤ 2 ^ k * 255 := Nat.mul_le_mul_left _ (by omega)
      omega
    omega
  rw [wu32 (c : Int), w64 (by omega) (by omega)]
  have hcm : (c : Int) % 4294967296 = c := by omega
  rw [hcm]
  have hm' : m = 0 ∨ m = 1 ∨ m = 2 ∨ m = 3 := by omega
  rcases hm' with rfl | rfl | rfl | rfl
  · rw [← key 0 (by decide) (by decide), wu32 ((c : Int) * _), show (2 : Int) ^ (min ((8 * ((0 : Nat) : Int))).toNat (IntKind.bits .u32)) = 1 by decide]
    congr 5; omega
  · rw [← key 8 (by decide) (by decide), wu32 ((c : Int) * _), show (2 : Int) ^ (min ((8 * ((1 : Nat) : Int))).toNat (IntKind.bits .u32)) = 256 by decide]
    congr 5; omega
  · rw [← key 16 (by decide) (by decide), wu32 ((c : Int) * _), show (2 : Int) ^ (min ((8 * ((2 : Nat) : Int))).toNat (IntKind.bits .u32)) = 65536 by decide]
    congr 5; omega
  · rw [← key 24 (by decide) (by decide), wu32 ((c : Int) * _), show (2 : Int) ^ (min ((8 * ((3 : Nat) : Int))).toNat (IntKind.bits .u32)) = 16777216 by decide]
    congr 5; omega

theorem digits_spec {neg : Bool} {l : List UInt8} (hl : l.length ≤ 1099511627776) : ∃ y, m_integer_digits (neg, l) = some y ∧ valN y = valB l ∧ wfN y ∧ y.length ≤ (l.length + 3) / 4 := by
  unfold m_integer_digits
  dsimp only
  have hL : IntKind.wrap .i64 (Int.tdiv (IntKind.wrap .i64 ((l.length : Int) + 3)) 4) = (((l.length + 3) / 4 : Nat) : Int) := by
    rw [w64 (n := (l.length : Int) + 3) (by omega) (by omega), Int.tdiv_eq_ediv_of_nonneg (by omega), w64 (by omega) (by omega)]
    omega
  rw [hL]
  generalize hLL : (l.length + 3) / 4 = L
  rw [if_pos (by omega), Int.toNat_natCast]
  have main : ∃ z, loopW (S := Int × (List Int)) (X := (List Int)) (fun a3 =>
        if a3.1 < ((l).length : Int) then
          (idx l (IntKind.wrap .i64 ((IntKind.wrap .i64 (((l).length : Int) - 1)) - a3.1))).bind fun x7 =>
          (idx a3.2 (IntKind.wrap .i64 (Int.tdiv a3.1 4))).bind fun x9 =>
          (idx a3.2 (IntKind.wrap .i64 (Int.tdiv a3.1 4))).bind fun x11 =>
          if 0 ≤ (IntKind.wrap .i64 (8 * (Int.tmod a3.1 4))) then
            (idx a3.2 (IntKind.wrap .i64 (Int.tdiv a3.1 4))).bind fun x14 =>
            some (Stp.next (IntKind.wrap .i64 (a3.1 + 1), (a3.2).set (IntKind.wrap .i64 (Int.tdiv a3.1 4)).toNat (IntKind.wrap .u32 (BitVec.ofInt (IntKind.bits .u32) x11 ||| BitVec.ofInt (IntKind.bits .u32) (IntKind.wrap .u32 ((IntKind.wrap .u32 (x7.toNat : Int)) * 2 ^ (min ((IntKind.wrap .i64 (8 * (Int.tmod a3.1 4)))).toNat (IntKind.bits .u32))))).toNat)))
          else none
        else
          some (Stp.exit a3.2)) (0, List.replicate L (0 : Int)) = some z ∧ (z.length = L ∧ wfN z ∧ valN z = valB l) := by
    refine loopN l.length (fun i s => ∃ out : List Int, s = ((i : Int), out) ∧ out.length = L ∧ wfN out ∧ valN out = valB (l.drop (l.length - i))) (fun i s hi hs => ?_) (fun s hs => ?_) 0 _ (Nat.zero_le _) ⟨_, rfl, by simp, ?_, ?_⟩
    · left
      obtain ⟨out, rfl, ho, hw, hv⟩ := hs
      dsimp only
      rw [if_pos (lt_int hi)]
      have e1 : IntKind.wrap .i64 (IntKind.wrap .i64 ((l.length : Int) - 1) - (i : Int)) = ((l.length - 1 - i : Nat) : Int) := by
        rw [w64 (n := (l.length : Int) - 1) (by omega) (by omega), w64 (by omega) (by omega)]; omega
      have e2 : IntKind.wrap .i64 (Int.tdiv (i : Int) 4) = ((i / 4 : Nat) : Int) := by
        rw [Int.tdiv_eq_ediv_of_nonneg (by omega), w64 (by omega) (by omega)]; omega
      have e3 : Int.tmod (i : Int) 4 = ((i % 4 : Nat) : Int) := by
        rw [Int.tmod_eq_emod_of_nonneg (by omega)]; omega
      have hq : i / 4 < out.length := by omega
      rw [e1, e2, e3, idx_nat, idx_nat, List.getElem?_eq_getElem (show l.length - 1 - i < l.length by omega), List.getElem?_eq_getElem hq]
      simp only [Option.bind_some, Int.toNat_natCast]
      rw [if_pos (by rw [w64 (by omega) (by omega)]; omega)]
      have hd := hw out[i / 4] (List.getElem_mem _)
      obtain ⟨a, ha⟩ := Int.eq_ofNat_of_zero_le hd.1
      have hdrop : l.drop (l.length - (i + 1)) = l[l.length - 1 - i] :: l.drop (l.length - i) := by
        rw [List.drop_eq_getElem_cons (show l.length - (i + 1) < l.length by omega)]
        congr 1
        · congr 1; omega
        · congr 1; omega
      have hvl : valN out < 256 ^ i := by
        rw [hv]
        have := valB_lt (l.drop (l.length - i))
        rwa [List.length_drop, show l.length - (l.length - i) = i by omega] at this
      have hpow : (4294967296 : Nat) ^ (i / 4) * 256 ^ (i % 4) = 256 ^ i := by
        rw [show (4294967296 : Nat) = 256 ^ 4 by decide, ← Nat.pow_mul, ← Nat.pow_add]
        congr 1; omega
      have hp0 : 0 < (4294967296 : Nat) ^ (i / 4) := Nat.pow_pos (by decide)
      have ha2 : a < 256 ^ (i % 4) := by
        have h1 := valN_drop out (i / 4)
        rw [List.length_take, Nat.min_eq_left (by omega), List.drop_eq_getElem_cons hq, valN, ha, Int.toNat_natCast] at h1
        have h2 : 4294967296 ^ (i / 4) * a ≤ 4294967296 ^ (i / 4) * (a + 4294967296 * valN (out.drop (i / 4 + 1))) := Nat.mul_le_mul_left _ (by omega)
        have h3 : 4294967296 ^ (i / 4) * a < 4294967296 ^ (i / 4) * 256 ^ (i % 4) := by rw [hpow]; omega
        exact Nat.lt_of_mul_lt_mul_left h3
      have hc := (l[l.length - 1 - i]).toNat_lt
      rw [ha, or_case a _ (i % 4) (by omega) ha2 (by omega)]
      refine ⟨_, rfl, _, Prod.ext (nx (n := l.length) (by omega) hi) rfl, by simp [ho], wfN_set hw ?_, ?_⟩
      · have h1 : (256 : Nat) ^ (i % 4) ≤ 256 ^ 3 := Nat.pow_le_pow_right (by decide) (by omega)
        have h2 : (l[l.length - 1 - i]).toNat * 256 ^ (i % 4) ≤ 255 * 256 ^ (i % 4) := Nat.mul_le_mul_right _ (by omega)
        omega
      · have h1 := valN_set out (i / 4) ((a + (l[l.length - 1 - i]).toNat * 256 ^ (i % 4) : Nat) : Int) hq
        rw [ha, Int.toNat_natCast, Int.toNat_natCast, Nat.mul_add] at h1
        rw [hdrop, valB_cons, List.length_drop, show l.length - (l.length - i) = i by omega, ← hv]
        have h2 : 4294967296 ^ (i / 4) * ((l[l.length - 1 - i]).toNat * 256 ^ (i % 4)) = (l[l.length - 1 - i]).toNat * 256 ^ i := by
          rw [← hpow, Nat.mul_left_comm]
        omega
    · obtain ⟨out, rfl, ho, hw, hv⟩ := hs
      dsimp only
      rw [if_neg (by omega)]
      refine ⟨_, rfl, ho, hw, ?_⟩
      rw [hv, Nat.sub_self, List.drop_zero]
    · intro d hd
      rw [(List.mem_replicate.1 hd).2]; omega
    · rw [valN_zeros _ fun d hd => (List.mem_replicate.1 hd).2]
      simp [valB]
  obtain ⟨z, hz, h1, h2, h3⟩ := main
  rw [hz, Option.bind_some]
  obtain ⟨y, hy, hv, hwy, hyl, _⟩ := trim_spec h2 (by omega)
  exact ⟨y, by rw [hy, Option.bind_some], by rw [hv, h3], hwy, by omega⟩

theorem valN_snoc (x : List Int) (d : Int) : valN (x ++ [d]) = valN x + 4294967296 ^ x.length * d.toNat := by rw [valN_app]; simp [valN]
theorem take_snoc {x : List Int} {i : Nat} (h : i < x.length) : x.take (i + 1) = x.take i ++ [x[i]] := (List.take_append_getElem h).symm

theorem add_core {u v : List Int} (hu : wfN u) (hv : wfN v) (hlu : u.length ≤ 1099511627776) (hlv : v.length ≤ u.length) :
    ∃ z, ((loopW (S := Int × Int × (List Int)) (X := (List Int) × Int) (fun a6 =>
          if a6.2.1 < ((u).length : Int) then
            (idx u a6.2.1).bind fun x10 =>
            jp (fun (a12 : Int) =>
              (idx a6.2.2 a6.2.1).bind fun x15 =>
              some (Stp.next (Int.fdiv a12 (2 ^ (min (32 : Int).toNat (IntKind.bits .u64))), IntKind.wrap .i64 (a6.2.1 + 1), (a6.2.2).set (a6.2.1).toNat (IntKind.wrap .u32 a12))))
              fun k14 =>
              if a6.2.1 < ((v).length : Int) then
                (idx v a6.2.1).bind fun x17 =>
                k14 (IntKind.wrap .u64 ((IntKind.wrap .u64 ((IntKind.wrap .u64 x10) + a6.1)) + (IntKind.wrap .u64 x17)))
              else
                k14 (IntKind.wrap .u64 ((IntKind.wrap .u64 x10) + a6.1))
          else
            some (Stp.exit (a6.2.2, a6.1))) (0, 0, List.replicate (IntKind.wrap .i64 (((u).length : Int) + 1)).toNat (0 : Int))).bind fun a19 =>
      (idx a19.1 ((u).length : Int)).bind fun x21 =>
      (m_integer_trim ((a19.1).set (((u).length : Int)).toNat (IntKind.wrap .u32 a19.2))).bind fun x23 =>
      some x23) = some z ∧ valN z = valN u + valN v ∧ wfN z ∧ z.length ≤ u.length + 1 := by
  have hL : IntKind.wrap .i64 ((u.length : Int) + 1) = ((u.length + 1 : Nat) : Int) := by rw [w64 (by omega) (by omega)]; omega
  rw [hL, Int.toNat_natCast]
  have hsh : (2 : Int) ^ (min (32 : Int).toNat (IntKind.bits .u64)) = 4294967296 := by decide
  simp only [hsh]
  have main : ∃ r, loopW (S := Int × Int × (List Int)) (X := (List Int) × Int) (fun a6 =>
          if a6.2.1 < ((u).length : Int) then
            (idx u a6.2.1).bind fun x10 =>
            jp (fun (a12 : Int) =>
              (idx a6.2.2 a6.2.1).bind fun x15 =>
              some (Stp.next (Int.fdiv a12 4294967296, IntKind.wrap .i64 (a6.2.1 + 1), (a6.2.2).set (a6.2.1).toNat (IntKind.wrap .u32 a12))))
              fun k14 =>
              if a6.2.1 < ((v).length : Int) then
                (idx v a6.2.1).bind fun x17 =>
                k14 (IntKind.wrap .u64 ((IntKind.wrap .u64 ((IntKind.wrap .u64 x10) + a6.1)) + (IntKind.wrap .u64 x17)))
              else
                k14 (IntKind.wrap .u64 ((IntKind.wrap .u64 x10) + a6.1))
          else
            some (Stp.exit (a6.2.2, a6.1))) (0, 0, List.replicate (u.length + 1) (0 : Int)) = some r ∧ (r.1.length = u.length + 1 ∧ wfN r.1 ∧ (0 ≤ r.2 ∧ r.2 ≤ 1) ∧ ∃ h : u.length < r.1.length, r.1[u.length] = 0 ∧ valN r.1 + 4294967296 ^ u.length * r.2.toNat = valN u + valN v) := by
    refine loopN u.length (fun i s => ∃ (c : Nat) (out : List Int), s = ((c : Int), (i : Int), out) ∧ out.length = u.length + 1 ∧ wfN out ∧ c ≤ 1 ∧ (∀ j (h : j < out.length), i ≤ j → out[j] = 0) ∧ valN out + 4294967296 ^ i * c = valN (u.take i) + valN (v.take i)) (fun i s hi hs => ?_) (fun s hs => ?_) 0 _ (Nat.zero_le _) ⟨0, _, rfl, by simp, ?_, by omega, ?_, ?_⟩
    · left
      obtain ⟨c, out, rfl, ho, hw, hc, hz, hv2⟩ := hs
      dsimp only
      rw [if_pos (lt_int hi), idx_nat, List.getElem?_eq_getElem hi]
      have hio : i < out.length := by omega
      have ht := hu u[i] (List.getElem_mem _)
      simp only [jp, Option.bind_some, idx_nat, List.getElem?_eq_getElem hio, Int.toNat_natCast]
      have fin : ∀ t : Nat, t < 4294967296 → (t : Int) = (if h : i < v.length then v[i] else 0) →
          ∃ s', some (Stp.next (X := (List Int) × Int) (Int.fdiv ((u[i] + c + t : Int)) 4294967296, IntKind.wrap .i64 ((i : Int) + 1), out.set i (IntKind.wrap .u32 (u[i] + c + t)))) = some (.next s') ∧ ∃ (c : Nat) (out : List Int), s' = ((c : Int), ((i + 1 : Nat) : Int), out) ∧ out.length = u.length + 1 ∧ wfN out ∧ c ≤ 1 ∧ (∀ j (h : j < out.length), i + 1 ≤ j → out[j] = 0) ∧ valN out + 4294967296 ^ (i + 1) * c = valN (u.take (i + 1)) + valN (v.take (i + 1)) := by
        intro t ht2 hte
        obtain ⟨a, ha⟩ := Int.eq_ofNat_of_zero_le ht.1
        rw [ha]
        have e1 : Int.fdiv ((a : Int) + c + t) 4294967296 = (((a + c + t) / 4294967296 : Nat) : Int) := by
          rw [Int.fdiv_eq_ediv_of_nonneg _ (by omega)]; omega
        have e2 : IntKind.wrap .u32 ((a : Int) + c + t) = (((a + c + t) % 4294967296 : Nat) : Int) := by rw [wu32]; omega
        rw [e1, e2, nx (n := u.length) (by omega) hi]
        refine ⟨_, rfl, (a + c + t) / 4294967296, _, rfl, by simp [ho], wfN_set hw (by omega), by omega, ?_, ?_⟩
        · intro j hj hij
          rw [List.getElem_set_ne (by omega)]
          exact hz j (by simpa using hj) (by omega)
        · have h1 := valN_set out i (((a + c + t) % 4294967296 : Nat) : Int) hio
          rw [hz i hio (Nat.le_refl _), Int.toNat_natCast] at h1
          have hut : valN (u.take (i + 1)) = valN (u.take i) + 4294967296 ^ i * a := by
            rw [take_snoc hi, valN_snoc, ha, Int.toNat_natCast, List.length_take, Nat.min_eq_left (by omega)]
          have hvt : valN (v.take (i + 1)) = valN (v.take i) + 4294967296 ^ i * t := by
            by_cases hiv : i < v.length
            · rw [dif_pos hiv] at hte
              rw [take_snoc hiv, valN_snoc, ← hte, Int.toNat_natCast, List.length_take, Nat.min_eq_left (by omega)]
            · rw [dif_neg hiv] at hte
              have : t = 0 := by omega
              subst this
              rw [List.take_of_length_le (by omega), List.take_of_length_le (by omega)]; omega
          rw [hut, hvt, Nat.pow_succ]
          have h2 : 4294967296 ^ i * 4294967296 * ((a + c + t) / 4294967296) + 4294967296 ^ i * ((a + c + t) % 4294967296) = 4294967296 ^ i * (a + c + t) := by
            rw [Nat.mul_assoc, ← Nat.mul_add, Nat.div_add_mod]
          rw [Nat.mul_add, Nat.mul_add] at h2
          simp only [Int.toNat_zero, Nat.mul_zero, Nat.add_zero] at h1
          omega
      have e0 : IntKind.wrap .u64 (IntKind.wrap .u64 u[i] + (c : Int)) = u[i] + c := by rw [wu64, wu64]; omega
      by_cases hiv : i < v.length
      · rw [if_pos (lt_int hiv), List.getElem?_eq_getElem hiv, Option.bind_some]
        have hvi := hv v[i] (List.getElem_mem _)
        have := fin v[i].toNat (by omega) (by rw [dif_pos hiv]; omega)
        rw [show ((v[i].toNat : Nat) : Int) = v[i] by omega] at this
        have e3 : IntKind.wrap .u64 (u[i] + c + IntKind.wrap .u64 v[i]) = u[i] + c + v[i] := by rw [wu64, wu64]; omega
        rw [e0, e3]
        exact this
      · rw [if_neg (by omega), e0]
        have := fin 0 (by decide) (by rw [dif_neg hiv]; rfl)
        simpa using this
    · obtain ⟨c, out, rfl, ho, hw, hc, hz, hv2⟩ := hs
      dsimp only
      rw [if_neg (by omega)]
      refine ⟨_, rfl, ho, hw, by omega, by dsimp only; omega, hz _ _ (Nat.le_refl _), ?_⟩
      rw [List.take_of_length_le (Nat.le_refl _), List.take_of_length_le hlv] at hv2
      simpa using hv2
    · intro d hd
      rw [(List.mem_replicate.1 hd).2]; omega
    · intro j hj _
      simp
    · rw [valN_zeros _ fun d hd => (List.mem_replicate.1 hd).2]
      simp [valN]
  obtain ⟨⟨out, c⟩, hr, ho, hw, hc, hlt, h0, hval⟩ := main
  rw [hr, Option.bind_some]
  dsimp only at ho hw hc hlt h0 hval ⊢
  rw [idx_nat, List.getElem?_eq_getElem hlt, Option.bind_some, Int.toNat_natCast]
  have hc2 : IntKind.wrap .u32 c = c := by rw [wu32]; omega
  rw [hc2]
  have hwz : wfN (out.set u.length c) := wfN_set hw (by omega)
  obtain ⟨y, hy, hv2, hwy, hyl, _⟩ := trim_spec hwz (by simp [ho]; omega)
  refine ⟨y, by rw [hy, Option.bind_some], ?_, hwy, by simp [ho] at hyl; omega⟩
  have h1 := valN_set out u.length c hlt
  rw [h0] at h1
  simp only [Int.toNat_zero, Nat.mul_zero, Nat.add_zero] at h1
  rw [hv2, h1, hval]

theorem add_spec {x y : List Int} (hx : wfN x) (hy : wfN y) (lx : x.length ≤ 1099511627776) (ly : y.length ≤ 1099511627776) :
    ∃ z, m_integer_add x y = some z ∧ valN z = valN x + valN y ∧ wfN z ∧ z.length ≤ max x.length y.length + 1 := by
  unfold m_integer_add
  simp only [jp]
  by_cases h : x.length < y.length
  · rw [if_pos (lt_int h), if_pos (by rw [w64 (by omega) (by omega)]; omega)]
    obtain ⟨z, h1, h2, h3, h4⟩ := add_core hy hx ly (by omega)
    exact ⟨z, h1, by rw [h2, Nat.add_comm], h3, by omega⟩
  · rw [if_neg (by omega), if_pos (by rw [w64 (by omega) (by omega)]; omega)]
    obtain ⟨z, h1, h2, h3, h4⟩ := add_core hx hy lx (by omega)
    exact ⟨z, h1, h2, h3, by omega⟩

theorem Add_spec {a b : Nat} (ha : (be a).length ≤ 1099511627776) (hb : (be b).length ≤ 1099511627776) : m_integer_Add (false, be a) (false, be b) = some (false, be (a + b)) := by
  unfold m_integer_Add
  obtain ⟨x, hx, hvx, hwx, hlx⟩ := digits_spec (neg := false) ha
  obtain ⟨y, hy, hvy, hwy, hly⟩ := digits_spec (neg := false) hb
  obtain ⟨z, hz, hvz, hwz, hlz⟩ := add_spec hwx hwy (by omega) (by omega)
  rw [hx, Option.bind_some, hy, Option.bind_some]
  simp only [beq_self_eq_true, if_true, hz, Option.bind_some]
  rw [number_spec hwz (by omega), Option.bind_some, hvz, hvx, hvy, valB_be, valB_be]
  by_cases h : a + b = 0
  · rw [if_pos h, h, be0]
  · rw [if_neg h]
end Go.AW

/- Graphs of sets: the number of words. -/
namespace Go.AW
open Go
set_option linter.unusedSimpArgs false
set_option linter.unusedVariables false

theorem getD_lt {α : Type} {l : List α} {d : α} {i : Nat} (h : i < l.length) : l.getD i d = l[i] := by simp [List.getD, h]

section
variable {g : Gr}
def bz (n : Nat) : TNegMag := (false, be n)
def addE (c : List Nat) (nxt : List Nat) (x : Ed) : List Nat := nxt.set x.2.2.toNat (nxt.getD x.2.2.toNat 0 + c.getD x.1.toNat 0)
def cstep (E : List Ed) (n : Nat) (c : List Nat) : List Nat := E.foldl (addE c) (List.replicate n 0)
def cinit (n : Nat) : List Nat := (List.replicate n 0).set 0 1
def crun (E : List Ed) (n : Nat) : Nat → List Nat
  | 0 => cinit n
  | k + 1 => cstep E n (crun E n k)
def csum (c : List Nat) : Nat := c.foldl (· + ·) 0

theorem addE_len (c nxt : List Nat) (x : Ed) : (addE c nxt x).length = nxt.length := List.length_set
theorem foldE_len (c : List Nat) : ∀ (E : List Ed) (nxt : List Nat), (E.foldl (addE c) nxt).length = nxt.length
  | [], _ => rfl
  | x :: E, nxt => by rw [List.foldl_cons, foldE_len c E, addE_len]
theorem cstep_len (E : List Ed) (n : Nat) (c : List Nat) : (cstep E n c).length = n := by unfold cstep; rw [foldE_len]; simp
theorem crun_len (E : List Ed) (n : Nat) : ∀ k, (crun E n k).length = n
  | 0 => by simp [crun, cinit]
  | k + 1 => cstep_len _ _ _

theorem addE_le {c nxt : List Nat} {x : Ed} {M B : Nat} (hc : ∀ y ∈ c, y ≤ M) (hn : ∀ y ∈ nxt, y ≤ B) : ∀ y ∈ addE c nxt x, y ≤ B + M := by
  intro y hy
  have hgc : c.getD x.1.toNat 0 ≤ M := by
    by_cases h : x.1.toNat < c.length
    · exact hc _ (getD_mem h)
    · simp [List.getD, h]
  have hgn : nxt.getD x.2.2.toNat 0 ≤ B := by
    by_cases h : x.2.2.toNat < nxt.length
    · exact hn _ (getD_mem h)
    · simp [List.getD, h]
  rcases List.mem_or_eq_of_mem_set hy with h | rfl
  · have := hn y h; omega
  · omega
theorem foldE_le {c : List Nat} {M : Nat} (hc : ∀ y ∈ c, y ≤ M) : ∀ (E : List Ed) (nxt : List Nat) (B : Nat), (∀ y ∈ nxt, y ≤ B) → ∀ y ∈ E.foldl (addE c) nxt, y ≤ B + E.length * M
  | [], nxt, B, hn => fun y hy => by have := hn y hy; simp; exact this
  | x :: E, nxt, B, hn => fun y hy => by
    have := foldE_le hc E (addE c nxt x) (B + M) (addE_le hc hn) y hy
    rw [List.length_cons, Nat.succ_mul]
    omega
theorem cstep_le {E : List Ed} {n M : Nat} {c : List Nat} (hc : ∀ y ∈ c, y ≤ M) (hE : E.length ≤ 1024) : ∀ y ∈ cstep E n c, y ≤ 1024 * M := fun y hy => by
  have := foldE_le hc E (List.replicate n 0) 0 (fun y hy => by rw [(List.mem_replicate.1 hy).2]; exact Nat.le_refl _) y hy
  have h2 : E.length * M ≤ 1024 * M := Nat.mul_le_mul_right _ hE
  omega
theorem crun_le {E : List Ed} {n : Nat} (hE : E.length ≤ 1024) : ∀ k, ∀ y ∈ crun E n k, y ≤ 1024 ^ k
  | 0 => fun y hy => by
    rcases List.mem_or_eq_of_mem_set hy with h | rfl
    · rw [(List.mem_replicate.1 h).2]; simp
    · simp
  | k + 1 => fun y hy => by
    have := cstep_le (crun_le hE k) hE y hy
    rw [Nat.pow_succ, Nat.mul_comm]
    exact this
theorem be_small {n k : Nat} (hk : k ≤ 40) (h : n ≤ 2048 * 1024 ^ k) : (be n).length ≤ 1099511627776 := by
  have h1 : (1024 : Nat) ^ k ≤ 1024 ^ 40 := Nat.pow_le_pow_right (by decide) hk
  have h2 : 2048 * 1024 ^ k ≤ 2048 * 1024 ^ 40 := Nat.mul_le_mul_left _ h1
  have h3 : (2048 * 1024 ^ 40 : Nat) < 256 ^ 60 := by decide
  have := be_len (n := n) 60 (by omega)
  omega

theorem bz_at {l : List Nat} {i : Nat} (h : i < l.length) : idx (l.map bz) (i : Int) = some (bz l[i]) := by
  rw [ix (by simpa using h)]
  simp
theorem bz_set (l : List Nat) (i n : Nat) : (l.map bz).set i (bz n) = (l.set i n).map bz := by rw [List.map_set]
theorem bz_zero (n : Nat) : List.replicate n ((false, ([] : List UInt8)) : TNegMag) = (List.replicate n 0).map bz := by
  rw [List.map_replicate]
  unfold bz
  rw [be0]
theorem bz_add {a b k : Nat} (hk : k ≤ 40) (ha : a ≤ 2048 * 1024 ^ k) (hb : b ≤ 2048 * 1024 ^ k) : m_integer_Add (bz a) (bz b) = some (bz (a + b)) := Add_spec (be_small hk ha) (be_small hk hb)

def countE (g : Gr) (e n : Int) : TNegMag × Int :=
  if e ≠ 0 then ((false, []), 1) else if n < 0 ∨ 4096 < n then ((false, []), 2)
  else if (buildE g e).2.2 ≠ 0 ∨ (buildE g e).1.2.1 = 0 then ((false, []), (buildE g e).2.2)
  else (bz (csum (crun (buildE g e).1.2.2 (buildE g e).2.1.length n.toNat)), 0)

theorem csum_snoc (c : List Nat) (x : Nat) : csum (c ++ [x]) = csum c + x := by simp [csum, List.foldl_append]
theorem csum_le {c : List Nat} {M : Nat} (h : ∀ y ∈ c, y ≤ M) : csum c ≤ c.length * M := by
  have : ∀ (c : List Nat) (s : Nat), (∀ y ∈ c, y ≤ M) → c.foldl (· + ·) s ≤ s + c.length * M := by
    intro c
    induction c with
    | nil => intro s _; simp
    | cons x c ih =>
      intro s hc
      have h1 := ih (s + x) fun y hy => hc y (List.mem_cons_of_mem _ hy)
      have h2 := hc x (List.mem_cons_self ..)
      rw [List.foldl_cons, List.length_cons, Nat.succ_mul]
      omega
  have := this c 0 h
  unfold csum
  omega

theorem Count_eq {e : Int} (he : m_ref09_Check g = some e) (hz : e = 0 ↔ VG g) {n : Int} (hn : n ≤ 40 ∨ 4096 < n) : m_subset_Count g n = some (countE g e n) := by
  unfold m_subset_Count countE
  rw [Check_ref, he, Option.bind_some]
  by_cases h0 : e = 0
  case neg => rw [if_pos h0, if_pos h0]
  rw [if_neg (show ¬ e ≠ 0 from fun h => h h0), if_neg (show ¬ e ≠ 0 from fun h => h h0)]
  simp only [jp]
  by_cases c1 : n < 0
  · rw [if_pos c1, if_pos trivial, if_pos (.inl c1)]
  rw [if_neg c1]
  by_cases c2 : 4096 < n
  · rw [if_pos (decide_eq_true c2), if_pos (.inr c2)]
  rw [if_neg (by simpa using c2), if_neg (show ¬ (n < 0 ∨ 4096 < n) from fun h => h.elim c1 c2), Build_eq he hz, Option.bind_some]
  by_cases hb : (buildE g e).2.2 = 0
  case neg => rw [if_pos hb, if_pos trivial, if_pos (.inl hb)]
  rw [if_neg (by simpa using hb)]
  by_cases hs : (buildE g e).1.2.1 = 0
  case pos => rw [if_pos (decide_eq_true hs), if_pos (.inr hs)]
  rw [if_neg (show ¬ decide ((buildE g e).1.2.1 = 0) = true by simpa using hs), if_neg (show ¬ ((buildE g e).2.2 ≠ 0 ∨ (buildE g e).1.2.1 = 0) from fun h => h.elim (fun h => h hb) hs)]
  have hv := hz.1 h0
  have hne : g.2.1 ≠ 0 := fun h => by
    unfold buildE buildG at hs
    rw [if_neg (show ¬ e ≠ 0 from fun h => h h0), if_pos h] at hs
    exact hs rfl
  have hpos : 0 < g.2.1 := by have := hv.s0; omega
  have hbe : buildE g e = buildR g (upto g.2.1) := by
    unfold buildE buildG
    rw [if_neg (show ¬ e ≠ 0 from fun h => h h0), if_neg hne]
  rcases buildR_cases (upto_ok g) (upto_ne hpos) with h | ⟨E, L, hS, hrun, h⟩
  · rw [hbe, h] at hb; cases hb
  rw [hbe, h]
  dsimp only
  have hL := hS.s1
  have hE := hS.s2
  have hlp := hS.len_pos
  have hg : 0 ≤ (L.length : Int) ∧ (L.length : Int) ≤ (L.length : Int) ∧ (L.length : Int) * 24 ≤ 281474976710656 := by omega
  rw [if_pos hg, of_spec (by decide) (by decide), Option.bind_some, ix0 (by simp; omega), Option.bind_some]
  simp only [Int.toNat_natCast]
  rw [bz_zero]
  have hn40 : n.toNat ≤ 40 := by omega
  refine bindL (loop_is (fun k => ((crun E L.length k).map bz, (k : Int))) n.toNat ((crun E L.length n.toNat).map bz) (fun k hk => ?_) ?_ ?_) ?_
  · dsimp only
    rw [if_pos (by omega), if_pos hg]
    have hck := crun_le (n := L.length) hE k
    have hlen := crun_len E L.length k
    refine bindL (loop_is (fun m => ((m : Int), ((E.take m).foldl (addE (crun E L.length k)) (List.replicate L.length 0)).map bz)) E.length ((crun E L.length (k + 1)).map bz) (fun m hm => ?_) ?_ rfl) ?_
    · dsimp only
      obtain ⟨j, lab, hj, hlab, hnz, hx⟩ := hS.mem.1 (List.getElem_mem hm)
      have hto := hS.to_lt hj hlab hnz
      have e1 : E[m].1 = (j : Int) := by rw [hx]
      have e2 : E[m].2.2 = ((L.idxOf (stepL g (L.getD j []) (lab : Int)) : Nat) : Int) := by rw [hx]
      generalize hto' : L.idxOf (stepL g (L.getD j []) (lab : Int)) = t at hto e2
      have hN : ((E.take m).foldl (addE (crun E L.length k)) (List.replicate L.length 0)).length = L.length := by rw [foldE_len]; simp
      have hB := foldE_le hck (E.take m) (List.replicate L.length 0) 0 (fun y hy => by rw [(List.mem_replicate.1 hy).2]; exact Nat.le_refl _)
      have htk : E.take (m + 1) = E.take m ++ [E[m]] := by rw [List.take_add_one, List.getElem?_eq_getElem hm]; rfl
      rw [if_pos (lt_int hm), ix hm]
      simp only [Option.bind_some]
      rw [e1, e2, bz_at (by omega), bz_at (by omega)]
      simp only [Option.bind_some]
      have hml : (E.take m).length ≤ 1024 := by simp; omega
      have hmul : (E.take m).length * 1024 ^ k ≤ 1024 * 1024 ^ k := Nat.mul_le_mul_right _ hml
      have hb1 := hB _ (List.getElem_mem (show t < _ by omega))
      have hb2 := hck _ (List.getElem_mem (show j < _ by omega))
      rw [bz_add (k := k) (by omega) (by omega) (by omega)]
      simp only [Option.bind_some, Int.toNat_natCast]
      rw [bz_set, nx (by omega : E.length ≤ _) hm, htk, List.foldl_append]
      simp only [List.foldl_cons, List.foldl_nil]
      congr 4
      rw [show ∀ (c nx : List Nat) (x : Ed), addE c nx x = nx.set x.2.2.toNat (nx.getD x.2.2.toNat 0 + c.getD x.1.toNat 0) from fun _ _ _ => rfl, e1, e2]
      simp only [Int.toNat_natCast]
      congr 1
      rw [getD_lt (show t < _ by omega), getD_lt (show j < _ by omega)]
    · dsimp only
      rw [if_neg (not_lt_int _), List.take_length]
      rfl
    · rw [w64 (by omega) (by omega)]
      rfl
  · dsimp only
    rw [if_neg (by omega)]
  · show _ = ((cinit L.length).map bz, (0 : Int))
    unfold cinit
    rw [← bz_set]
    rfl
  · have hcn := crun_le (n := L.length) hE n.toNat
    have hlen := crun_len E L.length n.toNat
    generalize hcc : crun E L.length n.toNat = c at *
    refine bindL (loop_is (fun k => ((k : Int), (bz (csum (c.take k))).1, (bz (csum (c.take k))).2)) c.length (bz (csum c)) (fun k hk => ?_) ?_ (by simp [csum, bz, be0])) rfl
    · dsimp only
      rw [if_pos (by simp; omega), bz_at hk]
      simp only [Option.bind_some]
      have hs1 : csum (c.take k) ≤ 64 * 1024 ^ n.toNat := by
        have h1 := csum_le (c := c.take k) (M := 1024 ^ n.toNat) fun y hy => hcn y (List.mem_of_mem_take hy)
        have h2 : (c.take k).length ≤ 64 := by simp; omega
        have h3 : (c.take k).length * 1024 ^ n.toNat ≤ 64 * 1024 ^ n.toNat := Nat.mul_le_mul_right _ h2
        omega
      have hb2 := hcn _ (List.getElem_mem hk)
      have := bz_add (k := n.toNat) hn40 (a := csum (c.take k)) (b := c[k]) (by omega) (by omega)
      rw [show ((bz (csum (c.take k))).1, (bz (csum (c.take k))).2) = bz (csum (c.take k)) from rfl, this]
      simp only [Option.bind_some]
      rw [nx (by omega : c.length ≤ _) hk, show c.take (k + 1) = c.take k ++ [c[k]] by rw [List.take_add_one, List.getElem?_eq_getElem hk]; rfl, csum_snoc]
    · dsimp only
      rw [if_neg (by simp), List.take_length]
end
end Go.AW

/- The anchor of chapter 12; SubsetBuilds. -/
namespace Go.AW
open Go
set_option linter.unusedSimpArgs false
set_option linter.unusedVariables false

def even12 : Gr := (2, 2, [(0, 0, 1), (0, 1, 0), (1, 0, 0)])
theorem even12_ok : VG even12 where
  l1 := by decide
  l2 := by decide
  s0 := by decide
  s1 := by decide
  el := by decide
  ed := by decide
  ord := fun i h => match i, h with
    | 0, _ => show cmp3 (0, 0, 1) (0, 1, 0) < 0 by decide
    | 1, _ => show cmp3 (0, 1, 0) (1, 0, 0) < 0 by decide
    | _ + 2, h => absurd h (by simp [even12])

theorem be_7 : be 7 = [7] := by
  rw [be, if_neg (by decide), show 7 / 256 = 0 from rfl, be0]
  rfl

theorem awake12_eq : m_law12_awakeG = some true := by
  obtain ⟨e, he, hz⟩ := Check_tot even12
  have h0 := hz.2 even12_ok
  subst h0
  have hB := Build_eq he hz
  have hF := Focus_eq he hz
  have hC := Count_eq he hz (n := 3) (.inl (by decide))
  have b : buildE even12 0 = ((2, 3, [(0, 0, 0), (0, 1, 1), (1, 0, 2), (1, 1, 1), (2, 0, 1)]), [[0, 1], [0], [1]], 0) := by decide +kernel
  have f : focusE even12 0 = ([1], 0, true, 0) := by unfold focusE; rw [b]; decide +kernel
  have c : countE even12 0 3 = ((false, [7]), 0) := by
    unfold countE
    rw [b, if_neg (by decide), if_neg (by decide), if_neg (by decide)]
    have : csum (crun [(0, 0, 0), (0, 1, 1), (1, 0, 2), (1, 1, 1), (2, 0, 1)] 3 3) = 7 := by decide +kernel
    show (bz (csum (crun [(0, 0, 0), (0, 1, 1), (1, 0, 2), (1, 1, 1), (2, 0, 1)] 3 3)), (0 : Int)) = _
    rw [this]
    unfold bz
    rw [be_7]
  unfold m_law12_awakeG
  have h4 : m_law12_even = some even12 := rfl
  simp only [h4, Option.bind_some, hB, hF, hC, b, f, c, jp]
  have h7 : m_ref01_Of 7 = some (false, [7]) := by
    unfold m_ref01_Of m_ref01_mag
    rfl
  rw [SameSets_eq (by decide) (by decide), Same12_eq (by decide), h7]
  decide +kernel

section
variable {g : Gr} {e : Int}
theorem great12_tot (g : Gr) : ∃ b, m_law12_great g = some b := by
  unfold m_law12_great m_ref09_Great
  simp only [jp]
  by_cases h1 : (30 : Int) < (g.2.2.length : Int)
  · rw [if_pos h1]; exact ⟨_, rfl⟩
  · rw [if_neg h1]
    by_cases h2 : 10 < g.2.1
    · rw [if_pos h2]; exact ⟨_, rfl⟩
    · rw [if_neg h2]; exact ⟨_, rfl⟩
end
end Go.AW

/- The anchor of chapter 12. -/
namespace Go.AW
open Go Go.Proofs
theorem w_law12_awake {r : Bool} (h : m_law12_awake = some r) : Pure Tryd.prog 10 [] (· = HV.bool r) := by
  cases h
  exact w_law12_awakeG awake12_eq
end Go.AW
