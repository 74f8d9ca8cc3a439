import Derived.Test.YtlddcjolelmpmaaGreatRa4
namespace Go.AW
open Go Go.Proofs
set_option linter.unusedVariables false
set_option maxHeartbeats 1600000 in
set_option maxRecDepth 100000 in
theorem w_integer_short {p0 : List (Int)} {p1 : Int} {r : (List (Int)) × Int} (h : m_integer_short p0 p1 = some r) : Pure Tryz.prog 200 [slE (encM (HV.int .u32)) p0, HV.int .u32 p1] (· = HV.tup [slE (encM (HV.int .u32)) r.1, HV.int .u32 r.2]) := by
 unfold m_integer_short at h
 refine Pure.of_body Tryz.func200 rfl rfl (Nat.le_of_ble_eq_true rfl) fun hf => ?_
 unfold Tryz.f200
 dsimp only [enumS, Nat.reduceAdd]
 refine AW.rgs rfl fun K hK => ?_
 refine mv rfl rfl ?_
 refine mv rfl rfl ?_
 refine b_fin hK (s' := ⟨[(0, slE (encM (HV.int .u32)) p0), (1, HV.int .u32 p1)], []⟩) (le_q rfl rfl) ?_
 clear hK K
 refine AW.rgs rfl fun K hK => ?_
 refine mv rfl rfl ?_
 refine bv rfl (v_lenF rfl rfl ty107 rfl) ?_
 obtain ⟨h2, h⟩ := ifN h
 refine b_op rfl (o_makeE (fid := 200) (encM (HV.int .u32)) (0 : Int) 200012 rfl rfl ty107 rfl rfl ty105 rfl rfl h2 (fun v1 => ?_))
 refine mv rfl rfl ?_
 refine b_fin hK (s' := ⟨[(0, slE (encM (HV.int .u32)) p0), (1, HV.int .u32 p1), (6, HV.ar 200012 v1 (encM (HV.int .u32)).k 0 ((List.replicate (((p0).length : Int)).toNat (0 : Int)).length))], [(200012, v1, .arr (encM (HV.int .u32)).k 105 ((encM (HV.int .u32)).E (List.replicate (((p0).length : Int)).toNat (0 : Int))))]⟩) (le_q rfl rfl) ?_
 clear hK K
 refine AW.rgs rfl fun K hK => ?_
 refine mv rfl rfl ?_
 refine b_fin hK (s' := ⟨[(0, slE (encM (HV.int .u32)) p0), (1, HV.int .u32 p1), (6, HV.ar 200012 v1 (encM (HV.int .u32)).k 0 ((List.replicate (((p0).length : Int)).toNat (0 : Int)).length)), (7, HV.int .u64 0)], [(200012, v1, .arr (encM (HV.int .u32)).k 105 ((encM (HV.int .u32)).E (List.replicate (((p0).length : Int)).toNat (0 : Int))))]⟩) (le_q rfl rfl) ?_
 clear hK K
 refine AW.seq ?_
 refine AW.rgs rfl fun K hK => ?_
 refine mv rfl rfl ?_
 refine bv rfl (v_lenF rfl rfl ty107 rfl) ?_
 refine bv rfl (v_bin rfl rfl b_sub) ?_
 refine mv rfl rfl ?_
 refine b_fin hK (s' := ⟨[(0, slE (encM (HV.int .u32)) p0), (1, HV.int .u32 p1), (6, HV.ar 200012 v1 (encM (HV.int .u32)).k 0 ((List.replicate (((p0).length : Int)).toNat (0 : Int)).length)), (7, HV.int .u64 0), (8, HV.int .i64 (IntKind.wrap .i64 (((p0).length : Int) - 1)))], [(200012, v1, .arr (encM (HV.int .u32)).k 105 ((encM (HV.int .u32)).E (List.replicate (((p0).length : Int)).toNat (0 : Int))))]⟩) (le_q rfl rfl) ?_
 clear hK K
 refine AW.lpX h (by first | exact up_then | exact up_to) (S := Int × Int × (List Int)) (V := Unit) (fun a v => ⟨[(0, slE (encM (HV.int .u32)) p0), (1, HV.int .u32 p1), (6, HV.ar 200012 v1 (encM (HV.int .u32)).k 0 ((a.2.2).length)), (7, HV.int .u64 a.1), (8, HV.int .i64 a.2.1)], [(200012, v1, .arr (encM (HV.int .u32)).k 105 ((encM (HV.int .u32)).E a.2.2))]⟩) ?_ (X := (List Int) × Int) (W := Unit) (fun a v => ⟨[(6, HV.ar 200012 v1 (encM (HV.int .u32)).k 0 ((a.1).length)), (7, HV.int .u64 a.2)], [(200012, v1, .arr (encM (HV.int .u32)).k 105 ((encM (HV.int .u32)).E a.1))]⟩) (fun a10 w11 h => ?_) (fun a3 w4 st5 h => ?_)
 ·exact to_le (s' := ⟨[(0, slE (encM (HV.int .u32)) p0), (1, HV.int .u32 p1), (6, HV.ar 200012 v1 (encM (HV.int .u32)).k 0 ((List.replicate (((p0).length : Int)).toNat (0 : Int)).length)), (7, HV.int .u64 0), (8, HV.int .i64 (IntKind.wrap .i64 (((p0).length : Int) - 1)))], [(200012, v1, .arr (encM (HV.int .u32)).k 105 ((encM (HV.int .u32)).E (List.replicate (((p0).length : Int)).toNat (0 : Int))))]⟩) (AS.le_of ⟨rfl, rfl, rfl, rfl, rfl, trivial⟩ ⟨rfl, trivial⟩) ⟨(), rfl⟩
 ·refine AW.to (to_frz 2 [(200012, v1, .arr (encM (HV.int .u32)).k 105 ((encM (HV.int .u32)).E a10.1))] ⟨[(6, slE (encM (HV.int .u32)) a10.1), (7, HV.int .u64 a10.2)], []⟩ ⟨⟨_, rfl, frz_slE (encM (HV.int .u32)) (l := a10.1) rfl fun _ _ => rfl⟩, ⟨_, rfl, rfl⟩, trivial⟩ trivial ⟨rfl, trivial⟩ ⟨rfl, trivial⟩ ?_)
  refine AW.rgs rfl fun K hK => ?_
  refine mv rfl rfl ?_
  obtain ⟨x12, h13, h⟩ := bS h
  refine b_op rfl (o_call rfl rfl rfl rfl (ACallD.pure0 (w_integer_trim h13)) ?_)
  refine mv rfl rfl ?_
  refine bv rfl (v_convI ty103 ty105 rfl) ?_
  refine mv rfl rfl ?_
  refine mv rfl rfl ?_
  refine b_fin hK (s' := ⟨[(4, slE (encM (HV.int .u32)) x12), (5, HV.int .u32 (IntKind.wrap .u32 a10.2))], []⟩) (le_q rfl rfl) ?_
  clear hK K
  refine AW.ret ?_
  have h := Option.some.inj h
  subst h
  exact ret_pure (hs := [slE (encM (HV.int .u32)) x12, HV.int .u32 (IntKind.wrap .u32 a10.2)]) (q := HV.tup [slE (encM (HV.int .u32)) x12, HV.int .u32 (IntKind.wrap .u32 a10.2)]) (.inr rfl) (resT rfl (resT rfl rfl)) rfl ⟨(clean_slE fun _ _ => ⟨trivial, trivial⟩), trivial, trivial⟩
 refine AW.seq ?_
 refine AW.rgs rfl fun K hK => ?_
 refine mv rfl rfl ?_
 refine bv rfl (v_bin rfl rfl b_geq) ?_
 refine b_fin hK (s' := ⟨[(0, slE (encM (HV.int .u32)) p0), (1, HV.int .u32 p1), (6, HV.ar 200012 v1 (encM (HV.int .u32)).k 0 ((a3.2.2).length)), (7, HV.int .u64 a3.1), (8, HV.int .i64 a3.2.1), (17, HV.bool (decide (0 ≤ a3.2.1)))], [(200012, v1, .arr (encM (HV.int .u32)).k 105 ((encM (HV.int .u32)).E a3.2.2))]⟩) (le_q rfl rfl) ?_
 clear hK K
 refine AW.cond rfl (fun hc => ?_) (fun hc => ?_)
 ·have hc := of_decide_eq_true hc
  have h := ifT hc h
  refine AW.skip ?_
  refine AW.seq (AW.block ?_)
  refine AW.rgs rfl fun K hK => ?_
  refine mv rfl rfl ?_
  refine bv rfl (v_bin rfl rfl (b_shl (by decide))) ?_
  refine mv rfl rfl ?_
  refine mv rfl rfl ?_
  obtain ⟨x7, h8, h⟩ := bS h
  refine bv rfl (v_idxF ty107 es107 rfl rfl (idx_lt h8)) ?_
  refine bv rfl (v_loadF ty105 rfl (l_cell (encM (HV.int .u32)) h8 (o := 0) rfl rfl)) ?_
  refine bv rfl (v_convI ty105 ty103 rfl) ?_
  refine bv rfl (v_bin rfl rfl b_or) ?_
  refine mv rfl rfl ?_
  refine b_fin hK (s' := ⟨[(0, slE (encM (HV.int .u32)) p0), (1, HV.int .u32 p1), (6, HV.ar 200012 v1 (encM (HV.int .u32)).k 0 ((a3.2.2).length)), (8, HV.int .i64 a3.2.1), (9, HV.int .u64 (IntKind.wrap .u64 (BitVec.ofInt (IntKind.bits .u64) (IntKind.wrap .u64 (a3.1 * 2 ^ (min (32 : Int).toNat (IntKind.bits .u64)))) ||| BitVec.ofInt (IntKind.bits .u64) (IntKind.wrap .u64 x7)).toNat))], [(200012, v1, .arr (encM (HV.int .u32)).k 105 ((encM (HV.int .u32)).E a3.2.2))]⟩) (le_q rfl rfl) ?_
  clear hK K
  refine AW.dl follows fun K hK F hF => ?_
  obtain ⟨h90501, h⟩ := ifN h
  obtain ⟨h91001, h⟩ := ifN h
  obtain ⟨x91101, h91102, h⟩ := bS h
  refine l_go (L' := []) hF rfl (s' := ⟨[(0, slE (encM (HV.int .u32)) p0), (1, HV.int .u32 p1), (6, HV.ar 200012 v1 (encM (HV.int .u32)).k 0 ((a3.2.2).length)), (8, HV.int .i64 a3.2.1), (9, HV.int .u64 (IntKind.wrap .u64 (BitVec.ofInt (IntKind.bits .u64) (IntKind.wrap .u64 (a3.1 * 2 ^ (min (32 : Int).toNat (IntKind.bits .u64)))) ||| BitVec.ofInt (IntKind.bits .u64) (IntKind.wrap .u64 x7)).toNat))], [(200012, v1, .arr (encM (HV.int .u32)).k 105 ((encM (HV.int .u32)).E a3.2.2))]⟩) ?_ (le_q rfl rfl)
  have g9_16 : F [0, 1, 2, 3, 4, 5, 6, 7, 8, 9, 10, 11, 12, 13] ⟨[(0, slE (encM (HV.int .u32)) p0), (1, HV.int .u32 p1), (6, HV.ar 200012 v1 (encM (HV.int .u32)).k 0 ((a3.2.2).length)), (7, HV.int .u64 (Int.tmod (IntKind.wrap .u64 (BitVec.ofInt (IntKind.bits .u64) (IntKind.wrap .u64 (a3.1 * 2 ^ (min (32 : Int).toNat (IntKind.bits .u64)))) ||| BitVec.ofInt (IntKind.bits .u64) (IntKind.wrap .u64 x7)).toNat) (IntKind.wrap .u64 p1))), (8, HV.int .i64 a3.2.1)], [(200012, v1, .arr (encM (HV.int .u32)).k 105 ((encM (HV.int .u32)).E ((a3.2.2).set (a3.2.1).toNat (IntKind.wrap .u32 (IntKind.wrap .u64 (Int.tdiv (IntKind.wrap .u64 (BitVec.ofInt (IntKind.bits .u64) (IntKind.wrap .u64 (a3.1 * 2 ^ (min (32 : Int).toNat (IntKind.bits .u64)))) ||| BitVec.ofInt (IntKind.bits .u64) (IntKind.wrap .u64 x7)).toNat) (IntKind.wrap .u64 p1)))))))]⟩ := by
   refine l_done hF rfl rfl (hK _ (AW.to (to_le (s' := ⟨[(0, slE (encM (HV.int .u32)) p0), (1, HV.int .u32 p1), (6, HV.ar 200012 v1 (encM (HV.int .u32)).k 0 (((a3.2.2).set (a3.2.1).toNat (IntKind.wrap .u32 (IntKind.wrap .u64 (Int.tdiv (IntKind.wrap .u64 (BitVec.ofInt (IntKind.bits .u64) (IntKind.wrap .u64 (a3.1 * 2 ^ (min (32 : Int).toNat (IntKind.bits .u64)))) ||| BitVec.ofInt (IntKind.bits .u64) (IntKind.wrap .u64 x7)).toNat) (IntKind.wrap .u64 p1))))).length)), (7, HV.int .u64 (Int.tmod (IntKind.wrap .u64 (BitVec.ofInt (IntKind.bits .u64) (IntKind.wrap .u64 (a3.1 * 2 ^ (min (32 : Int).toNat (IntKind.bits .u64)))) ||| BitVec.ofInt (IntKind.bits .u64) (IntKind.wrap .u64 x7)).toNat) (IntKind.wrap .u64 p1))), (8, HV.int .i64 a3.2.1)], [(200012, v1, .arr (encM (HV.int .u32)).k 105 ((encM (HV.int .u32)).E ((a3.2.2).set (a3.2.1).toNat (IntKind.wrap .u32 (IntKind.wrap .u64 (Int.tdiv (IntKind.wrap .u64 (BitVec.ofInt (IntKind.bits .u64) (IntKind.wrap .u64 (a3.1 * 2 ^ (min (32 : Int).toNat (IntKind.bits .u64)))) ||| BitVec.ofInt (IntKind.bits .u64) (IntKind.wrap .u64 x7)).toNat) (IntKind.wrap .u64 p1)))))))]⟩) (AS.le_of ⟨rfl, rfl, arl (by first | rfl | simp only [List.length_set, sortI_len, sortS_len]), rfl, rfl, trivial⟩ ⟨rfl, trivial⟩) ?_)))
   first | clear hF F hK K | clear hK K
   refine AW.rg rfl fun K hK => ?_
   refine mv rfl rfl ?_
   refine bv rfl (v_bin rfl rfl b_sub) ?_
   refine mv rfl rfl ?_
   refine b_nil (hK _ ?_)
   first | clear hF F hK K | clear hK K
   exact to_le (s' := ⟨[(0, slE (encM (HV.int .u32)) p0), (1, HV.int .u32 p1), (6, HV.ar 200012 v1 (encM (HV.int .u32)).k 0 (((a3.2.2).set (a3.2.1).toNat (IntKind.wrap .u32 (IntKind.wrap .u64 (Int.tdiv (IntKind.wrap .u64 (BitVec.ofInt (IntKind.bits .u64) (IntKind.wrap .u64 (a3.1 * 2 ^ (min (32 : Int).toNat (IntKind.bits .u64)))) ||| BitVec.ofInt (IntKind.bits .u64) (IntKind.wrap .u64 x7)).toNat) (IntKind.wrap .u64 p1))))).length)), (7, HV.int .u64 (Int.tmod (IntKind.wrap .u64 (BitVec.ofInt (IntKind.bits .u64) (IntKind.wrap .u64 (a3.1 * 2 ^ (min (32 : Int).toNat (IntKind.bits .u64)))) ||| BitVec.ofInt (IntKind.bits .u64) (IntKind.wrap .u64 x7)).toNat) (IntKind.wrap .u64 p1))), (8, HV.int .i64 (IntKind.wrap .i64 (a3.2.1 - 1)))], [(200012, v1, .arr (encM (HV.int .u32)).k 105 ((encM (HV.int .u32)).E ((a3.2.2).set (a3.2.1).toNat (IntKind.wrap .u32 (IntKind.wrap .u64 (Int.tdiv (IntKind.wrap .u64 (BitVec.ofInt (IntKind.bits .u64) (IntKind.wrap .u64 (a3.1 * 2 ^ (min (32 : Int).toNat (IntKind.bits .u64)))) ||| BitVec.ofInt (IntKind.bits .u64) (IntKind.wrap .u64 x7)).toNat) (IntKind.wrap .u64 p1)))))))]⟩) (AS.le_of ⟨rfl, rfl, rfl, rfl, rfl, trivial⟩ ⟨rfl, trivial⟩) ⟨(Int.tmod (IntKind.wrap .u64 (BitVec.ofInt (IntKind.bits .u64) (IntKind.wrap .u64 (a3.1 * 2 ^ (min (32 : Int).toNat (IntKind.bits .u64)))) ||| BitVec.ofInt (IntKind.bits .u64) (IntKind.wrap .u64 x7)).toNat) (IntKind.wrap .u64 p1), IntKind.wrap .i64 (a3.2.1 - 1), (a3.2.2).set (a3.2.1).toNat (IntKind.wrap .u32 (IntKind.wrap .u64 (Int.tdiv (IntKind.wrap .u64 (BitVec.ofInt (IntKind.bits .u64) (IntKind.wrap .u64 (a3.1 * 2 ^ (min (32 : Int).toNat (IntKind.bits .u64)))) ||| BitVec.ofInt (IntKind.bits .u64) (IntKind.wrap .u64 x7)).toNat) (IntKind.wrap .u64 p1))))), (), h, rfl⟩
  have g9_15 : F [0, 1, 2, 3, 4, 5, 6, 7, 8, 9, 10, 11, 12] ⟨[(0, slE (encM (HV.int .u32)) p0), (1, HV.int .u32 p1), (6, HV.ar 200012 v1 (encM (HV.int .u32)).k 0 ((a3.2.2).length)), (8, HV.int .i64 a3.2.1), (38, HV.int .u64 (Int.tmod (IntKind.wrap .u64 (BitVec.ofInt (IntKind.bits .u64) (IntKind.wrap .u64 (a3.1 * 2 ^ (min (32 : Int).toNat (IntKind.bits .u64)))) ||| BitVec.ofInt (IntKind.bits .u64) (IntKind.wrap .u64 x7)).toNat) (IntKind.wrap .u64 p1)))], [(200012, v1, .arr (encM (HV.int .u32)).k 105 ((encM (HV.int .u32)).E ((a3.2.2).set (a3.2.1).toNat (IntKind.wrap .u32 (IntKind.wrap .u64 (Int.tdiv (IntKind.wrap .u64 (BitVec.ofInt (IntKind.bits .u64) (IntKind.wrap .u64 (a3.1 * 2 ^ (min (32 : Int).toNat (IntKind.bits .u64)))) ||| BitVec.ofInt (IntKind.bits .u64) (IntKind.wrap .u64 x7)).toNat) (IntKind.wrap .u64 p1)))))))]⟩ := by
   refine l_step hF rfl [13] rfl rfl ⟨?_, trivial⟩
   ·refine l_op rfl rfl rfl (o_val rfl (mv_val rfl rfl).2 ?_)
    exact b_nil (l_go hF rfl (g9_16) (le_q rfl rfl))
  have g9_14 : F [0, 1, 2, 3, 4, 5, 6, 7, 8, 9, 10, 11] ⟨[(0, slE (encM (HV.int .u32)) p0), (1, HV.int .u32 p1), (6, HV.ar 200012 v1 (encM (HV.int .u32)).k 0 ((a3.2.2).length)), (8, HV.int .i64 a3.2.1), (34, HV.int .u32 (IntKind.wrap .u32 (IntKind.wrap .u64 (Int.tdiv (IntKind.wrap .u64 (BitVec.ofInt (IntKind.bits .u64) (IntKind.wrap .u64 (a3.1 * 2 ^ (min (32 : Int).toNat (IntKind.bits .u64)))) ||| BitVec.ofInt (IntKind.bits .u64) (IntKind.wrap .u64 x7)).toNat) (IntKind.wrap .u64 p1))))), (38, HV.int .u64 (Int.tmod (IntKind.wrap .u64 (BitVec.ofInt (IntKind.bits .u64) (IntKind.wrap .u64 (a3.1 * 2 ^ (min (32 : Int).toNat (IntKind.bits .u64)))) ||| BitVec.ofInt (IntKind.bits .u64) (IntKind.wrap .u64 x7)).toNat) (IntKind.wrap .u64 p1))), (39, HV.ptr 200012 v1 ((a3.2.1).toNat * (encM (HV.int .u32)).k))], [(200012, v1, .arr (encM (HV.int .u32)).k 105 ((encM (HV.int .u32)).E a3.2.2))]⟩ := by
   refine l_step hF rfl [12] rfl rfl ⟨?_, trivial⟩
   ·refine l_op rfl rfl rfl (o_storeE (encM (HV.int .u32)) (l := a3.2.2) (j := a3.2.1) (v := IntKind.wrap .u32 (IntKind.wrap .u64 (Int.tdiv (IntKind.wrap .u64 (BitVec.ofInt (IntKind.bits .u64) (IntKind.wrap .u64 (a3.1 * 2 ^ (min (32 : Int).toNat (IntKind.bits .u64)))) ||| BitVec.ofInt (IntKind.bits .u64) (IntKind.wrap .u64 x7)).toNat) (IntKind.wrap .u64 p1)))) rfl rfl rfl ty105 rfl rfl rfl (idx_lt h91102) ?_)
    exact b_nil (l_go hF rfl (g9_15) (le_q rfl rfl))
  have g9_20 : F [0, 1, 2, 3, 4, 5, 6, 7, 8, 9, 11, 12] ⟨[(0, slE (encM (HV.int .u32)) p0), (1, HV.int .u32 p1), (6, HV.ar 200012 v1 (encM (HV.int .u32)).k 0 ((a3.2.2).length)), (8, HV.int .i64 a3.2.1), (35, HV.int .u64 (IntKind.wrap .u64 (BitVec.ofInt (IntKind.bits .u64) (IntKind.wrap .u64 (a3.1 * 2 ^ (min (32 : Int).toNat (IntKind.bits .u64)))) ||| BitVec.ofInt (IntKind.bits .u64) (IntKind.wrap .u64 x7)).toNat)), (37, HV.int .u64 (IntKind.wrap .u64 p1))], [(200012, v1, .arr (encM (HV.int .u32)).k 105 ((encM (HV.int .u32)).E ((a3.2.2).set (a3.2.1).toNat (IntKind.wrap .u32 (IntKind.wrap .u64 (Int.tdiv (IntKind.wrap .u64 (BitVec.ofInt (IntKind.bits .u64) (IntKind.wrap .u64 (a3.1 * 2 ^ (min (32 : Int).toNat (IntKind.bits .u64)))) ||| BitVec.ofInt (IntKind.bits .u64) (IntKind.wrap .u64 x7)).toNat) (IntKind.wrap .u64 p1)))))))]⟩ := by
   refine l_step hF rfl [10] rfl rfl ⟨?_, trivial⟩
   ·refine l_op rfl rfl rfl (o_val rfl (v_bin rfl rfl (b_rem h91001)) ?_)
    exact b_nil (l_go hF rfl (g9_15) (le_q rfl rfl))
  have g9_13 : F [0, 1, 2, 3, 4, 5, 6, 7, 8, 9, 10] ⟨[(0, slE (encM (HV.int .u32)) p0), (1, HV.int .u32 p1), (6, HV.ar 200012 v1 (encM (HV.int .u32)).k 0 ((a3.2.2).length)), (8, HV.int .i64 a3.2.1), (28, HV.ar 200012 v1 (encM (HV.int .u32)).k 0 ((a3.2.2).length)), (29, HV.int .i64 a3.2.1), (34, HV.int .u32 (IntKind.wrap .u32 (IntKind.wrap .u64 (Int.tdiv (IntKind.wrap .u64 (BitVec.ofInt (IntKind.bits .u64) (IntKind.wrap .u64 (a3.1 * 2 ^ (min (32 : Int).toNat (IntKind.bits .u64)))) ||| BitVec.ofInt (IntKind.bits .u64) (IntKind.wrap .u64 x7)).toNat) (IntKind.wrap .u64 p1))))), (38, HV.int .u64 (Int.tmod (IntKind.wrap .u64 (BitVec.ofInt (IntKind.bits .u64) (IntKind.wrap .u64 (a3.1 * 2 ^ (min (32 : Int).toNat (IntKind.bits .u64)))) ||| BitVec.ofInt (IntKind.bits .u64) (IntKind.wrap .u64 x7)).toNat) (IntKind.wrap .u64 p1)))], [(200012, v1, .arr (encM (HV.int .u32)).k 105 ((encM (HV.int .u32)).E a3.2.2))]⟩ := by
   refine l_take (i := 11) hF rfl rfl rfl (v_idxA ty107 es107 rfl rfl (idx_lt h91102) rfl) ?_
   exact l_go hF rfl (g9_14) (le_q rfl rfl)
  have g9_19 : F [0, 1, 2, 3, 4, 5, 6, 7, 8, 9, 11] ⟨[(0, slE (encM (HV.int .u32)) p0), (1, HV.int .u32 p1), (6, HV.ar 200012 v1 (encM (HV.int .u32)).k 0 ((a3.2.2).length)), (8, HV.int .i64 a3.2.1), (34, HV.int .u32 (IntKind.wrap .u32 (IntKind.wrap .u64 (Int.tdiv (IntKind.wrap .u64 (BitVec.ofInt (IntKind.bits .u64) (IntKind.wrap .u64 (a3.1 * 2 ^ (min (32 : Int).toNat (IntKind.bits .u64)))) ||| BitVec.ofInt (IntKind.bits .u64) (IntKind.wrap .u64 x7)).toNat) (IntKind.wrap .u64 p1))))), (35, HV.int .u64 (IntKind.wrap .u64 (BitVec.ofInt (IntKind.bits .u64) (IntKind.wrap .u64 (a3.1 * 2 ^ (min (32 : Int).toNat (IntKind.bits .u64)))) ||| BitVec.ofInt (IntKind.bits .u64) (IntKind.wrap .u64 x7)).toNat)), (37, HV.int .u64 (IntKind.wrap .u64 p1)), (39, HV.ptr 200012 v1 ((a3.2.1).toNat * (encM (HV.int .u32)).k))], [(200012, v1, .arr (encM (HV.int .u32)).k 105 ((encM (HV.int .u32)).E a3.2.2))]⟩ := by
   refine l_step hF rfl [10, 12] rfl rfl ⟨?_, ?_, trivial⟩
   ·refine l_op rfl rfl rfl (o_val rfl (v_bin rfl rfl (b_rem h91001)) ?_)
    exact b_nil (l_go hF rfl (g9_14) (le_q rfl rfl))
   ·refine l_op rfl rfl rfl (o_storeE (encM (HV.int .u32)) (l := a3.2.2) (j := a3.2.1) (v := IntKind.wrap .u32 (IntKind.wrap .u64 (Int.tdiv (IntKind.wrap .u64 (BitVec.ofInt (IntKind.bits .u64) (IntKind.wrap .u64 (a3.1 * 2 ^ (min (32 : Int).toNat (IntKind.bits .u64)))) ||| BitVec.ofInt (IntKind.bits .u64) (IntKind.wrap .u64 x7)).toNat) (IntKind.wrap .u64 p1)))) rfl rfl rfl ty105 rfl rfl rfl (idx_lt h91102) ?_)
    exact b_nil (l_go hF rfl (g9_20) (le_q rfl rfl))
  have g9_24 : F [0, 1, 2, 3, 4, 5, 6, 7, 8, 11, 12] ⟨[(0, slE (encM (HV.int .u32)) p0), (1, HV.int .u32 p1), (6, HV.ar 200012 v1 (encM (HV.int .u32)).k 0 ((a3.2.2).length)), (8, HV.int .i64 a3.2.1), (35, HV.int .u64 (IntKind.wrap .u64 (BitVec.ofInt (IntKind.bits .u64) (IntKind.wrap .u64 (a3.1 * 2 ^ (min (32 : Int).toNat (IntKind.bits .u64)))) ||| BitVec.ofInt (IntKind.bits .u64) (IntKind.wrap .u64 x7)).toNat)), (36, HV.int .u32 p1)], [(200012, v1, .arr (encM (HV.int .u32)).k 105 ((encM (HV.int .u32)).E ((a3.2.2).set (a3.2.1).toNat (IntKind.wrap .u32 (IntKind.wrap .u64 (Int.tdiv (IntKind.wrap .u64 (BitVec.ofInt (IntKind.bits .u64) (IntKind.wrap .u64 (a3.1 * 2 ^ (min (32 : Int).toNat (IntKind.bits .u64)))) ||| BitVec.ofInt (IntKind.bits .u64) (IntKind.wrap .u64 x7)).toNat) (IntKind.wrap .u64 p1)))))))]⟩ := by
   refine l_step hF rfl [9] rfl rfl ⟨?_, trivial⟩
   ·refine l_op rfl rfl rfl (o_val rfl (v_convI ty105 ty103 rfl) ?_)
    exact b_nil (l_go hF rfl (g9_20) (le_q rfl rfl))
  have g9_12 : F [0, 1, 2, 3, 4, 5, 7, 8, 9, 10] ⟨[(0, slE (encM (HV.int .u32)) p0), (1, HV.int .u32 p1), (6, HV.ar 200012 v1 (encM (HV.int .u32)).k 0 ((a3.2.2).length)), (8, HV.int .i64 a3.2.1), (28, HV.ar 200012 v1 (encM (HV.int .u32)).k 0 ((a3.2.2).length)), (29, HV.int .i64 a3.2.1), (33, HV.int .u64 (IntKind.wrap .u64 (Int.tdiv (IntKind.wrap .u64 (BitVec.ofInt (IntKind.bits .u64) (IntKind.wrap .u64 (a3.1 * 2 ^ (min (32 : Int).toNat (IntKind.bits .u64)))) ||| BitVec.ofInt (IntKind.bits .u64) (IntKind.wrap .u64 x7)).toNat) (IntKind.wrap .u64 p1)))), (38, HV.int .u64 (Int.tmod (IntKind.wrap .u64 (BitVec.ofInt (IntKind.bits .u64) (IntKind.wrap .u64 (a3.1 * 2 ^ (min (32 : Int).toNat (IntKind.bits .u64)))) ||| BitVec.ofInt (IntKind.bits .u64) (IntKind.wrap .u64 x7)).toNat) (IntKind.wrap .u64 p1)))], [(200012, v1, .arr (encM (HV.int .u32)).k 105 ((encM (HV.int .u32)).E a3.2.2))]⟩ := by
   refine l_step hF rfl [6] rfl rfl ⟨?_, trivial⟩
   ·refine l_op rfl rfl rfl (o_val rfl (v_convI ty103 ty105 rfl) ?_)
    exact b_nil (l_go hF rfl (g9_13) (le_q rfl rfl))
  have g9_18 : F [0, 1, 2, 3, 4, 5, 6, 7, 8, 9] ⟨[(0, slE (encM (HV.int .u32)) p0), (1, HV.int .u32 p1), (6, HV.ar 200012 v1 (encM (HV.int .u32)).k 0 ((a3.2.2).length)), (8, HV.int .i64 a3.2.1), (28, HV.ar 200012 v1 (encM (HV.int .u32)).k 0 ((a3.2.2).length)), (29, HV.int .i64 a3.2.1), (34, HV.int .u32 (IntKind.wrap .u32 (IntKind.wrap .u64 (Int.tdiv (IntKind.wrap .u64 (BitVec.ofInt (IntKind.bits .u64) (IntKind.wrap .u64 (a3.1 * 2 ^ (min (32 : Int).toNat (IntKind.bits .u64)))) ||| BitVec.ofInt (IntKind.bits .u64) (IntKind.wrap .u64 x7)).toNat) (IntKind.wrap .u64 p1))))), (35, HV.int .u64 (IntKind.wrap .u64 (BitVec.ofInt (IntKind.bits .u64) (IntKind.wrap .u64 (a3.1 * 2 ^ (min (32 : Int).toNat (IntKind.bits .u64)))) ||| BitVec.ofInt (IntKind.bits .u64) (IntKind.wrap .u64 x7)).toNat)), (37, HV.int .u64 (IntKind.wrap .u64 p1))], [(200012, v1, .arr (encM (HV.int .u32)).k 105 ((encM (HV.int .u32)).E a3.2.2))]⟩ := by
   refine l_take (i := 11) hF rfl rfl rfl (v_idxA ty107 es107 rfl rfl (idx_lt h91102) rfl) ?_
   exact l_go hF rfl (g9_19) (le_q rfl rfl)
  have g9_23 : F [0, 1, 2, 3, 4, 5, 6, 7, 8, 11] ⟨[(0, slE (encM (HV.int .u32)) p0), (1, HV.int .u32 p1), (6, HV.ar 200012 v1 (encM (HV.int .u32)).k 0 ((a3.2.2).length)), (8, HV.int .i64 a3.2.1), (34, HV.int .u32 (IntKind.wrap .u32 (IntKind.wrap .u64 (Int.tdiv (IntKind.wrap .u64 (BitVec.ofInt (IntKind.bits .u64) (IntKind.wrap .u64 (a3.1 * 2 ^ (min (32 : Int).toNat (IntKind.bits .u64)))) ||| BitVec.ofInt (IntKind.bits .u64) (IntKind.wrap .u64 x7)).toNat) (IntKind.wrap .u64 p1))))), (35, HV.int .u64 (IntKind.wrap .u64 (BitVec.ofInt (IntKind.bits .u64) (IntKind.wrap .u64 (a3.1 * 2 ^ (min (32 : Int).toNat (IntKind.bits .u64)))) ||| BitVec.ofInt (IntKind.bits .u64) (IntKind.wrap .u64 x7)).toNat)), (36, HV.int .u32 p1), (39, HV.ptr 200012 v1 ((a3.2.1).toNat * (encM (HV.int .u32)).k))], [(200012, v1, .arr (encM (HV.int .u32)).k 105 ((encM (HV.int .u32)).E a3.2.2))]⟩ := by
   refine l_step hF rfl [9, 12] rfl rfl ⟨?_, ?_, trivial⟩
   ·refine l_op rfl rfl rfl (o_val rfl (v_convI ty105 ty103 rfl) ?_)
    exact b_nil (l_go hF rfl (g9_19) (le_q rfl rfl))
   ·refine l_op rfl rfl rfl (o_storeE (encM (HV.int .u32)) (l := a3.2.2) (j := a3.2.1) (v := IntKind.wrap .u32 (IntKind.wrap .u64 (Int.tdiv (IntKind.wrap .u64 (BitVec.ofInt (IntKind.bits .u64) (IntKind.wrap .u64 (a3.1 * 2 ^ (min (32 : Int).toNat (IntKind.bits .u64)))) ||| BitVec.ofInt (IntKind.bits .u64) (IntKind.wrap .u64 x7)).toNat) (IntKind.wrap .u64 p1)))) rfl rfl rfl ty105 rfl rfl rfl (idx_lt h91102) ?_)
    exact b_nil (l_go hF rfl (g9_24) (le_q rfl rfl))
  have g9_11 : F [0, 1, 2, 3, 4, 7, 8, 9, 10] ⟨[(0, slE (encM (HV.int .u32)) p0), (1, HV.int .u32 p1), (6, HV.ar 200012 v1 (encM (HV.int .u32)).k 0 ((a3.2.2).length)), (8, HV.int .i64 a3.2.1), (28, HV.ar 200012 v1 (encM (HV.int .u32)).k 0 ((a3.2.2).length)), (29, HV.int .i64 a3.2.1), (30, HV.int .u64 (IntKind.wrap .u64 (BitVec.ofInt (IntKind.bits .u64) (IntKind.wrap .u64 (a3.1 * 2 ^ (min (32 : Int).toNat (IntKind.bits .u64)))) ||| BitVec.ofInt (IntKind.bits .u64) (IntKind.wrap .u64 x7)).toNat)), (32, HV.int .u64 (IntKind.wrap .u64 p1)), (38, HV.int .u64 (Int.tmod (IntKind.wrap .u64 (BitVec.ofInt (IntKind.bits .u64) (IntKind.wrap .u64 (a3.1 * 2 ^ (min (32 : Int).toNat (IntKind.bits .u64)))) ||| BitVec.ofInt (IntKind.bits .u64) (IntKind.wrap .u64 x7)).toNat) (IntKind.wrap .u64 p1)))], [(200012, v1, .arr (encM (HV.int .u32)).k 105 ((encM (HV.int .u32)).E a3.2.2))]⟩ := by
   refine l_step hF rfl [5] rfl rfl ⟨?_, trivial⟩
   ·refine l_op rfl rfl rfl (o_val rfl (v_bin rfl rfl (b_quo h90501)) ?_)
    exact b_nil (l_go hF rfl (g9_12) (le_q rfl rfl))
  have g9_17 : F [0, 1, 2, 3, 4, 5, 7, 8, 9] ⟨[(0, slE (encM (HV.int .u32)) p0), (1, HV.int .u32 p1), (6, HV.ar 200012 v1 (encM (HV.int .u32)).k 0 ((a3.2.2).length)), (8, HV.int .i64 a3.2.1), (28, HV.ar 200012 v1 (encM (HV.int .u32)).k 0 ((a3.2.2).length)), (29, HV.int .i64 a3.2.1), (33, HV.int .u64 (IntKind.wrap .u64 (Int.tdiv (IntKind.wrap .u64 (BitVec.ofInt (IntKind.bits .u64) (IntKind.wrap .u64 (a3.1 * 2 ^ (min (32 : Int).toNat (IntKind.bits .u64)))) ||| BitVec.ofInt (IntKind.bits .u64) (IntKind.wrap .u64 x7)).toNat) (IntKind.wrap .u64 p1)))), (35, HV.int .u64 (IntKind.wrap .u64 (BitVec.ofInt (IntKind.bits .u64) (IntKind.wrap .u64 (a3.1 * 2 ^ (min (32 : Int).toNat (IntKind.bits .u64)))) ||| BitVec.ofInt (IntKind.bits .u64) (IntKind.wrap .u64 x7)).toNat)), (37, HV.int .u64 (IntKind.wrap .u64 p1))], [(200012, v1, .arr (encM (HV.int .u32)).k 105 ((encM (HV.int .u32)).E a3.2.2))]⟩ := by
   refine l_step hF rfl [6, 10] rfl rfl ⟨?_, ?_, trivial⟩
   ·refine l_op rfl rfl rfl (o_val rfl (v_convI ty103 ty105 rfl) ?_)
    exact b_nil (l_go hF rfl (g9_18) (le_q rfl rfl))
   ·refine l_op rfl rfl rfl (o_val rfl (v_bin rfl rfl (b_rem h91001)) ?_)
    exact b_nil (l_go hF rfl (g9_12) (le_q rfl rfl))
  have g9_22 : F [0, 1, 2, 3, 4, 5, 6, 7, 8] ⟨[(0, slE (encM (HV.int .u32)) p0), (1, HV.int .u32 p1), (6, HV.ar 200012 v1 (encM (HV.int .u32)).k 0 ((a3.2.2).length)), (8, HV.int .i64 a3.2.1), (28, HV.ar 200012 v1 (encM (HV.int .u32)).k 0 ((a3.2.2).length)), (29, HV.int .i64 a3.2.1), (34, HV.int .u32 (IntKind.wrap .u32 (IntKind.wrap .u64 (Int.tdiv (IntKind.wrap .u64 (BitVec.ofInt (IntKind.bits .u64) (IntKind.wrap .u64 (a3.1 * 2 ^ (min (32 : Int).toNat (IntKind.bits .u64)))) ||| BitVec.ofInt (IntKind.bits .u64) (IntKind.wrap .u64 x7)).toNat) (IntKind.wrap .u64 p1))))), (35, HV.int .u64 (IntKind.wrap .u64 (BitVec.ofInt (IntKind.bits .u64) (IntKind.wrap .u64 (a3.1 * 2 ^ (min (32 : Int).toNat (IntKind.bits .u64)))) ||| BitVec.ofInt (IntKind.bits .u64) (IntKind.wrap .u64 x7)).toNat)), (36, HV.int .u32 p1)], [(200012, v1, .arr (encM (HV.int .u32)).k 105 ((encM (HV.int .u32)).E a3.2.2))]⟩ := by
   refine l_take (i := 11) hF rfl rfl rfl (v_idxA ty107 es107 rfl rfl (idx_lt h91102) rfl) ?_
   exact l_go hF rfl (g9_23) (le_q rfl rfl)
  have g9_9 : F [0, 1, 2, 3, 4, 7, 8, 9] ⟨[(0, slE (encM (HV.int .u32)) p0), (1, HV.int .u32 p1), (6, HV.ar 200012 v1 (encM (HV.int .u32)).k 0 ((a3.2.2).length)), (8, HV.int .i64 a3.2.1), (28, HV.ar 200012 v1 (encM (HV.int .u32)).k 0 ((a3.2.2).length)), (29, HV.int .i64 a3.2.1), (30, HV.int .u64 (IntKind.wrap .u64 (BitVec.ofInt (IntKind.bits .u64) (IntKind.wrap .u64 (a3.1 * 2 ^ (min (32 : Int).toNat (IntKind.bits .u64)))) ||| BitVec.ofInt (IntKind.bits .u64) (IntKind.wrap .u64 x7)).toNat)), (32, HV.int .u64 (IntKind.wrap .u64 p1)), (35, HV.int .u64 (IntKind.wrap .u64 (BitVec.ofInt (IntKind.bits .u64) (IntKind.wrap .u64 (a3.1 * 2 ^ (min (32 : Int).toNat (IntKind.bits .u64)))) ||| BitVec.ofInt (IntKind.bits .u64) (IntKind.wrap .u64 x7)).toNat)), (37, HV.int .u64 (IntKind.wrap .u64 p1))], [(200012, v1, .arr (encM (HV.int .u32)).k 105 ((encM (HV.int .u32)).E a3.2.2))]⟩ := by
   refine l_step hF rfl [5, 10] rfl rfl ⟨?_, ?_, trivial⟩
   ·refine l_op rfl rfl rfl (o_val rfl (v_bin rfl rfl (b_quo h90501)) ?_)
    exact b_nil (l_go hF rfl (g9_17) (le_q rfl rfl))
   ·refine l_op rfl rfl rfl (o_val rfl (v_bin rfl rfl (b_rem h91001)) ?_)
    exact b_nil (l_go hF rfl (g9_11) (le_q rfl rfl))
  have g9_10 : F [0, 1, 2, 3, 7, 8, 9, 10] ⟨[(0, slE (encM (HV.int .u32)) p0), (1, HV.int .u32 p1), (6, HV.ar 200012 v1 (encM (HV.int .u32)).k 0 ((a3.2.2).length)), (8, HV.int .i64 a3.2.1), (28, HV.ar 200012 v1 (encM (HV.int .u32)).k 0 ((a3.2.2).length)), (29, HV.int .i64 a3.2.1), (30, HV.int .u64 (IntKind.wrap .u64 (BitVec.ofInt (IntKind.bits .u64) (IntKind.wrap .u64 (a3.1 * 2 ^ (min (32 : Int).toNat (IntKind.bits .u64)))) ||| BitVec.ofInt (IntKind.bits .u64) (IntKind.wrap .u64 x7)).toNat)), (31, HV.int .u32 p1), (38, HV.int .u64 (Int.tmod (IntKind.wrap .u64 (BitVec.ofInt (IntKind.bits .u64) (IntKind.wrap .u64 (a3.1 * 2 ^ (min (32 : Int).toNat (IntKind.bits .u64)))) ||| BitVec.ofInt (IntKind.bits .u64) (IntKind.wrap .u64 x7)).toNat) (IntKind.wrap .u64 p1)))], [(200012, v1, .arr (encM (HV.int .u32)).k 105 ((encM (HV.int .u32)).E a3.2.2))]⟩ := by
   refine l_step hF rfl [4] rfl rfl ⟨?_, trivial⟩
   ·refine l_op rfl rfl rfl (o_val rfl (v_convI ty105 ty103 rfl) ?_)
    exact b_nil (l_go hF rfl (g9_11) (le_q rfl rfl))
  have g9_21 : F [0, 1, 2, 3, 4, 5, 7, 8] ⟨[(0, slE (encM (HV.int .u32)) p0), (1, HV.int .u32 p1), (6, HV.ar 200012 v1 (encM (HV.int .u32)).k 0 ((a3.2.2).length)), (8, HV.int .i64 a3.2.1), (28, HV.ar 200012 v1 (encM (HV.int .u32)).k 0 ((a3.2.2).length)), (29, HV.int .i64 a3.2.1), (33, HV.int .u64 (IntKind.wrap .u64 (Int.tdiv (IntKind.wrap .u64 (BitVec.ofInt (IntKind.bits .u64) (IntKind.wrap .u64 (a3.1 * 2 ^ (min (32 : Int).toNat (IntKind.bits .u64)))) ||| BitVec.ofInt (IntKind.bits .u64) (IntKind.wrap .u64 x7)).toNat) (IntKind.wrap .u64 p1)))), (35, HV.int .u64 (IntKind.wrap .u64 (BitVec.ofInt (IntKind.bits .u64) (IntKind.wrap .u64 (a3.1 * 2 ^ (min (32 : Int).toNat (IntKind.bits .u64)))) ||| BitVec.ofInt (IntKind.bits .u64) (IntKind.wrap .u64 x7)).toNat)), (36, HV.int .u32 p1)], [(200012, v1, .arr (encM (HV.int .u32)).k 105 ((encM (HV.int .u32)).E a3.2.2))]⟩ := by
   refine l_step hF rfl [6, 9] rfl rfl ⟨?_, ?_, trivial⟩
   ·refine l_op rfl rfl rfl (o_val rfl (v_convI ty103 ty105 rfl) ?_)
    exact b_nil (l_go hF rfl (g9_22) (le_q rfl rfl))
   ·refine l_op rfl rfl rfl (o_val rfl (v_convI ty105 ty103 rfl) ?_)
    exact b_nil (l_go hF rfl (g9_17) (le_q rfl rfl))
  have g9_7 : F [0, 1, 2, 3, 4, 7, 8] ⟨[(0, slE (encM (HV.int .u32)) p0), (1, HV.int .u32 p1), (6, HV.ar 200012 v1 (encM (HV.int .u32)).k 0 ((a3.2.2).length)), (8, HV.int .i64 a3.2.1), (28, HV.ar 200012 v1 (encM (HV.int .u32)).k 0 ((a3.2.2).length)), (29, HV.int .i64 a3.2.1), (30, HV.int .u64 (IntKind.wrap .u64 (BitVec.ofInt (IntKind.bits .u64) (IntKind.wrap .u64 (a3.1 * 2 ^ (min (32 : Int).toNat (IntKind.bits .u64)))) ||| BitVec.ofInt (IntKind.bits .u64) (IntKind.wrap .u64 x7)).toNat)), (32, HV.int .u64 (IntKind.wrap .u64 p1)), (35, HV.int .u64 (IntKind.wrap .u64 (BitVec.ofInt (IntKind.bits .u64) (IntKind.wrap .u64 (a3.1 * 2 ^ (min (32 : Int).toNat (IntKind.bits .u64)))) ||| BitVec.ofInt (IntKind.bits .u64) (IntKind.wrap .u64 x7)).toNat)), (36, HV.int .u32 p1)], [(200012, v1, .arr (encM (HV.int .u32)).k 105 ((encM (HV.int .u32)).E a3.2.2))]⟩ := by
   refine l_step hF rfl [5, 9] rfl rfl ⟨?_, ?_, trivial⟩
   ·refine l_op rfl rfl rfl (o_val rfl (v_bin rfl rfl (b_quo h90501)) ?_)
    exact b_nil (l_go hF rfl (g9_21) (le_q rfl rfl))
   ·refine l_op rfl rfl rfl (o_val rfl (v_convI ty105 ty103 rfl) ?_)
    exact b_nil (l_go hF rfl (g9_9) (le_q rfl rfl))
  have g9_8 : F [0, 1, 2, 3, 7, 8, 9] ⟨[(0, slE (encM (HV.int .u32)) p0), (1, HV.int .u32 p1), (6, HV.ar 200012 v1 (encM (HV.int .u32)).k 0 ((a3.2.2).length)), (8, HV.int .i64 a3.2.1), (28, HV.ar 200012 v1 (encM (HV.int .u32)).k 0 ((a3.2.2).length)), (29, HV.int .i64 a3.2.1), (30, HV.int .u64 (IntKind.wrap .u64 (BitVec.ofInt (IntKind.bits .u64) (IntKind.wrap .u64 (a3.1 * 2 ^ (min (32 : Int).toNat (IntKind.bits .u64)))) ||| BitVec.ofInt (IntKind.bits .u64) (IntKind.wrap .u64 x7)).toNat)), (31, HV.int .u32 p1), (35, HV.int .u64 (IntKind.wrap .u64 (BitVec.ofInt (IntKind.bits .u64) (IntKind.wrap .u64 (a3.1 * 2 ^ (min (32 : Int).toNat (IntKind.bits .u64)))) ||| BitVec.ofInt (IntKind.bits .u64) (IntKind.wrap .u64 x7)).toNat)), (37, HV.int .u64 (IntKind.wrap .u64 p1))], [(200012, v1, .arr (encM (HV.int .u32)).k 105 ((encM (HV.int .u32)).E a3.2.2))]⟩ := by
   refine l_step hF rfl [4, 10] rfl rfl ⟨?_, ?_, trivial⟩
   ·refine l_op rfl rfl rfl (o_val rfl (v_convI ty105 ty103 rfl) ?_)
    exact b_nil (l_go hF rfl (g9_9) (le_q rfl rfl))
   ·refine l_op rfl rfl rfl (o_val rfl (v_bin rfl rfl (b_rem h91001)) ?_)
    exact b_nil (l_go hF rfl (g9_10) (le_q rfl rfl))
  have g9_6 : F [0, 1, 2, 3, 7, 8] ⟨[(0, slE (encM (HV.int .u32)) p0), (1, HV.int .u32 p1), (6, HV.ar 200012 v1 (encM (HV.int .u32)).k 0 ((a3.2.2).length)), (8, HV.int .i64 a3.2.1), (28, HV.ar 200012 v1 (encM (HV.int .u32)).k 0 ((a3.2.2).length)), (29, HV.int .i64 a3.2.1), (30, HV.int .u64 (IntKind.wrap .u64 (BitVec.ofInt (IntKind.bits .u64) (IntKind.wrap .u64 (a3.1 * 2 ^ (min (32 : Int).toNat (IntKind.bits .u64)))) ||| BitVec.ofInt (IntKind.bits .u64) (IntKind.wrap .u64 x7)).toNat)), (31, HV.int .u32 p1), (35, HV.int .u64 (IntKind.wrap .u64 (BitVec.ofInt (IntKind.bits .u64) (IntKind.wrap .u64 (a3.1 * 2 ^ (min (32 : Int).toNat (IntKind.bits .u64)))) ||| BitVec.ofInt (IntKind.bits .u64) (IntKind.wrap .u64 x7)).toNat)), (36, HV.int .u32 p1)], [(200012, v1, .arr (encM (HV.int .u32)).k 105 ((encM (HV.int .u32)).E a3.2.2))]⟩ := by
   refine l_step hF rfl [4, 9] rfl rfl ⟨?_, ?_, trivial⟩
   ·refine l_op rfl rfl rfl (o_val rfl (v_convI ty105 ty103 rfl) ?_)
    exact b_nil (l_go hF rfl (g9_7) (le_q rfl rfl))
   ·refine l_op rfl rfl rfl (o_val rfl (v_convI ty105 ty103 rfl) ?_)
    exact b_nil (l_go hF rfl (g9_8) (le_q rfl rfl))
  have g9_5 : F [0, 1, 2, 3, 7] ⟨[(0, slE (encM (HV.int .u32)) p0), (1, HV.int .u32 p1), (6, HV.ar 200012 v1 (encM (HV.int .u32)).k 0 ((a3.2.2).length)), (8, HV.int .i64 a3.2.1), (28, HV.ar 200012 v1 (encM (HV.int .u32)).k 0 ((a3.2.2).length)), (29, HV.int .i64 a3.2.1), (30, HV.int .u64 (IntKind.wrap .u64 (BitVec.ofInt (IntKind.bits .u64) (IntKind.wrap .u64 (a3.1 * 2 ^ (min (32 : Int).toNat (IntKind.bits .u64)))) ||| BitVec.ofInt (IntKind.bits .u64) (IntKind.wrap .u64 x7)).toNat)), (31, HV.int .u32 p1), (35, HV.int .u64 (IntKind.wrap .u64 (BitVec.ofInt (IntKind.bits .u64) (IntKind.wrap .u64 (a3.1 * 2 ^ (min (32 : Int).toNat (IntKind.bits .u64)))) ||| BitVec.ofInt (IntKind.bits .u64) (IntKind.wrap .u64 x7)).toNat))], [(200012, v1, .arr (encM (HV.int .u32)).k 105 ((encM (HV.int .u32)).E a3.2.2))]⟩ := by
   refine l_take (i := 8) hF rfl rfl rfl (mv_val rfl rfl).2 ?_
   exact l_go hF rfl (g9_6) (le_q rfl rfl)
  have g9_4 : F [0, 1, 2, 3] ⟨[(0, slE (encM (HV.int .u32)) p0), (1, HV.int .u32 p1), (6, HV.ar 200012 v1 (encM (HV.int .u32)).k 0 ((a3.2.2).length)), (8, HV.int .i64 a3.2.1), (9, HV.int .u64 (IntKind.wrap .u64 (BitVec.ofInt (IntKind.bits .u64) (IntKind.wrap .u64 (a3.1 * 2 ^ (min (32 : Int).toNat (IntKind.bits .u64)))) ||| BitVec.ofInt (IntKind.bits .u64) (IntKind.wrap .u64 x7)).toNat)), (28, HV.ar 200012 v1 (encM (HV.int .u32)).k 0 ((a3.2.2).length)), (29, HV.int .i64 a3.2.1), (30, HV.int .u64 (IntKind.wrap .u64 (BitVec.ofInt (IntKind.bits .u64) (IntKind.wrap .u64 (a3.1 * 2 ^ (min (32 : Int).toNat (IntKind.bits .u64)))) ||| BitVec.ofInt (IntKind.bits .u64) (IntKind.wrap .u64 x7)).toNat)), (31, HV.int .u32 p1)], [(200012, v1, .arr (encM (HV.int .u32)).k 105 ((encM (HV.int .u32)).E a3.2.2))]⟩ := by
   refine l_take (i := 7) hF rfl rfl rfl (mv_val rfl rfl).2 ?_
   exact l_go hF rfl (g9_5) (le_q rfl rfl)
  have g9_3 : F [0, 1, 2] ⟨[(0, slE (encM (HV.int .u32)) p0), (1, HV.int .u32 p1), (6, HV.ar 200012 v1 (encM (HV.int .u32)).k 0 ((a3.2.2).length)), (8, HV.int .i64 a3.2.1), (9, HV.int .u64 (IntKind.wrap .u64 (BitVec.ofInt (IntKind.bits .u64) (IntKind.wrap .u64 (a3.1 * 2 ^ (min (32 : Int).toNat (IntKind.bits .u64)))) ||| BitVec.ofInt (IntKind.bits .u64) (IntKind.wrap .u64 x7)).toNat)), (28, HV.ar 200012 v1 (encM (HV.int .u32)).k 0 ((a3.2.2).length)), (29, HV.int .i64 a3.2.1), (30, HV.int .u64 (IntKind.wrap .u64 (BitVec.ofInt (IntKind.bits .u64) (IntKind.wrap .u64 (a3.1 * 2 ^ (min (32 : Int).toNat (IntKind.bits .u64)))) ||| BitVec.ofInt (IntKind.bits .u64) (IntKind.wrap .u64 x7)).toNat))], [(200012, v1, .arr (encM (HV.int .u32)).k 105 ((encM (HV.int .u32)).E a3.2.2))]⟩ := by
   refine l_take (i := 3) hF rfl rfl rfl (mv_val rfl rfl).2 ?_
   exact l_go hF rfl (g9_4) (le_q rfl rfl)
  have g9_2 : F [0, 1] ⟨[(0, slE (encM (HV.int .u32)) p0), (1, HV.int .u32 p1), (6, HV.ar 200012 v1 (encM (HV.int .u32)).k 0 ((a3.2.2).length)), (8, HV.int .i64 a3.2.1), (9, HV.int .u64 (IntKind.wrap .u64 (BitVec.ofInt (IntKind.bits .u64) (IntKind.wrap .u64 (a3.1 * 2 ^ (min (32 : Int).toNat (IntKind.bits .u64)))) ||| BitVec.ofInt (IntKind.bits .u64) (IntKind.wrap .u64 x7)).toNat)), (28, HV.ar 200012 v1 (encM (HV.int .u32)).k 0 ((a3.2.2).length)), (29, HV.int .i64 a3.2.1)], [(200012, v1, .arr (encM (HV.int .u32)).k 105 ((encM (HV.int .u32)).E a3.2.2))]⟩ := by
   refine l_take (i := 2) hF rfl rfl rfl (mv_val rfl rfl).2 ?_
   exact l_go hF rfl (g9_3) (le_q rfl rfl)
  have g9_1 : F [0] ⟨[(0, slE (encM (HV.int .u32)) p0), (1, HV.int .u32 p1), (6, HV.ar 200012 v1 (encM (HV.int .u32)).k 0 ((a3.2.2).length)), (8, HV.int .i64 a3.2.1), (9, HV.int .u64 (IntKind.wrap .u64 (BitVec.ofInt (IntKind.bits .u64) (IntKind.wrap .u64 (a3.1 * 2 ^ (min (32 : Int).toNat (IntKind.bits .u64)))) ||| BitVec.ofInt (IntKind.bits .u64) (IntKind.wrap .u64 x7)).toNat)), (28, HV.ar 200012 v1 (encM (HV.int .u32)).k 0 ((a3.2.2).length))], [(200012, v1, .arr (encM (HV.int .u32)).k 105 ((encM (HV.int .u32)).E a3.2.2))]⟩ := by
   refine l_take (i := 1) hF rfl rfl rfl (mv_val rfl rfl).2 ?_
   exact l_go hF rfl (g9_2) (le_q rfl rfl)
  have g9_0 : F [] ⟨[(0, slE (encM (HV.int .u32)) p0), (1, HV.int .u32 p1), (6, HV.ar 200012 v1 (encM (HV.int .u32)).k 0 ((a3.2.2).length)), (8, HV.int .i64 a3.2.1), (9, HV.int .u64 (IntKind.wrap .u64 (BitVec.ofInt (IntKind.bits .u64) (IntKind.wrap .u64 (a3.1 * 2 ^ (min (32 : Int).toNat (IntKind.bits .u64)))) ||| BitVec.ofInt (IntKind.bits .u64) (IntKind.wrap .u64 x7)).toNat))], [(200012, v1, .arr (encM (HV.int .u32)).k 105 ((encM (HV.int .u32)).E a3.2.2))]⟩ := by
   refine l_take (i := 0) hF rfl rfl rfl (mv_val rfl rfl).2 ?_
   exact l_go hF rfl (g9_1) (le_q rfl rfl)
  exact g9_0
 have hc := of_decide_eq_false hc
 have h := ifF hc h
 refine AW.exit ?_
 exact to_le (s' := ⟨[(6, HV.ar 200012 v1 (encM (HV.int .u32)).k 0 ((a3.2.2).length)), (7, HV.int .u64 a3.1)], [(200012, v1, .arr (encM (HV.int .u32)).k 105 ((encM (HV.int .u32)).E a3.2.2))]⟩) (AS.le_of ⟨rfl, rfl, trivial⟩ ⟨rfl, trivial⟩) ⟨(a3.2.2, a3.1), (), h, rfl⟩

set_option maxHeartbeats 1600000 in
set_option maxRecDepth 100000 in
theorem w_integer_divide {p0 : List (Int)} {p1 : List (Int)} {r : (List (Int)) × (List (Int))} (h : m_integer_divide p0 p1 = some r) : Pure Tryz.prog 170 [slE (encM (HV.int .u32)) p0, slE (encM (HV.int .u32)) p1] (· = HV.tup [slE (encM (HV.int .u32)) r.1, slE (encM (HV.int .u32)) r.2]) := by
 unfold m_integer_divide at h
 refine Pure.of_body Tryz.func170 rfl rfl (Nat.le_of_ble_eq_true rfl) fun hf => ?_
 unfold Tryz.f170
 dsimp only [enumS, Nat.reduceAdd]
 refine AW.rgs rfl fun K hK => ?_
 refine mv rfl rfl ?_
 refine mv rfl rfl ?_
 refine b_fin hK (s' := ⟨[(0, slE (encM (HV.int .u32)) p0), (1, slE (encM (HV.int .u32)) p1)], []⟩) (le_q rfl rfl) ?_
 clear hK K
 refine AW.seq ?_
 refine AW.rgs rfl fun K hK => ?_
 refine mv rfl rfl ?_
 refine mv rfl rfl ?_
 obtain ⟨x1, h2, h⟩ := bS h
 refine b_op rfl (o_call rfl rfl rfl rfl (ACallD.pure0 (w_integer_compare h2)) ?_)
 refine bv rfl (v_bin rfl rfl b_lss) ?_
 refine b_fin hK (s' := ⟨[(0, slE (encM (HV.int .u32)) p0), (1, slE (encM (HV.int .u32)) p1), (31, HV.bool (decide (x1 < 0)))], []⟩) (le_q rfl rfl) ?_
 clear hK K
 refine AW.cond rfl (fun hc => ?_) (fun hc => ?_)
 ·have hc := of_decide_eq_true hc
  have h := ifT hc h
  refine AW.rgs rfl fun K hK => ?_
  refine mv rfl rfl ?_
  refine mv rfl rfl ?_
  refine mv rfl rfl ?_
  refine b_fin hK (s' := ⟨[(4, HV.v (.slice none 0 0)), (5, slE (encM (HV.int .u32)) p0)], []⟩) (le_q rfl rfl) ?_
  clear hK K
  refine AW.to (to_weak ⟨[(4, slE (encM (HV.int .u32)) ([] : List Int)), (5, slE (encM (HV.int .u32)) p0)], []⟩ ⟨⟨_, rfl, .nil _⟩, ⟨_, rfl, .refl _⟩, trivial⟩ trivial ?_)
  refine AW.ret ?_
  have h := Option.some.inj h
  subst h
  exact ret_pure (hs := [slE (encM (HV.int .u32)) ([] : List Int), slE (encM (HV.int .u32)) p0]) (q := HV.tup [slE (encM (HV.int .u32)) ([] : List Int), slE (encM (HV.int .u32)) p0]) (.inr rfl) (resT rfl (resT rfl rfl)) rfl ⟨(clean_slE fun _ _ => ⟨trivial, trivial⟩), (clean_slE fun _ _ => ⟨trivial, trivial⟩), trivial⟩
 have hc := of_decide_eq_false hc
 have h := ifF hc h
 refine AW.skip ?_
 refine AW.seq ?_
 refine AW.rgs rfl fun K hK => ?_
 refine mv rfl rfl ?_
 refine bv rfl (v_lenF rfl rfl ty107 rfl) ?_
 refine bv rfl (v_bin rfl rfl b_eql) ?_
 refine b_fin hK (s' := ⟨[(0, slE (encM (HV.int .u32)) p0), (1, slE (encM (HV.int .u32)) p1), (35, HV.bool (decide (((p1).length : Int) = 1)))], []⟩) (le_q rfl rfl) ?_
 clear hK K
 refine AW.cond rfl (fun hc => ?_) (fun hc => ?_)
 ·have hc := of_decide_eq_true hc
  have h := ifT hc h
  refine AW.rgs rfl fun K hK => ?_
  refine mv rfl rfl ?_
  refine mv rfl rfl ?_
  obtain ⟨x3, h4, h⟩ := bS h
  refine bv rfl (v_idxF ty107 es107 rfl rfl (idx_lt h4)) ?_
  refine bv rfl (v_loadF ty105 rfl (l_cell (encM (HV.int .u32)) h4 (o := 0) rfl rfl)) ?_
  obtain ⟨x5, h6, h⟩ := bS h
  refine b_op rfl (o_call rfl rfl rfl rfl (ACallD.pure0 (w_integer_short h6)) ?_)
  refine mv rfl rfl ?_
  refine bv rfl (v_extract rfl rfl) ?_
  refine bv rfl (v_extract rfl rfl) ?_
  refine mv rfl rfl ?_
  refine mv rfl rfl ?_
  refine b_fin hK (s' := ⟨[(6, slE (encM (HV.int .u32)) x5.1), (7, HV.int .u32 x5.2)], []⟩) (le_q rfl rfl) ?_
  clear hK K
  refine AW.rgs rfl fun K hK => ?_
  refine mv rfl rfl ?_
  refine mv rfl rfl ?_
  refine b_op rfl (o_bsl rfl rfl (as_of (cs := [HV.int .u32 x5.2]) ty107 ty105 rfl rfl rfl rfl rfl) ?_)
  obtain ⟨x7, h8, h⟩ := bS h
  refine b_op rfl (o_call rfl rfl rfl rfl (ACallD.pure0 (w_integer_trim h8)) ?_)
  refine mv rfl rfl ?_
  refine mv rfl rfl ?_
  refine b_fin hK (s' := ⟨[(4, slE (encM (HV.int .u32)) x5.1), (5, slE (encM (HV.int .u32)) x7)], []⟩) (le_q rfl rfl) ?_
  clear hK K
  refine AW.ret ?_
  have h := Option.some.inj h
  subst h
  exact ret_pure (hs := [slE (encM (HV.int .u32)) x5.1, slE (encM (HV.int .u32)) x7]) (q := HV.tup [slE (encM (HV.int .u32)) x5.1, slE (encM (HV.int .u32)) x7]) (.inr rfl) (resT rfl (resT rfl rfl)) rfl ⟨(clean_slE fun _ _ => ⟨trivial, trivial⟩), (clean_slE fun _ _ => ⟨trivial, trivial⟩), trivial⟩
 have hc := of_decide_eq_false hc
 have h := ifF hc h
 refine AW.skip ?_
 cases h

end Go.AW



/- Models that can be evaluated: those with a bound on the rounds of loops; what they give, the models give. -/
namespace Go.AW
open Go

structure Lq {α : Type} (x y : Option α) : Prop where
  ap : ∀ r, x = some r → y = some r

theorem Lq.refl {α : Type} (x : Option α) : Lq x x := ⟨fun _ h => h⟩
theorem Lq.none {α : Type} {y : Option α} : Lq Option.none y := ⟨fun _ h => by cases h⟩
theorem Lq.bind {α β : Type} {x y : Option α} {f g : α → Option β} (h : Lq x y) (hk : ∀ a, Lq (f a) (g a)) : Lq (x.bind f) (y.bind g) := by
  refine ⟨fun r hr => ?_⟩
  obtain ⟨a, ha, hf⟩ := bS hr
  rw [h.ap a ha]
  exact (hk a).ap r hf
theorem Lq.ite {α : Type} {p : Prop} [Decidable p] {a a' b b' : Option α} (h1 : Lq a a') (h2 : Lq b b') : Lq (if p then a else b) (if p then a' else b') := by
  refine ⟨fun r hr => ?_⟩
  by_cases hp : p
  · rw [if_pos hp] at hr ⊢; exact h1.ap r hr
  · rw [if_neg hp] at hr ⊢; exact h2.ap r hr
theorem Lq.jp {S R : Type} {M M' : S → Option R} {B B' : (S → Option R) → Option R} (hM : ∀ a, Lq (M a) (M' a)) (hB : ∀ k k' : S → Option R, (∀ a, Lq (k a) (k' a)) → Lq (B k) (B' k')) : Lq (Go.AW.jp M B) (Go.AW.jp M' B') := hB _ _ hM

theorem iter_mono {S X : Type} {f g : S → Option (Stp S X)} (h : ∀ s, Lq (f s) (g s)) : ∀ (n : Nat) (s : S) (r : X), iter f n s = some r → iter g n s = some r
  | 0, _, _, hr => hr
  | n + 1, s, r, hr => by
    simp only [iter] at hr ⊢
    split at hr
    · rename_i s' hs
      rw [(h s).ap _ hs]
      exact iter_mono h n s' r hr
    · rename_i x hs
      rw [(h s).ap _ hs]
      exact hr
    · cases hr

def loopE {S X : Type} (body : S → Option (Stp S X)) (s : S) : Option X := iter body 1000000 s
theorem Lq.loop {S X : Type} {f g : S → Option (Stp S X)} {s : S} (h : ∀ s, Lq (f s) (g s)) : Lq (loopE f s) (loopW g s) := ⟨fun r hr => loopW_of (iter_mono h _ s r hr)⟩
theorem Lq.lpO {V R Y : Type} {x y : Option (Ou V R)} {M M' : V → Option Y} {Rt Rt' : R → Option Y} (h : Lq x y) (hM : ∀ v, Lq (M v) (M' v)) (hR : ∀ r, Lq (Rt r) (Rt' r)) : Lq (Go.AW.lpO x M Rt) (Go.AW.lpO y M' Rt') := by
  refine ⟨fun r hr => ?_⟩
  unfold Go.AW.lpO at hr ⊢
  split at hr
  · rename_i v
    rw [h.ap _ rfl]; exact (hM v).ap r hr
  · rename_i v
    rw [h.ap _ rfl]; exact (hR v).ap r hr
  · cases hr
theorem forL_mono {S α X : Type} {f g : S → α → Option (Stp S X)} (h : ∀ s a, Lq (f s a) (g s a)) : ∀ (l : List α) (s : S) (r : Ou S X), forL f l s = some r → forL g l s = some r
  | [], _, _, hr => hr
  | x :: l, s, r, hr => by
    simp only [forL] at hr ⊢
    split at hr
    · rename_i s' hs
      rw [(h s x).ap _ hs]
      exact forL_mono h l s' r hr
    · rename_i y hs
      rw [(h s x).ap _ hs]
      exact hr
    · cases hr
theorem Lq.forL {S α X : Type} {f g : S → α → Option (Stp S X)} {l : List α} {s : S} (h : ∀ s a, Lq (f s a) (g s a)) : Lq (Go.AW.forL f l s) (Go.AW.forL g l s) := ⟨forL_mono h l s⟩

end Go.AW

/- Sorting that the kernel can evaluate. -/
namespace Go.AW
open Go
def sortIe (l : List Int) : List Int := isort (fun a b => decide (a ≤ b)) l
theorem sortI_e : sortI = sortIe := funext sortI_isort
end Go.AW

/- Models that can be evaluated, printed by mk2.py. -/
namespace Go.AW
open Go
set_option linter.unusedVariables false
def c_slices_IndexFunc_Lstring_stringG (p0 : List (List UInt8)) (p1 : (List UInt8) → Option (Bool)) : Option (Int) :=
 lpO (loopE (S := Int) (X := Ou (Unit) (Int)) (fun a1 =>
     if a1 < ((p0).length : Int) then
      (idx p0 a1).bind fun x5 =>
      (p1 x5).bind fun x7 =>
      if x7 = true then
       some (Stp.exit (Ou.ret a1))
      else
       some (Stp.next (IntKind.wrap .i64 (a1 + 1)))
     else
      some (Stp.exit (Ou.go ()))) 0) (fun a9 =>
     some (-1)) some
set_option maxHeartbeats 1600000 in
theorem le_slices_IndexFunc_Lstring_stringG {p0 : List (List UInt8)} {p1 p1q : (List UInt8) → Option (Bool)} (hp1 : ∀ a0, Lq (p1 a0) (p1q a0)) : Lq (c_slices_IndexFunc_Lstring_stringG p0 p1) (m_slices_IndexFunc_Lstring_stringG p0 p1q) := by
  unfold c_slices_IndexFunc_Lstring_stringG m_slices_IndexFunc_Lstring_stringG
  repeat' with_reducible first | intro _ | exact Lq.refl _ | exact Lq.none | apply Lq.ite | apply Lq.bind | apply Lq.jp | apply Lq.loop | apply Lq.lpO | apply Lq.forL | apply_assumption

def c_slices_ContainsFunc_Lstring_stringG (p0 : List (List UInt8)) (p1 : (List UInt8) → Option (Bool)) : Option (Bool) :=
 (c_slices_IndexFunc_Lstring_stringG p0 p1).bind fun x1 =>
 some (decide (0 ≤ x1))
set_option maxHeartbeats 1600000 in
theorem le_slices_ContainsFunc_Lstring_stringG {p0 : List (List UInt8)} {p1 p1q : (List UInt8) → Option (Bool)} (hp1 : ∀ a0, Lq (p1 a0) (p1q a0)) : Lq (c_slices_ContainsFunc_Lstring_stringG p0 p1) (m_slices_ContainsFunc_Lstring_stringG p0 p1q) := by
  unfold c_slices_ContainsFunc_Lstring_stringG m_slices_ContainsFunc_Lstring_stringG
  repeat' with_reducible first | intro _ | exact Lq.refl _ | exact Lq.none | apply Lq.ite | apply Lq.bind | apply Lq.jp | apply Lq.loop | apply Lq.lpO | apply Lq.forL | apply_assumption | apply le_slices_IndexFunc_Lstring_stringG

def c_merging_uneven_1 (p0 : List UInt8) (c0 : List (List UInt8)) : Option (Bool) :=
 (idx c0 0).bind fun x1 =>
 some (decide (((p0).length : Int) ≠ ((x1).length : Int)))
set_option maxHeartbeats 1600000 in
theorem le_merging_uneven_1 {p0 : List UInt8} {c0 : List (List UInt8)} : Lq (c_merging_uneven_1 p0 c0) (m_merging_uneven_1 p0 c0) := by
  unfold c_merging_uneven_1 m_merging_uneven_1
  repeat' with_reducible first | intro _ | exact Lq.refl _ | exact Lq.none | apply Lq.ite | apply Lq.bind | apply Lq.jp | apply Lq.loop | apply Lq.lpO | apply Lq.forL | apply_assumption

def c_merging_uneven (p0 : List (List UInt8)) : Option (Bool) :=
 (c_slices_ContainsFunc_Lstring_stringG p0 (fun b0 => c_merging_uneven_1 b0 p0)).bind fun x1 =>
 some x1
set_option maxHeartbeats 1600000 in
theorem le_merging_uneven {p0 : List (List UInt8)} : Lq (c_merging_uneven p0) (m_merging_uneven p0) := by
  unfold c_merging_uneven m_merging_uneven
  repeat' with_reducible first | intro _ | exact Lq.refl _ | exact Lq.none | apply Lq.ite | apply Lq.bind | apply Lq.jp | apply Lq.loop | apply Lq.lpO | apply Lq.forL | apply_assumption | apply le_merging_uneven_1 | apply le_slices_ContainsFunc_Lstring_stringG

def c_merging_letters_1 (p0 : List UInt8) : Option (Bool) :=
 (m_strings_Count p0 [48]).bind fun x1 =>
 (m_strings_Count p0 [49]).bind fun x3 =>
 some (decide ((IntKind.wrap .i64 (x1 + x3)) ≠ ((p0).length : Int)))
set_option maxHeartbeats 1600000 in
theorem le_merging_letters_1 {p0 : List UInt8} : Lq (c_merging_letters_1 p0) (m_merging_letters_1 p0) := by
  unfold c_merging_letters_1 m_merging_letters_1
  repeat' with_reducible first | intro _ | exact Lq.refl _ | exact Lq.none | apply Lq.ite | apply Lq.bind | apply Lq.jp | apply Lq.loop | apply Lq.lpO | apply Lq.forL | apply_assumption

def c_merging_letters (p0 : List (List UInt8)) : Option (Bool) :=
 (c_slices_ContainsFunc_Lstring_stringG p0 (fun b0 => c_merging_letters_1 b0 )).bind fun x1 =>
 some x1
set_option maxHeartbeats 1600000 in
theorem le_merging_letters {p0 : List (List UInt8)} : Lq (c_merging_letters p0) (m_merging_letters p0) := by
  unfold c_merging_letters m_merging_letters
  repeat' with_reducible first | intro _ | exact Lq.refl _ | exact Lq.none | apply Lq.ite | apply Lq.bind | apply Lq.jp | apply Lq.loop | apply Lq.lpO | apply Lq.forL | apply_assumption | apply le_merging_letters_1 | apply le_slices_ContainsFunc_Lstring_stringG

def c_merging_repeats (p0 : List (List UInt8)) : Option (Bool) :=
 lpO (loopE (S := Int × (List (List UInt8 × Bool))) (X := Ou (Unit) (Bool)) (fun a2 =>
     if a2.1 < ((p0).length : Int) then
      (idx p0 a2.1).bind fun x6 =>
      if ((mlook x6 a2.2).getD false) = true then
       some (Stp.exit (Ou.ret true))
      else
       some (Stp.next (IntKind.wrap .i64 (a2.1 + 1), mputN x6 true a2.2))
     else
      some (Stp.exit (Ou.go ()))) (0, ([] : List (List UInt8 × Bool)))) (fun a8 =>
     some false) some
set_option maxHeartbeats 1600000 in
theorem le_merging_repeats {p0 : List (List UInt8)} : Lq (c_merging_repeats p0) (m_merging_repeats p0) := by
  unfold c_merging_repeats m_merging_repeats
  repeat' with_reducible first | intro _ | exact Lq.refl _ | exact Lq.none | apply Lq.ite | apply Lq.bind | apply Lq.jp | apply Lq.loop | apply Lq.lpO | apply Lq.forL | apply_assumption

def c_merging_form (p0 : TWordsMerges) : Option (Int) :=
 jp (fun (a1 : Bool) =>
   if a1 = true then
    some 5
   else
    jp (fun (a4 : Bool) =>
      if a4 = true then
       some 4
      else
       jp (fun (a7 : Bool) =>
         if a7 = true then
          some 11
         else
          jp (fun (a10 : Bool) =>
            if a10 = true then
             some 2
            else
             jp (fun (a13 : Bool) =>
               if a13 = true then
                some 13
               else
                jp (fun (a16 : Bool) =>
                  if a16 = true then
                   some 7
                  else
                   some 0)
                  fun k18 =>
                 (c_merging_repeats p0.1).bind fun x19 =>
                 if x19 = true then
                  k18 true
                 else
                  (c_merging_repeats p0.2).bind fun x21 =>
                  k18 x21)
               fun k15 =>
              (c_merging_letters p0.1).bind fun x24 =>
              if x24 = true then
               k15 true
              else
               (c_merging_letters p0.2).bind fun x26 =>
               k15 x26)
            fun k12 =>
           (idx p0.1 0).bind fun x29 =>
           if ((x29).length : Int) < 1 then
            k12 true
           else
            (idx p0.1 0).bind fun x31 =>
            if 16 < ((x31).length : Int) then
             k12 true
            else
             (idx p0.2 0).bind fun x33 =>
             k12 (decide (16 < ((x33).length : Int))))
         fun k9 =>
        (c_merging_uneven p0.1).bind fun x37 =>
        if x37 = true then
         k9 true
        else
         (c_merging_uneven p0.2).bind fun x39 =>
         k9 x39)
      fun k6 =>
     if 256 < ((p0.1).length : Int) then
      k6 true
     else
      k6 (decide (256 < ((p0.2).length : Int))))
   fun k3 =>
  if ((p0.1).length : Int) = 0 then
   k3 true
  else
   k3 (decide (((p0.2).length : Int) = 0))
set_option maxHeartbeats 1600000 in
theorem le_merging_form {p0 : TWordsMerges} : Lq (c_merging_form p0) (m_merging_form p0) := by
  unfold c_merging_form m_merging_form
  repeat' with_reducible first | intro _ | exact Lq.refl _ | exact Lq.none | apply Lq.ite | apply Lq.bind | apply Lq.jp | apply Lq.loop | apply Lq.lpO | apply Lq.forL | apply_assumption | apply le_merging_letters | apply le_merging_repeats | apply le_merging_uneven

def c_graph_list (p0 : TFromLabelTo) : Option ((List (Int))) :=
  some [p0.1, p0.2.1, p0.2.2]
set_option maxHeartbeats 1600000 in
theorem le_graph_list {p0 : TFromLabelTo} : Lq (c_graph_list p0) (m_graph_list p0) := by
  unfold c_graph_list m_graph_list
  repeat' with_reducible first | intro _ | exact Lq.refl _ | exact Lq.none | apply Lq.ite | apply Lq.bind | apply Lq.jp | apply Lq.loop | apply Lq.lpO | apply Lq.forL | apply_assumption

def c_cmp_isNaN_int (p0 : Int) : Option (Bool) :=
  some (decide (p0 ≠ p0))
set_option maxHeartbeats 1600000 in
theorem le_cmp_isNaN_int {p0 : Int} : Lq (c_cmp_isNaN_int p0) (m_cmp_isNaN_int p0) := by
  unfold c_cmp_isNaN_int m_cmp_isNaN_int
  repeat' with_reducible first | intro _ | exact Lq.refl _ | exact Lq.none | apply Lq.ite | apply Lq.bind | apply Lq.jp | apply Lq.loop | apply Lq.lpO | apply Lq.forL | apply_assumption

def c_cmp_Compare_int (p0 : Int) (p1 : Int) : Option (Int) :=
  (c_cmp_isNaN_int p0).bind fun x1 =>
  (c_cmp_isNaN_int p1).bind fun x3 =>
  if x1 = true then
    if x3 = true then
      some 0
    else
      some (-1)
  else
    if x3 = true then
      some 1
    else
      if p0 < p1 then
        some (-1)
      else
        if p1 < p0 then
          some 1
        else
          some 0
set_option maxHeartbeats 1600000 in
theorem le_cmp_Compare_int {p0 : Int} {p1 : Int} : Lq (c_cmp_Compare_int p0 p1) (m_cmp_Compare_int p0 p1) := by
  unfold c_cmp_Compare_int m_cmp_Compare_int
  repeat' with_reducible first | intro _ | exact Lq.refl _ | exact Lq.none | apply Lq.ite | apply Lq.bind | apply Lq.jp | apply Lq.loop | apply Lq.lpO | apply Lq.forL | apply_assumption | apply le_cmp_isNaN_int

def c_slices_Compare_Lint_int (p0 : List (Int)) (p1 : List (Int)) : Option (Int) :=
  lpO (loopE (S := Int) (X := Ou (Unit) (Int)) (fun a1 =>
      if a1 < ((p0).length : Int) then
        (idx p0 a1).bind fun x5 =>
        if ((p1).length : Int) ≤ a1 then
          some (Stp.exit (Ou.ret 1))
        else
          (idx p1 a1).bind fun x7 =>
          (c_cmp_Compare_int x5 x7).bind fun x9 =>
          if x9 ≠ 0 then
            some (Stp.exit (Ou.ret x9))
          else
            some (Stp.next (IntKind.wrap .i64 (a1 + 1)))
      else
        some (Stp.exit (Ou.go ()))) 0) (fun a11 =>
      if ((p0).length : Int) < ((p1).length : Int) then
        some (-1)
      else
        some 0) some
set_option maxHeartbeats 1600000 in
theorem le_slices_Compare_Lint_int {p0 : List (Int)} {p1 : List (Int)} : Lq (c_slices_Compare_Lint_int p0 p1) (m_slices_Compare_Lint_int p0 p1) := by
  unfold c_slices_Compare_Lint_int m_slices_Compare_Lint_int
  repeat' with_reducible first | intro _ | exact Lq.refl _ | exact Lq.none | apply Lq.ite | apply Lq.bind | apply Lq.jp | apply Lq.loop | apply Lq.lpO | apply Lq.forL | apply_assumption | apply le_cmp_Compare_int

def c_graph_by_api_Edge_1 (p0 : TFromLabelTo) (p1 : TFromLabelTo) : Option (Int) :=
  (c_graph_list p0).bind fun x1 =>
  (c_graph_list p1).bind fun x3 =>
  (c_slices_Compare_Lint_int x1 x3).bind fun x5 =>
  some x5
set_option maxHeartbeats 1600000 in
theorem le_graph_by_api_Edge_1 {p0 : TFromLabelTo} {p1 : TFromLabelTo} : Lq (c_graph_by_api_Edge_1 p0 p1) (m_graph_by_api_Edge_1 p0 p1) := by
  unfold c_graph_by_api_Edge_1 m_graph_by_api_Edge_1
  repeat' with_reducible first | intro _ | exact Lq.refl _ | exact Lq.none | apply Lq.ite | apply Lq.bind | apply Lq.jp | apply Lq.loop | apply Lq.lpO | apply Lq.forL | apply_assumption | apply le_graph_list | apply le_slices_Compare_Lint_int

def c_graph_Check (p0 : TLabelsStatesEdges) : Option (Int) :=
  jp (fun (a1 : Bool) =>
    if a1 = true then
      some 12
    else
      if p0.2.1 < 0 then
        some 2
      else
        jp (fun (a4 : Bool) =>
          if a4 = true then
            some 4
          else
            lpO (loopE (S := Int) (X := Ou (Unit) (Int)) (fun a7 =>
                if a7 < ((p0.2.2).length : Int) then
                  (idx p0.2.2 a7).bind fun x11 =>
                  jp (fun (a14 : Bool) =>
                    if a14 = true then
                      some (Stp.exit (Ou.ret 2))
                    else
                      jp (fun (a17 : Bool) =>
                        if a17 = true then
                          some (Stp.exit (Ou.ret 10))
                        else
                          some (Stp.next (IntKind.wrap .i64 (a7 + 1))))
                        fun k19 =>
                        if 0 < a7 then
                          (idx p0.2.2 (IntKind.wrap .i64 (a7 - 1))).bind fun x20 =>
                          (c_graph_by_api_Edge_1 x20 x11).bind fun x22 =>
                          k19 (decide (0 ≤ x22))
                        else
                          k19 false)
                    fun k16 =>
                    if (min (min x11.1 x11.2.1) x11.2.2) < 0 then
                      k16 true
                    else
                      if p0.2.1 ≤ (max x11.1 x11.2.2) then
                        k16 true
                      else
                        k16 (decide (p0.1 ≤ x11.2.1))
                else
                  some (Stp.exit (Ou.go ()))) 0) (fun a27 =>
                some 0) some)
          fun k6 =>
          if 64 < p0.2.1 then
            k6 true
          else
            k6 (decide (1024 < ((p0.2.2).length : Int))))
    fun k3 =>
    if p0.1 < 1 then
      k3 true
    else
      k3 (decide (256 < p0.1))
set_option maxHeartbeats 1600000 in
theorem le_graph_Check {p0 : TLabelsStatesEdges} : Lq (c_graph_Check p0) (m_graph_Check p0) := by
  unfold c_graph_Check m_graph_Check
  repeat' with_reducible first | intro _ | exact Lq.refl _ | exact Lq.none | apply Lq.ite | apply Lq.bind | apply Lq.jp | apply Lq.loop | apply Lq.lpO | apply Lq.forL | apply_assumption | apply le_graph_by_api_Edge_1

def c_word_known (p0 : Int) : Option (Bool) :=
  jp (fun (a1 : Bool) =>
    some a1)
    fun k3 =>
    if 1 ≤ p0 then
      k3 (decide (p0 ≤ 16))
    else
      k3 false
set_option maxHeartbeats 1600000 in
theorem le_word_known {p0 : Int} : Lq (c_word_known p0) (m_word_known p0) := by
  unfold c_word_known m_word_known
  repeat' with_reducible first | intro _ | exact Lq.refl _ | exact Lq.none | apply Lq.ite | apply Lq.bind | apply Lq.jp | apply Lq.loop | apply Lq.lpO | apply Lq.forL | apply_assumption

def c_strings_IndexByte (l : List UInt8) (c : Int) : Option Int := some (Lib.indexByte l c.toNat.toUInt8)
set_option maxHeartbeats 1600000 in
theorem le_strings_IndexByte {l : List UInt8} {c : Int} : Lq (c_strings_IndexByte l c) (m_strings_IndexByte l c) := by
  unfold c_strings_IndexByte m_strings_IndexByte
  repeat' with_reducible first | intro _ | exact Lq.refl _ | exact Lq.none | apply Lq.ite | apply Lq.bind | apply Lq.jp | apply Lq.loop | apply Lq.lpO | apply Lq.forL | apply_assumption

def c_word_Check (p0 : Int) (p1 : List UInt8) : Option (Int) :=
  (c_word_known p0).bind fun x1 =>
  if (!x1) = true then
    some 12
  else
    if 65536 < ((p1).length : Int) then
      some 4
    else
      lpO (loopE (S := Int) (X := Ou (Unit) (Int)) (fun a3 =>
          if a3 < ((p1).length : Int) then
            if 0 ≤ (0 : Int) ∧ (0 : Int) ≤ p0 ∧ p0 ≤ (([48, 49, 50, 51, 52, 53, 54, 55, 56, 57, 97, 98, 99, 100, 101, 102] : List UInt8).length : Int) then
              (idx p1 a3).bind fun x8 =>
              (c_strings_IndexByte ((([48, 49, 50, 51, 52, 53, 54, 55, 56, 57, 97, 98, 99, 100, 101, 102] : List UInt8).take (p0).toNat).drop (0 : Int).toNat) (x8.toNat : Int)).bind fun x10 =>
              if x10 < 0 then
                some (Stp.exit (Ou.ret 13))
              else
                some (Stp.next (IntKind.wrap .i64 (a3 + 1)))
            else none
          else
            some (Stp.exit (Ou.go ()))) 0) (fun a12 =>
          some 0) some
set_option maxHeartbeats 1600000 in
theorem le_word_Check {p0 : Int} {p1 : List UInt8} : Lq (c_word_Check p0 p1) (m_word_Check p0 p1) := by
  unfold c_word_Check m_word_Check
  repeat' with_reducible first | intro _ | exact Lq.refl _ | exact Lq.none | apply Lq.ite | apply Lq.bind | apply Lq.jp | apply Lq.loop | apply Lq.lpO | apply Lq.forL | apply_assumption | apply le_strings_IndexByte | apply le_word_known

def c_language_check (p0 : TLabelsStatesEdges) : Option (Int) :=
  (c_graph_Check p0).bind fun x1 =>
  if x1 ≠ 0 then
    some 1
  else
    if 16 < p0.1 then
      some 12
    else
      some 0
set_option maxHeartbeats 1600000 in
theorem le_language_check {p0 : TLabelsStatesEdges} : Lq (c_language_check p0) (m_language_check p0) := by
  unfold c_language_check m_language_check
  repeat' with_reducible first | intro _ | exact Lq.refl _ | exact Lq.none | apply Lq.ite | apply Lq.bind | apply Lq.jp | apply Lq.loop | apply Lq.lpO | apply Lq.forL | apply_assumption | apply le_graph_Check

def c_language_spells (p0 : TLabelsStatesEdges) (p1 : List UInt8) : Option (Int) :=
  (c_language_check p0).bind fun x1 =>
  if x1 ≠ 0 then
    some x1
  else
    (c_word_Check p0.1 p1).bind fun x3 =>
    some x3
set_option maxHeartbeats 1600000 in
theorem le_language_spells {p0 : TLabelsStatesEdges} {p1 : List UInt8} : Lq (c_language_spells p0 p1) (m_language_spells p0 p1) := by
  unfold c_language_spells m_language_spells
  repeat' with_reducible first | intro _ | exact Lq.refl _ | exact Lq.none | apply Lq.ite | apply Lq.bind | apply Lq.jp | apply Lq.loop | apply Lq.lpO | apply Lq.forL | apply_assumption | apply le_language_check | apply le_word_Check

def c_graph_checkSet (p0 : TLabelsStatesEdges) (p1 : List (Int)) : Option (Int) :=
  lpO (loopE (S := Int) (X := Ou (Unit) (Int)) (fun a1 =>
      if a1 < ((p1).length : Int) then
        (idx p1 a1).bind fun x5 =>
        jp (fun (a7 : Bool) =>
          if a7 = true then
            some (Stp.exit (Ou.ret 25))
          else
            jp (fun (a10 : Bool) =>
              if a10 = true then
                some (Stp.exit (Ou.ret 10))
              else
                some (Stp.next (IntKind.wrap .i64 (a1 + 1))))
              fun k12 =>
              if 0 < a1 then
                (idx p1 (IntKind.wrap .i64 (a1 - 1))).bind fun x13 =>
                k12 (decide (x5 ≤ x13))
              else
                k12 false)
          fun k9 =>
          if x5 < 0 then
            k9 true
          else
            k9 (decide (p0.2.1 ≤ x5))
      else
        some (Stp.exit (Ou.go ()))) 0) (fun a17 =>
      some 0) some
set_option maxHeartbeats 1600000 in
theorem le_graph_checkSet {p0 : TLabelsStatesEdges} {p1 : List (Int)} : Lq (c_graph_checkSet p0 p1) (m_graph_checkSet p0 p1) := by
  unfold c_graph_checkSet m_graph_checkSet
  repeat' with_reducible first | intro _ | exact Lq.refl _ | exact Lq.none | apply Lq.ite | apply Lq.bind | apply Lq.jp | apply Lq.loop | apply Lq.lpO | apply Lq.forL | apply_assumption

def c_graph_Step (p0 : TLabelsStatesEdges) (p1 : List (Int)) (p2 : Int) : Option ((List (Int)) × Int) :=
  (c_graph_Check p0).bind fun x1 =>
  if x1 ≠ 0 then
    some ([], 1)
  else
    (c_graph_checkSet p0 p1).bind fun x3 =>
    if x3 ≠ 0 then
      some ([], x3)
    else
      jp (fun (a5 : Bool) =>
        if a5 = true then
          some ([], 2)
        else
          (loopE (S := Int × (List Int)) (X := (List Int)) (fun a9 =>
              if a9.1 < ((p1).length : Int) then
                (idx p1 a9.1).bind fun x13 =>
                (y_graph_leaving p0 x13).bind fun L15 =>
                lpO (forL (S := (List Int)) (X := Unit) (fun a17 (x19 : Int × TFromLabelTo) =>
                    if x19.2.2.1 = p2 then
                      if fits 8 ((a17 : List Int).length + ([x19.2.2.2]).length) then
                        some (Stp.next (a17 ++ [x19.2.2.2]))
                      else none
                    else
                      some (Stp.next a17)) L15 a9.2) (fun a26 =>
                    some (Stp.next (IntKind.wrap .i64 (a9.1 + 1), a26))) fun a28 =>
                    none
              else
                some (Stp.exit a9.2)) (0, ([] : List Int))).bind fun a31 =>
          if (a31).length < 4611686018427387904 then
            some (compact_ (sortIe a31), 0)
          else none)
        fun k7 =>
        if p2 < 0 then
          k7 true
        else
          k7 (decide (p0.1 ≤ p2))
set_option maxHeartbeats 1600000 in
theorem le_graph_Step {p0 : TLabelsStatesEdges} {p1 : List (Int)} {p2 : Int} : Lq (c_graph_Step p0 p1 p2) (m_graph_Step p0 p1 p2) := by
  unfold c_graph_Step m_graph_Step
  rw [sortI_e]
  repeat' with_reducible first | intro _ | exact Lq.refl _ | exact Lq.none | apply Lq.ite | apply Lq.bind | apply Lq.jp | apply Lq.loop | apply Lq.lpO | apply Lq.forL | apply_assumption | apply le_graph_Check | apply le_graph_checkSet

def c_language_step (p0 : TLabelsStatesEdges) (p1 : List (Int)) (p2 : Int) : Option ((List (Int))) :=
  (c_strings_IndexByte [48, 49, 50, 51, 52, 53, 54, 55, 56, 57, 97, 98, 99, 100, 101, 102] p2).bind fun x1 =>
  (c_graph_Step p0 p1 x1).bind fun x3 =>
  some x3.1
set_option maxHeartbeats 1600000 in
theorem le_language_step {p0 : TLabelsStatesEdges} {p1 : List (Int)} {p2 : Int} : Lq (c_language_step p0 p1 p2) (m_language_step p0 p1 p2) := by
  unfold c_language_step m_language_step
  repeat' with_reducible first | intro _ | exact Lq.refl _ | exact Lq.none | apply Lq.ite | apply Lq.bind | apply Lq.jp | apply Lq.loop | apply Lq.lpO | apply Lq.forL | apply_assumption | apply le_graph_Step | apply le_strings_IndexByte

def c_language_ends (p0 : TLabelsStatesEdges) (p1 : List (Int)) (p2 : List UInt8) : Option ((List (Int))) :=
  (loopE (S := (List Int) × Int) (X := (List Int)) (fun a1 =>
      jp (fun (a5 : Bool) =>
        if a5 = true then
          (idx p2 a1.2).bind fun x8 =>
          (c_language_step p0 a1.1 (x8.toNat : Int)).bind fun x10 =>
          some (Stp.next (x10, IntKind.wrap .i64 (a1.2 + 1)))
        else
          some (Stp.exit a1.1))
        fun k7 =>
        if a1.2 < ((p2).length : Int) then
          k7 (decide (0 < ((a1.1).length : Int)))
        else
          k7 false) (p1, 0)).bind fun a13 =>
  some a13
set_option maxHeartbeats 1600000 in
theorem le_language_ends {p0 : TLabelsStatesEdges} {p1 : List (Int)} {p2 : List UInt8} : Lq (c_language_ends p0 p1 p2) (m_language_ends p0 p1 p2) := by
  unfold c_language_ends m_language_ends
  repeat' with_reducible first | intro _ | exact Lq.refl _ | exact Lq.none | apply Lq.ite | apply Lq.bind | apply Lq.jp | apply Lq.loop | apply Lq.lpO | apply Lq.forL | apply_assumption | apply le_language_step

def c_language_states (p0 : TLabelsStatesEdges) : Option ((List (Int))) :=
  if 0 ≤ (p0.2.1 : Int) ∧ (p0.2.1 : Int) ≤ p0.2.1 ∧ (p0.2.1 : Int) * 8 ≤ 281474976710656 then
    (loopE (S := Int × (List Int)) (X := (List Int)) (fun a3 =>
        if a3.1 < (((List.replicate (p0.2.1).toNat (0 : Int)).length : Nat) : Int) then
          (idx a3.2 a3.1).bind fun x7 =>
          some (Stp.next (IntKind.wrap .i64 (a3.1 + 1), (a3.2).set (a3.1).toNat a3.1))
        else
          some (Stp.exit a3.2)) (0, List.replicate (p0.2.1).toNat (0 : Int))).bind fun a9 =>
    some a9
  else none
set_option maxHeartbeats 1600000 in
theorem le_language_states {p0 : TLabelsStatesEdges} : Lq (c_language_states p0) (m_language_states p0) := by
  unfold c_language_states m_language_states
  repeat' with_reducible first | intro _ | exact Lq.refl _ | exact Lq.none | apply Lq.ite | apply Lq.bind | apply Lq.jp | apply Lq.loop | apply Lq.lpO | apply Lq.forL | apply_assumption

def c_language_Accepts (p0 : TLabelsStatesEdges) (p1 : List UInt8) : Option (Bool × Int) :=
  (c_language_spells p0 p1).bind fun x1 =>
  if x1 ≠ 0 then
    some (false, x1)
  else
    (c_language_states p0).bind fun x3 =>
    (c_language_ends p0 x3 p1).bind fun x5 =>
    some (decide (0 < ((x5).length : Int)), 0)
set_option maxHeartbeats 1600000 in
theorem le_language_Accepts {p0 : TLabelsStatesEdges} {p1 : List UInt8} : Lq (c_language_Accepts p0 p1) (m_language_Accepts p0 p1) := by
  unfold c_language_Accepts m_language_Accepts
  repeat' with_reducible first | intro _ | exact Lq.refl _ | exact Lq.none | apply Lq.ite | apply Lq.bind | apply Lq.jp | apply Lq.loop | apply Lq.lpO | apply Lq.forL | apply_assumption | apply le_language_ends | apply le_language_spells | apply le_language_states

def c_merging_accepts (p0 : TLabelsStatesEdges) (p1 : List UInt8) : Option (Bool) :=
 (c_language_Accepts p0 p1).bind fun x1 =>
 jp (fun (a3 : Bool) =>
   some a3)
   fun k5 =>
  if x1.2 = 0 then
   k5 x1.1
  else
   k5 false
set_option maxHeartbeats 1600000 in
theorem le_merging_accepts {p0 : TLabelsStatesEdges} {p1 : List UInt8} : Lq (c_merging_accepts p0 p1) (m_merging_accepts p0 p1) := by
  unfold c_merging_accepts m_merging_accepts
  repeat' with_reducible first | intro _ | exact Lq.refl _ | exact Lq.none | apply Lq.ite | apply Lq.bind | apply Lq.jp | apply Lq.loop | apply Lq.lpO | apply Lq.forL | apply_assumption | apply le_language_Accepts

def c_merging_Check_1 (p0 : List UInt8) (c0 : TLabelsStatesEdges) : Option (Bool) :=
 (c_merging_accepts c0 p0).bind fun x1 =>
 some (!x1)
set_option maxHeartbeats 1600000 in
theorem le_merging_Check_1 {p0 : List UInt8} {c0 : TLabelsStatesEdges} : Lq (c_merging_Check_1 p0 c0) (m_merging_Check_1 p0 c0) := by
  unfold c_merging_Check_1 m_merging_Check_1
  repeat' with_reducible first | intro _ | exact Lq.refl _ | exact Lq.none | apply Lq.ite | apply Lq.bind | apply Lq.jp | apply Lq.loop | apply Lq.lpO | apply Lq.forL | apply_assumption | apply le_merging_accepts

def c_merging_joins_1 (p0 : List UInt8) (c0 : TLabelsStatesEdges) (c1 : List UInt8) (c2 : List UInt8) : Option (Bool) :=
 if c1.length + p0.length ≤ maxLen then
  if (c1 ++ p0).length + c2.length ≤ maxLen then
   (c_merging_accepts c0 ((c1 ++ p0) ++ c2)).bind fun x3 =>
   some x3
  else none
 else none
set_option maxHeartbeats 1600000 in
theorem le_merging_joins_1 {p0 : List UInt8} {c0 : TLabelsStatesEdges} {c1 : List UInt8} {c2 : List UInt8} : Lq (c_merging_joins_1 p0 c0 c1 c2) (m_merging_joins_1 p0 c0 c1 c2) := by
  unfold c_merging_joins_1 m_merging_joins_1
  repeat' with_reducible first | intro _ | exact Lq.refl _ | exact Lq.none | apply Lq.ite | apply Lq.bind | apply Lq.jp | apply Lq.loop | apply Lq.lpO | apply Lq.forL | apply_assumption | apply le_merging_accepts

def c_merging_joins (p0 : TLabelsStatesEdges) (p1 : List (List UInt8)) (p2 : List UInt8) (p3 : List UInt8) : Option (Bool) :=
 (c_slices_ContainsFunc_Lstring_stringG p1 (fun b0 => c_merging_joins_1 b0 p0 p2 p3)).bind fun x1 =>
 some x1
set_option maxHeartbeats 1600000 in
theorem le_merging_joins {p0 : TLabelsStatesEdges} {p1 : List (List UInt8)} {p2 : List UInt8} {p3 : List UInt8} : Lq (c_merging_joins p0 p1 p2 p3) (m_merging_joins p0 p1 p2 p3) := by
  unfold c_merging_joins m_merging_joins
  repeat' with_reducible first | intro _ | exact Lq.refl _ | exact Lq.none | apply Lq.ite | apply Lq.bind | apply Lq.jp | apply Lq.loop | apply Lq.lpO | apply Lq.forL | apply_assumption | apply le_merging_joins_1 | apply le_slices_ContainsFunc_Lstring_stringG

def c_merging_Check (p0 : TWordsMerges) (p1 : TLabelsStatesEdges) : Option (Int) :=
 (c_graph_Check p1).bind fun x1 =>
 if x1 ≠ 0 then
  some 1
 else
  if p1.1 ≠ 2 then
   some 12
  else
   (c_merging_form p0).bind fun x3 =>
   if x3 ≠ 0 then
    some x3
   else
    (c_slices_ContainsFunc_Lstring_stringG p0.1 (fun b0 => c_merging_Check_1 b0 p1)).bind fun x5 =>
    if x5 = true then
     some 13
    else
     lpO (loopE (S := Int) (X := Ou (Unit) (Int)) (fun a7 =>
         if a7 < ((p0.1).length : Int) then
          (idx p0.1 a7).bind fun x11 =>
          lpO (loopE (S := Int) (X := Ou (Unit) (Int)) (fun a13 =>
              if a13 < ((p0.1).length : Int) then
               (idx p0.1 a13).bind fun x17 =>
               (c_merging_joins p1 p0.2 x11 x17).bind fun x19 =>
               if (!x19) = true then
                some (Stp.exit (Ou.ret 15))
               else
                some (Stp.next (IntKind.wrap .i64 (a13 + 1)))
              else
               some (Stp.exit (Ou.go ()))) 0) (fun a21 =>
              some (Stp.next (IntKind.wrap .i64 (a7 + 1)))) (fun r => some (Stp.exit (Ou.ret r)))
         else
          some (Stp.exit (Ou.go ()))) 0) (fun a23 =>
         some 0) some
set_option maxHeartbeats 1600000 in
theorem le_merging_Check {p0 : TWordsMerges} {p1 : TLabelsStatesEdges} : Lq (c_merging_Check p0 p1) (m_merging_Check p0 p1) := by
  unfold c_merging_Check m_merging_Check
  repeat' with_reducible first | intro _ | exact Lq.refl _ | exact Lq.none | apply Lq.ite | apply Lq.bind | apply Lq.jp | apply Lq.loop | apply Lq.lpO | apply Lq.forL | apply_assumption | apply le_graph_Check | apply le_merging_Check_1 | apply le_merging_form | apply le_merging_joins | apply le_slices_ContainsFunc_Lstring_stringG

def c_slices_IndexFunc_Lint_int (p0 : List (Int)) (p1 : Int → Option (Bool)) : Option (Int) :=
 lpO (loopE (S := Int) (X := Ou (Unit) (Int)) (fun a1 =>
     if a1 < ((p0).length : Int) then
      (idx p0 a1).bind fun x5 =>
      (p1 x5).bind fun x7 =>
      if x7 = true then
       some (Stp.exit (Ou.ret a1))
      else
       some (Stp.next (IntKind.wrap .i64 (a1 + 1)))
     else
      some (Stp.exit (Ou.go ()))) 0) (fun a9 =>
     some (-1)) some
set_option maxHeartbeats 1600000 in
theorem le_slices_IndexFunc_Lint_int {p0 : List (Int)} {p1 p1q : Int → Option (Bool)} (hp1 : ∀ a0, Lq (p1 a0) (p1q a0)) : Lq (c_slices_IndexFunc_Lint_int p0 p1) (m_slices_IndexFunc_Lint_int p0 p1q) := by
  unfold c_slices_IndexFunc_Lint_int m_slices_IndexFunc_Lint_int
  repeat' with_reducible first | intro _ | exact Lq.refl _ | exact Lq.none | apply Lq.ite | apply Lq.bind | apply Lq.jp | apply Lq.loop | apply Lq.lpO | apply Lq.forL | apply_assumption

def c_slices_ContainsFunc_Lint_int (p0 : List (Int)) (p1 : Int → Option (Bool)) : Option (Bool) :=
 (c_slices_IndexFunc_Lint_int p0 p1).bind fun x1 =>
 some (decide (0 ≤ x1))
set_option maxHeartbeats 1600000 in
theorem le_slices_ContainsFunc_Lint_int {p0 : List (Int)} {p1 p1q : Int → Option (Bool)} (hp1 : ∀ a0, Lq (p1 a0) (p1q a0)) : Lq (c_slices_ContainsFunc_Lint_int p0 p1) (m_slices_ContainsFunc_Lint_int p0 p1q) := by
  unfold c_slices_ContainsFunc_Lint_int m_slices_ContainsFunc_Lint_int
  repeat' with_reducible first | intro _ | exact Lq.refl _ | exact Lq.none | apply Lq.ite | apply Lq.bind | apply Lq.jp | apply Lq.loop | apply Lq.lpO | apply Lq.forL | apply_assumption | apply le_slices_IndexFunc_Lint_int

def c_merging_inputs_1 (p0 : Int) (c0 : TWordsMerges) : Option (Bool) :=
 jp (fun (a1 : Bool) =>
   some a1)
   fun k3 =>
  if p0 < 0 then
   k3 true
  else
   k3 (decide (((c0.1).length : Int) ≤ p0))
set_option maxHeartbeats 1600000 in
theorem le_merging_inputs_1 {p0 : Int} {c0 : TWordsMerges} : Lq (c_merging_inputs_1 p0 c0) (m_merging_inputs_1 p0 c0) := by
  unfold c_merging_inputs_1 m_merging_inputs_1
  repeat' with_reducible first | intro _ | exact Lq.refl _ | exact Lq.none | apply Lq.ite | apply Lq.bind | apply Lq.jp | apply Lq.loop | apply Lq.lpO | apply Lq.forL | apply_assumption

def c_merging_inputs (p0 : TWordsMerges) (p1 : TLabelsStatesEdges) (p2 : List (Int)) : Option (Int) :=
 (c_merging_Check p0 p1).bind fun x1 =>
 if x1 ≠ 0 then
  some 1
 else
  (c_slices_ContainsFunc_Lint_int p2 (fun b0 => c_merging_inputs_1 b0 p0)).bind fun x3 =>
  if x3 = true then
   some 2
  else
   some 0
set_option maxHeartbeats 1600000 in
theorem le_merging_inputs {p0 : TWordsMerges} {p1 : TLabelsStatesEdges} {p2 : List (Int)} : Lq (c_merging_inputs p0 p1 p2) (m_merging_inputs p0 p1 p2) := by
  unfold c_merging_inputs m_merging_inputs
  repeat' with_reducible first | intro _ | exact Lq.refl _ | exact Lq.none | apply Lq.ite | apply Lq.bind | apply Lq.jp | apply Lq.loop | apply Lq.lpO | apply Lq.forL | apply_assumption | apply le_merging_Check | apply le_merging_inputs_1 | apply le_slices_ContainsFunc_Lint_int

def c_runs_Disparity (p0 : List UInt8) : Option (Int × Int) :=
 (c_word_Check 2 p0).bind fun x1 =>
 if x1 ≠ 0 then
  some (0, x1)
 else
  (m_strings_Count p0 [49]).bind fun x3 =>
  some (IntKind.wrap .i64 ((IntKind.wrap .i64 (2 * x3)) - ((p0).length : Int)), 0)
set_option maxHeartbeats 1600000 in
theorem le_runs_Disparity {p0 : List UInt8} : Lq (c_runs_Disparity p0) (m_runs_Disparity p0) := by
  unfold c_runs_Disparity m_runs_Disparity
  repeat' with_reducible first | intro _ | exact Lq.refl _ | exact Lq.none | apply Lq.ite | apply Lq.bind | apply Lq.jp | apply Lq.loop | apply Lq.lpO | apply Lq.forL | apply_assumption | apply le_word_Check

def c_merging_weight (p0 : List UInt8) : Option (Int) :=
 (c_runs_Disparity p0).bind fun x1 =>
 some x1.1
set_option maxHeartbeats 1600000 in
theorem le_merging_weight {p0 : List UInt8} : Lq (c_merging_weight p0) (m_merging_weight p0) := by
  unfold c_merging_weight m_merging_weight
  repeat' with_reducible first | intro _ | exact Lq.refl _ | exact Lq.none | apply Lq.ite | apply Lq.bind | apply Lq.jp | apply Lq.loop | apply Lq.lpO | apply Lq.forL | apply_assumption | apply le_runs_Disparity

def c_merging_step (p0 : TLabelsStatesEdges) (p1 : List (Int)) (p2 : List UInt8) : Option ((List (Int))) :=
 (loopE (S := (List Int) × Int) (X := (List Int)) (fun a1 =>
     if a1.2 < ((p2).length : Int) then
      (idx p2 a1.2).bind fun x5 =>
      (c_strings_IndexByte [48, 49, 50, 51, 52, 53, 54, 55, 56, 57, 97, 98, 99, 100, 101, 102] (x5.toNat : Int)).bind fun x7 =>
      (c_graph_Step p0 a1.1 x7).bind fun x9 =>
      some (Stp.next (x9.1, IntKind.wrap .i64 (a1.2 + 1)))
     else
      some (Stp.exit a1.1)) (p1, 0)).bind fun a11 =>
 some a11
set_option maxHeartbeats 1600000 in
theorem le_merging_step {p0 : TLabelsStatesEdges} {p1 : List (Int)} {p2 : List UInt8} : Lq (c_merging_step p0 p1 p2) (m_merging_step p0 p1 p2) := by
  unfold c_merging_step m_merging_step
  repeat' with_reducible first | intro _ | exact Lq.refl _ | exact Lq.none | apply Lq.ite | apply Lq.bind | apply Lq.jp | apply Lq.loop | apply Lq.lpO | apply Lq.forL | apply_assumption | apply le_graph_Step | apply le_strings_IndexByte

def c_merging_Encode (p0 : TWordsMerges) (p1 : TLabelsStatesEdges) (p2 : List (Int)) : Option ((List UInt8) × Int) :=
 (c_merging_inputs p0 p1 p2).bind fun x1 =>
 if x1 ≠ 0 then
  some (([] : List UInt8), x1)
 else
  if ((p2).length : Int) = 0 then
   some (([] : List UInt8), 0)
  else
   (idx p0.1 0).bind fun x3 =>
   (idx p0.2 0).bind fun x5 =>
   if (IntKind.wrap .i64 (((x3).length : Int) + ((x5).length : Int))) ≠ 0 then
    if (IntKind.wrap .i64 (Int.tdiv (IntKind.wrap .i64 (65536 + ((x5).length : Int))) (IntKind.wrap .i64 (((x3).length : Int) + ((x5).length : Int))))) < ((p2).length : Int) then
     some (([] : List UInt8), 4)
    else
     if 0 ≤ (p1.2.1 : Int) ∧ (p1.2.1 : Int) ≤ p1.2.1 ∧ (p1.2.1 : Int) * 8 ≤ 281474976710656 then
      (loopE (S := Int × (List Int)) (X := (List Int)) (fun a11 =>
          if a11.1 < (((List.replicate (p1.2.1).toNat (0 : Int)).length : Nat) : Int) then
           (idx a11.2 a11.1).bind fun x15 =>
           some (Stp.next (IntKind.wrap .i64 (a11.1 + 1), (a11.2).set (a11.1).toNat a11.1))
          else
           some (Stp.exit a11.2)) (0, List.replicate (p1.2.1).toNat (0 : Int))).bind fun a17 =>
      (idx p2 0).bind fun x22 =>
      (idx p0.1 x22).bind fun x24 =>
      jp (fun (a26 : (List Int) × Int) =>
        if 0 ≤ (1 : Int) ∧ (1 : Int) ≤ ((p2).length : Int) ∧ ((p2).length : Int) ≤ (p2.length : Int) then
         lpO (loopE (S := Int × (List Int) × (List UInt8) × Int) (X := Ou ((List UInt8)) ((List UInt8) × Int)) (fun a30 =>
             if a30.1 < (((p2.take (((p2).length : Int)).toNat).drop (1 : Int).toNat).length : Int) then
              (idx ((p2.take (((p2).length : Int)).toNat).drop (1 : Int).toNat) a30.1).bind fun x34 =>
              jp (fun (a37 : (List UInt8) × Bool) =>
                if (!a37.2) = true then
                 some (Stp.exit (Ou.ret (([] : List UInt8), 13)))
                else
                 (idx p0.1 x34).bind fun x40 =>
                 if a37.1.length + x40.length ≤ maxLen then
                  jp (fun (a43 : (List Int) × Int) =>
                    some (Stp.next (IntKind.wrap .i64 (a30.1 + 1), a43.1, a30.2.2.1 ++ (a37.1 ++ x40), a43.2)))
                    fun k45 =>
                   if fits 1 (a30.2.2.1.length + (a37.1 ++ x40).length) then
                    (c_merging_weight (a37.1 ++ x40)).bind fun x48 =>
                    (c_merging_step p1 a30.2.1 (a37.1 ++ x40)).bind fun x50 =>
                    k45 (x50, IntKind.wrap .i64 (a30.2.2.2 + x48))
                   else none
                 else none)
                fun k39 =>
               (loopE (S := (List UInt8) × Int × Bool × Int) (X := (List UInt8) × Bool) (fun a52 =>
                   if a52.2.2.2 < ((p0.2).length : Int) then
                    jp (fun (a56 : (List UInt8) × Int × Bool) =>
                      some (Stp.next (a56.1, a56.2.1, a56.2.2, IntKind.wrap .i64 (a52.2.2.2 + 1))))
                      fun k58 =>
                     (idx p0.2 a52.2.2.2).bind fun x59 =>
                     jp (fun (a61 : Int × Bool) =>
                       jp (fun (a64 : Bool) =>
                         if a64 = true then
                          k58 (x59, a61.1, true)
                         else
                          k58 (a52.1, a52.2.1, a52.2.2.1))
                         fun k66 =>
                        if a61.2 = true then
                         if (!a52.2.2.1) = true then
                          k66 true
                         else
                          k66 (decide (a61.1 < a52.2.1))
                        else
                         k66 false)
                       fun k63 =>
                      (idx p0.1 x34).bind fun x69 =>
                      if x59.length + x69.length ≤ maxLen then
                       (c_merging_weight (x59 ++ x69)).bind fun x72 =>
                       (idx p0.1 x34).bind fun x74 =>
                       if x59.length + x74.length ≤ maxLen then
                        (c_merging_step p1 a30.2.1 (x59 ++ x74)).bind fun x77 =>
                        k63 (max (IntKind.wrap .i64 (a30.2.2.2 + x72)) (IntKind.wrap .i64 (0 - (IntKind.wrap .i64 (a30.2.2.2 + x72)))), decide (0 < ((x77).length : Int)))
                       else none
                      else none
                   else
                    some (Stp.exit (a52.1, a52.2.2.1))) (([] : List UInt8), 0, false, 0)).bind fun a79 =>
               k39 (a79.1, a79.2)
             else
              some (Stp.exit (Ou.go a30.2.2.1))) (0, a26.1, ([] : List UInt8) ++ x24, a26.2)) (fun a81 =>
             some (a81, 0)) some
        else none)
        fun k28 =>
       if fits 1 (([] : List UInt8).length + x24.length) then
        (c_merging_weight x24).bind fun x86 =>
        (c_merging_step p1 a17 x24).bind fun x88 =>
        k28 (x88, IntKind.wrap .i64 (0 + x86))
       else none
     else none
   else none
set_option maxHeartbeats 1600000 in
theorem le_merging_Encode {p0 : TWordsMerges} {p1 : TLabelsStatesEdges} {p2 : List (Int)} : Lq (c_merging_Encode p0 p1 p2) (m_merging_Encode p0 p1 p2) := by
  unfold c_merging_Encode m_merging_Encode
  repeat' with_reducible first | intro _ | exact Lq.refl _ | exact Lq.none | apply Lq.ite | apply Lq.bind | apply Lq.jp | apply Lq.loop | apply Lq.lpO | apply Lq.forL | apply_assumption | apply le_merging_inputs | apply le_merging_step | apply le_merging_weight

def c_integer_trim (p0 : List (Int)) : Option ((List (Int))) :=
  (loopE (S := (List Int)) (X := (List Int)) (fun a1 =>
      jp (fun (a5 : Bool) =>
        if a5 = true then
          if 0 ≤ (0 : Int) ∧ (0 : Int) ≤ IntKind.wrap .i64 (((a1).length : Int) - 1) ∧ IntKind.wrap .i64 (((a1).length : Int) - 1) ≤ (a1.length : Int) then
            some (Stp.next ((a1.take (IntKind.wrap .i64 (((a1).length : Int) - 1)).toNat).drop (0 : Int).toNat))
          else none
        else
          some (Stp.exit a1))
        fun k7 =>
        if 0 < ((a1).length : Int) then
          (idx a1 (IntKind.wrap .i64 (((a1).length : Int) - 1))).bind fun x9 =>
          k7 (decide (x9 = 0))
        else
          k7 false) p0).bind fun a12 =>
  some a12
set_option maxHeartbeats 1600000 in
theorem le_integer_trim {p0 : List (Int)} : Lq (c_integer_trim p0) (m_integer_trim p0) := by
  unfold c_integer_trim m_integer_trim
  repeat' with_reducible first | intro _ | exact Lq.refl _ | exact Lq.none | apply Lq.ite | apply Lq.bind | apply Lq.jp | apply Lq.loop | apply Lq.lpO | apply Lq.forL | apply_assumption

def c_integer_number (p0 : Bool) (p1 : List (Int)) : Option (TNegMag) :=
  (c_integer_trim p1).bind fun x2 =>
  if ((x2).length : Int) = 0 then
    some (false, ([] : List UInt8))
  else
    if 0 ≤ (0 : Int) ∧ (0 : Int) ≤ IntKind.wrap .i64 (4 * ((x2).length : Int)) ∧ (IntKind.wrap .i64 (4 * ((x2).length : Int)) : Int) * 1 ≤ 281474976710656 then
      (loopE (S := Int × (List Int)) (X := (List Int)) (fun a6 =>
          if 0 ≤ a6.1 then
            (loopE (S := Int × (List Int)) (X := (List Int)) (fun a10 =>
                if 0 ≤ a10.1 then
                  jp (fun (a14 : (List Int)) =>
                    some (Stp.next (IntKind.wrap .i64 (a10.1 - 1), a14)))
                    fun k16 =>
                    (idx x2 a6.1).bind fun x17 =>
                    if 0 ≤ (IntKind.wrap .i64 (8 * a10.1)) then
                      jp (fun (a20 : Bool) =>
                        if a20 = true then
                          if fits 1 ((a10.2 : List Int).length + ([IntKind.wrap .u8 (Int.fdiv x17 (2 ^ (min ((IntKind.wrap .i64 (8 * a10.1))).toNat (IntKind.bits .u32))))]).length) then
                            k16 (a10.2 ++ [IntKind.wrap .u8 (Int.fdiv x17 (2 ^ (min ((IntKind.wrap .i64 (8 * a10.1))).toNat (IntKind.bits .u32))))])
                          else none
                        else
                          k16 a10.2)
                        fun k22 =>
                        if (IntKind.wrap .u8 (Int.fdiv x17 (2 ^ (min ((IntKind.wrap .i64 (8 * a10.1))).toNat (IntKind.bits .u32))))) ≠ 0 then
                          k22 true
                        else
                          k22 (decide (0 < (((a10.2).length : Nat) : Int)))
                    else none
                else
                  some (Stp.exit a10.2)) (3, a6.2)).bind fun a26 =>
            some (Stp.next (IntKind.wrap .i64 (a6.1 - 1), a26))
          else
            some (Stp.exit a6.2)) (IntKind.wrap .i64 (((x2).length : Int) - 1), List.replicate (0 : Int).toNat (0 : Int))).bind fun a28 =>
      some (p0, a28.map fun n => UInt8.ofNat n.toNat)
    else none
set_option maxHeartbeats 1600000 in
theorem le_integer_number {p0 : Bool} {p1 : List (Int)} : Lq (c_integer_number p0 p1) (m_integer_number p0 p1) := by
  unfold c_integer_number m_integer_number
  repeat' with_reducible first | intro _ | exact Lq.refl _ | exact Lq.none | apply Lq.ite | apply Lq.bind | apply Lq.jp | apply Lq.loop | apply Lq.lpO | apply Lq.forL | apply_assumption | apply le_integer_trim

def c_integer_Of (p0 : Int) : Option (TNegMag) :=
  jp (fun (a2 : Int) =>
    (c_integer_number (decide (p0 < 0)) [IntKind.wrap .u32 a2, IntKind.wrap .u32 (Int.fdiv a2 (2 ^ (min (32 : Int).toNat (IntKind.bits .u64))))]).bind fun x5 =>
    some x5)
    fun k4 =>
    if p0 < 0 then
      k4 (IntKind.wrap .u64 (0 - (IntKind.wrap .u64 p0)))
    else
      k4 (IntKind.wrap .u64 p0)
set_option maxHeartbeats 1600000 in
theorem le_integer_Of {p0 : Int} : Lq (c_integer_Of p0) (m_integer_Of p0) := by
  unfold c_integer_Of m_integer_Of
  repeat' with_reducible first | intro _ | exact Lq.refl _ | exact Lq.none | apply Lq.ite | apply Lq.bind | apply Lq.jp | apply Lq.loop | apply Lq.lpO | apply Lq.forL | apply_assumption | apply le_integer_number

def c_integer_digits (p0 : TNegMag) : Option ((List (Int))) :=
  if 0 ≤ (IntKind.wrap .i64 (Int.tdiv (IntKind.wrap .i64 (((p0.2).length : Int) + 3)) 4) : Int) ∧ (IntKind.wrap .i64 (Int.tdiv (IntKind.wrap .i64 (((p0.2).length : Int) + 3)) 4) : Int) ≤ IntKind.wrap .i64 (Int.tdiv (IntKind.wrap .i64 (((p0.2).length : Int) + 3)) 4) ∧ (IntKind.wrap .i64 (Int.tdiv (IntKind.wrap .i64 (((p0.2).length : Int) + 3)) 4) : Int) * 4 ≤ 281474976710656 then
    (loopE (S := Int × (List Int)) (X := (List Int)) (fun a3 =>
        if a3.1 < ((p0.2).length : Int) then
          (idx p0.2 (IntKind.wrap .i64 ((IntKind.wrap .i64 (((p0.2).length : Int) - 1)) - a3.1))).bind fun x7 =>
          (idx a3.2 (IntKind.wrap .i64 (Int.tdiv a3.1 4))).bind fun x9 =>
          (idx a3.2 (IntKind.wrap .i64 (Int.tdiv a3.1 4))).bind fun x11 =>
          if 0 ≤ (IntKind.wrap .i64 (8 * (Int.tmod a3.1 4))) then
            (idx a3.2 (IntKind.wrap .i64 (Int.tdiv a3.1 4))).bind fun x14 =>
            some (Stp.next (IntKind.wrap .i64 (a3.1 + 1), (a3.2).set (IntKind.wrap .i64 (Int.tdiv a3.1 4)).toNat (IntKind.wrap .u32 (BitVec.ofInt (IntKind.bits .u32) x11 ||| BitVec.ofInt (IntKind.bits .u32) (IntKind.wrap .u32 ((IntKind.wrap .u32 (x7.toNat : Int)) * 2 ^ (min ((IntKind.wrap .i64 (8 * (Int.tmod a3.1 4)))).toNat (IntKind.bits .u32))))).toNat)))
          else none
        else
          some (Stp.exit a3.2)) (0, List.replicate (IntKind.wrap .i64 (Int.tdiv (IntKind.wrap .i64 (((p0.2).length : Int) + 3)) 4)).toNat (0 : Int))).bind fun a16 =>
    (c_integer_trim a16).bind fun x18 =>
    some x18
  else none
set_option maxHeartbeats 1600000 in
theorem le_integer_digits {p0 : TNegMag} : Lq (c_integer_digits p0) (m_integer_digits p0) := by
  unfold c_integer_digits m_integer_digits
  repeat' with_reducible first | intro _ | exact Lq.refl _ | exact Lq.none | apply Lq.ite | apply Lq.bind | apply Lq.jp | apply Lq.loop | apply Lq.lpO | apply Lq.forL | apply_assumption | apply le_integer_trim

def c_integer_Neg (p0 : TNegMag) : Option (TNegMag) :=
 (c_integer_digits p0).bind fun x2 =>
 (c_integer_number (!p0.1) x2).bind fun x4 =>
 some x4
set_option maxHeartbeats 1600000 in
theorem le_integer_Neg {p0 : TNegMag} : Lq (c_integer_Neg p0) (m_integer_Neg p0) := by
  unfold c_integer_Neg m_integer_Neg
  repeat' with_reducible first | intro _ | exact Lq.refl _ | exact Lq.none | apply Lq.ite | apply Lq.bind | apply Lq.jp | apply Lq.loop | apply Lq.lpO | apply Lq.forL | apply_assumption | apply le_integer_digits | apply le_integer_number

def c_integer_add (p0 : List (Int)) (p1 : List (Int)) : Option ((List (Int))) :=
  jp (fun (a1 : (List Int) × (List Int)) =>
    if 0 ≤ (IntKind.wrap .i64 (((a1.1).length : Int) + 1) : Int) ∧ (IntKind.wrap .i64 (((a1.1).length : Int) + 1) : Int) ≤ IntKind.wrap .i64 (((a1.1).length : Int) + 1) ∧ (IntKind.wrap .i64 (((a1.1).length : Int) + 1) : Int) * 4 ≤ 281474976710656 then
      (loopE (S := Int × Int × (List Int)) (X := (List Int) × Int) (fun a6 =>
          if a6.2.1 < ((a1.1).length : Int) then
            (idx a1.1 a6.2.1).bind fun x10 =>
            jp (fun (a12 : Int) =>
              (idx a6.2.2 a6.2.1).bind fun x15 =>
              some (Stp.next (Int.fdiv a12 (2 ^ (min (32 : Int).toNat (IntKind.bits .u64))), IntKind.wrap .i64 (a6.2.1 + 1), (a6.2.2).set (a6.2.1).toNat (IntKind.wrap .u32 a12))))
              fun k14 =>
              if a6.2.1 < ((a1.2).length : Int) then
                (idx a1.2 a6.2.1).bind fun x17 =>
                k14 (IntKind.wrap .u64 ((IntKind.wrap .u64 ((IntKind.wrap .u64 x10) + a6.1)) + (IntKind.wrap .u64 x17)))
              else
                k14 (IntKind.wrap .u64 ((IntKind.wrap .u64 x10) + a6.1))
          else
            some (Stp.exit (a6.2.2, a6.1))) (0, 0, List.replicate (IntKind.wrap .i64 (((a1.1).length : Int) + 1)).toNat (0 : Int))).bind fun a19 =>
      (idx a19.1 ((a1.1).length : Int)).bind fun x21 =>
      (c_integer_trim ((a19.1).set (((a1.1).length : Int)).toNat (IntKind.wrap .u32 a19.2))).bind fun x23 =>
      some x23
    else none)
    fun k3 =>
    if ((p0).length : Int) < ((p1).length : Int) then
      k3 (p1, p0)
    else
      k3 (p0, p1)
set_option maxHeartbeats 1600000 in
theorem le_integer_add {p0 : List (Int)} {p1 : List (Int)} : Lq (c_integer_add p0 p1) (m_integer_add p0 p1) := by
  unfold c_integer_add m_integer_add
  repeat' with_reducible first | intro _ | exact Lq.refl _ | exact Lq.none | apply Lq.ite | apply Lq.bind | apply Lq.jp | apply Lq.loop | apply Lq.lpO | apply Lq.forL | apply_assumption | apply le_integer_trim

def c_integer_subtract (p0 : List (Int)) (p1 : List (Int)) : Option ((List (Int))) :=
  if 0 ≤ (((p0).length : Int) : Int) ∧ (((p0).length : Int) : Int) ≤ ((p0).length : Int) ∧ (((p0).length : Int) : Int) * 4 ≤ 281474976710656 then
    (loopE (S := Int × Int × (List Int)) (X := (List Int)) (fun a3 =>
        if a3.2.1 < ((p0).length : Int) then
          (idx p0 a3.2.1).bind fun x7 =>
          jp (fun (a9 : Int) =>
            jp (fun (a12 : Int × Int) =>
              (idx a3.2.2 a3.2.1).bind fun x15 =>
              some (Stp.next (a12.1, IntKind.wrap .i64 (a3.2.1 + 1), (a3.2.2).set (a3.2.1).toNat (IntKind.wrap .u32 a12.2))))
              fun k14 =>
              if a9 < 0 then
                k14 (1, IntKind.wrap .i64 (a9 + 4294967296))
              else
                k14 (0, a9))
            fun k11 =>
            if a3.2.1 < ((p1).length : Int) then
              (idx p1 a3.2.1).bind fun x17 =>
              k11 (IntKind.wrap .i64 ((IntKind.wrap .i64 ((IntKind.wrap .i64 x7) - a3.1)) - (IntKind.wrap .i64 x17)))
            else
              k11 (IntKind.wrap .i64 ((IntKind.wrap .i64 x7) - a3.1))
        else
          some (Stp.exit a3.2.2)) (0, 0, List.replicate (((p0).length : Int)).toNat (0 : Int))).bind fun a19 =>
    (c_integer_trim a19).bind fun x21 =>
    some x21
  else none
set_option maxHeartbeats 1600000 in
theorem le_integer_subtract {p0 : List (Int)} {p1 : List (Int)} : Lq (c_integer_subtract p0 p1) (m_integer_subtract p0 p1) := by
  unfold c_integer_subtract m_integer_subtract
  repeat' with_reducible first | intro _ | exact Lq.refl _ | exact Lq.none | apply Lq.ite | apply Lq.bind | apply Lq.jp | apply Lq.loop | apply Lq.lpO | apply Lq.forL | apply_assumption | apply le_integer_trim

def c_integer_compare (p0 : List (Int)) (p1 : List (Int)) : Option (Int) :=
  if ((p0).length : Int) ≠ ((p1).length : Int) then
    if ((p0).length : Int) < ((p1).length : Int) then
      some (-1)
    else
      some 1
  else
    lpO (loopE (S := Int) (X := Ou (Unit) (Int)) (fun a1 =>
        if 0 ≤ a1 then
          (idx p0 a1).bind fun x5 =>
          (idx p1 a1).bind fun x7 =>
          if x5 ≠ x7 then
            (idx p0 a1).bind fun x9 =>
            (idx p1 a1).bind fun x11 =>
            if x9 < x11 then
              some (Stp.exit (Ou.ret (-1)))
            else
              some (Stp.exit (Ou.ret 1))
          else
            some (Stp.next (IntKind.wrap .i64 (a1 - 1)))
        else
          some (Stp.exit (Ou.go ()))) (IntKind.wrap .i64 (((p0).length : Int) - 1))) (fun a13 =>
        some 0) some
set_option maxHeartbeats 1600000 in
theorem le_integer_compare {p0 : List (Int)} {p1 : List (Int)} : Lq (c_integer_compare p0 p1) (m_integer_compare p0 p1) := by
  unfold c_integer_compare m_integer_compare
  repeat' with_reducible first | intro _ | exact Lq.refl _ | exact Lq.none | apply Lq.ite | apply Lq.bind | apply Lq.jp | apply Lq.loop | apply Lq.lpO | apply Lq.forL | apply_assumption

def c_integer_Add (p0 : TNegMag) (p1 : TNegMag) : Option (TNegMag) :=
  (c_integer_digits p0).bind fun x2 =>
  (c_integer_digits p1).bind fun x4 =>
  if (p0.1 == p1.1) = true then
    (c_integer_add x2 x4).bind fun x6 =>
    (c_integer_number p0.1 x6).bind fun x8 =>
    some x8
  else
    (c_integer_compare x2 x4).bind fun x10 =>
    if x10 < 0 then
      (c_integer_subtract x4 x2).bind fun x12 =>
      (c_integer_number p1.1 x12).bind fun x14 =>
      some x14
    else
      (c_integer_subtract x2 x4).bind fun x16 =>
      (c_integer_number p0.1 x16).bind fun x18 =>
      some x18
set_option maxHeartbeats 1600000 in
theorem le_integer_Add {p0 : TNegMag} {p1 : TNegMag} : Lq (c_integer_Add p0 p1) (m_integer_Add p0 p1) := by
  unfold c_integer_Add m_integer_Add
  repeat' with_reducible first | intro _ | exact Lq.refl _ | exact Lq.none | apply Lq.ite | apply Lq.bind | apply Lq.jp | apply Lq.loop | apply Lq.lpO | apply Lq.forL | apply_assumption | apply le_integer_add | apply le_integer_compare | apply le_integer_digits | apply le_integer_number | apply le_integer_subtract

def c_integer_Sub (p0 : TNegMag) (p1 : TNegMag) : Option (TNegMag) :=
 (c_integer_Neg p1).bind fun x2 =>
 (c_integer_Add p0 x2).bind fun x4 =>
 some x4
set_option maxHeartbeats 1600000 in
theorem le_integer_Sub {p0 : TNegMag} {p1 : TNegMag} : Lq (c_integer_Sub p0 p1) (m_integer_Sub p0 p1) := by
  unfold c_integer_Sub m_integer_Sub
  repeat' with_reducible first | intro _ | exact Lq.refl _ | exact Lq.none | apply Lq.ite | apply Lq.bind | apply Lq.jp | apply Lq.loop | apply Lq.lpO | apply Lq.forL | apply_assumption | apply le_integer_Add | apply le_integer_Neg

def c_integer_Compare (p0 : TNegMag) (p1 : TNegMag) : Option (Int) :=
 (c_integer_Sub p0 p1).bind fun x1 =>
 if x1.1 = true then
  some (-1)
 else
  if x1.2 ≠ ([] : List UInt8) then
   some 1
  else
   some 0
set_option maxHeartbeats 1600000 in
theorem le_integer_Compare {p0 : TNegMag} {p1 : TNegMag} : Lq (c_integer_Compare p0 p1) (m_integer_Compare p0 p1) := by
  unfold c_integer_Compare m_integer_Compare
  repeat' with_reducible first | intro _ | exact Lq.refl _ | exact Lq.none | apply Lq.ite | apply Lq.bind | apply Lq.jp | apply Lq.loop | apply Lq.lpO | apply Lq.forL | apply_assumption | apply le_integer_Sub

def c_integer_short (p0 : List (Int)) (p1 : Int) : Option ((List (Int)) × Int) :=
 if 0 ≤ (((p0).length : Int) : Int) ∧ (((p0).length : Int) : Int) ≤ ((p0).length : Int) ∧ (((p0).length : Int) : Int) * 4 ≤ 281474976710656 then
  (loopE (S := Int × Int × (List Int)) (X := (List Int) × Int) (fun a3 =>
      if 0 ≤ a3.2.1 then
       (idx p0 a3.2.1).bind fun x7 =>
       if (IntKind.wrap .u64 p1) ≠ 0 then
        if (IntKind.wrap .u64 p1) ≠ 0 then
         (idx a3.2.2 a3.2.1).bind fun x91101 =>
         some (Stp.next (Int.tmod (IntKind.wrap .u64 (BitVec.ofInt (IntKind.bits .u64) (IntKind.wrap .u64 (a3.1 * 2 ^ (min (32 : Int).toNat (IntKind.bits .u64)))) ||| BitVec.ofInt (IntKind.bits .u64) (IntKind.wrap .u64 x7)).toNat) (IntKind.wrap .u64 p1), IntKind.wrap .i64 (a3.2.1 - 1), (a3.2.2).set (a3.2.1).toNat (IntKind.wrap .u32 (IntKind.wrap .u64 (Int.tdiv (IntKind.wrap .u64 (BitVec.ofInt (IntKind.bits .u64) (IntKind.wrap .u64 (a3.1 * 2 ^ (min (32 : Int).toNat (IntKind.bits .u64)))) ||| BitVec.ofInt (IntKind.bits .u64) (IntKind.wrap .u64 x7)).toNat) (IntKind.wrap .u64 p1))))))
        else none
       else none
      else
       some (Stp.exit (a3.2.2, a3.1))) (0, IntKind.wrap .i64 (((p0).length : Int) - 1), List.replicate (((p0).length : Int)).toNat (0 : Int))).bind fun a10 =>
  (c_integer_trim a10.1).bind fun x12 =>
  some (x12, IntKind.wrap .u32 a10.2)
 else none
set_option maxHeartbeats 1600000 in
theorem le_integer_short {p0 : List (Int)} {p1 : Int} : Lq (c_integer_short p0 p1) (m_integer_short p0 p1) := by
  unfold c_integer_short m_integer_short
  repeat' with_reducible first | intro _ | exact Lq.refl _ | exact Lq.none | apply Lq.ite | apply Lq.bind | apply Lq.jp | apply Lq.loop | apply Lq.lpO | apply Lq.forL | apply_assumption | apply le_integer_trim

def c_integer_divide (p0 : List (Int)) (p1 : List (Int)) : Option ((List (Int)) × (List (Int))) :=
 (c_integer_compare p0 p1).bind fun x1 =>
 if x1 < 0 then
  some ([], p0)
 else
  if ((p1).length : Int) = 1 then
   (idx p1 0).bind fun x3 =>
   (c_integer_short p0 x3).bind fun x5 =>
   (c_integer_trim [x5.2]).bind fun x7 =>
   some (x5.1, x7)
  else
   none
set_option maxHeartbeats 1600000 in
theorem le_integer_divide {p0 : List (Int)} {p1 : List (Int)} : Lq (c_integer_divide p0 p1) (m_integer_divide p0 p1) := by
  unfold c_integer_divide m_integer_divide
  repeat' with_reducible first | intro _ | exact Lq.refl _ | exact Lq.none | apply Lq.ite | apply Lq.bind | apply Lq.jp | apply Lq.loop | apply Lq.lpO | apply Lq.forL | apply_assumption | apply le_integer_compare | apply le_integer_short | apply le_integer_trim

def c_integer_Div (p0 : TNegMag) (p1 : TNegMag) : Option (TNegMag × TNegMag × Int) :=
 (c_integer_digits p0).bind fun x3 =>
 (c_integer_digits p1).bind fun x5 =>
 if ((x5).length : Int) = 0 then
  some ((false, ([] : List UInt8)), (false, ([] : List UInt8)), 9)
 else
  (c_integer_divide x3 x5).bind fun x7 =>
  jp (fun (a9 : Bool) =>
    jp (fun (a12 : (List Int) × (List Int)) =>
      (c_integer_number (!(p0.1 == p1.1)) a12.1).bind fun x15 =>
      (c_integer_number p1.1 a12.2).bind fun x17 =>
      some (x15, x17, 0))
      fun k14 =>
     if a9 = true then
      (c_integer_add x7.1 [1]).bind fun x19 =>
      (c_integer_subtract x5 x7.2).bind fun x21 =>
      k14 (x19, x21)
     else
      k14 (x7.1, x7.2))
    fun k11 =>
   if (!(p0.1 == p1.1)) = true then
    k11 (decide (0 < ((x7.2).length : Int)))
   else
    k11 false
set_option maxHeartbeats 1600000 in
theorem le_integer_Div {p0 : TNegMag} {p1 : TNegMag} : Lq (c_integer_Div p0 p1) (m_integer_Div p0 p1) := by
  unfold c_integer_Div m_integer_Div
  repeat' with_reducible first | intro _ | exact Lq.refl _ | exact Lq.none | apply Lq.ite | apply Lq.bind | apply Lq.jp | apply Lq.loop | apply Lq.lpO | apply Lq.forL | apply_assumption | apply le_integer_add | apply le_integer_digits | apply le_integer_divide | apply le_integer_number | apply le_integer_subtract

def c_rational_lowest (p0 : TNegMag) (p1 : TNegMag) : Option (TNumDen) :=
 (c_integer_Compare p1 (false, ([] : List UInt8))).bind fun x4 =>
 jp (fun (a6 : Bool × (List UInt8) × Bool × (List UInt8)) =>
   (m_integer_Gcd (a6.1, a6.2.1) (a6.2.2.1, a6.2.2.2)).bind fun x9 =>
   (c_integer_Div (a6.1, a6.2.1) x9).bind fun x12 =>
   (c_integer_Div (a6.2.2.1, a6.2.2.2) x9).bind fun x16 =>
   some ((x12.1.1, x12.1.2), (x16.1.1, x16.1.2)))
   fun k8 =>
  jp (fun (a20 : Bool) =>
    if a20 = true then
     (c_integer_Of 1).bind fun x23 =>
     some ((false, ([] : List UInt8)), (x23.1, x23.2))
    else
     if x4 < 0 then
      (c_integer_Neg p0).bind fun x25 =>
      (c_integer_Neg p1).bind fun x27 =>
      k8 (x25.1, x25.2, x27.1, x27.2)
     else
      k8 (p0.1, p0.2, p1.1, p1.2))
    fun k22 =>
   if x4 = 0 then
    k22 true
   else
    (c_integer_Compare p0 (false, ([] : List UInt8))).bind fun x29 =>
    k22 (decide (x29 = 0))
set_option maxHeartbeats 1600000 in
theorem le_rational_lowest {p0 : TNegMag} {p1 : TNegMag} : Lq (c_rational_lowest p0 p1) (m_rational_lowest p0 p1) := by
  unfold c_rational_lowest m_rational_lowest
  repeat' with_reducible first | intro _ | exact Lq.refl _ | exact Lq.none | apply Lq.ite | apply Lq.bind | apply Lq.jp | apply Lq.loop | apply Lq.lpO | apply Lq.forL | apply_assumption | apply le_integer_Compare | apply le_integer_Div | apply le_integer_Neg | apply le_integer_Of

def c_rational_New (p0 : TNegMag) (p1 : TNegMag) : Option (TNumDen × Int) :=
 (c_integer_Compare p1 (false, ([] : List UInt8))).bind fun x2 =>
 if x2 = 0 then
  some (((false, ([] : List UInt8)), (false, ([] : List UInt8))), 9)
 else
  (c_rational_lowest p0 p1).bind fun x4 =>
  some (x4, 0)
set_option maxHeartbeats 1600000 in
theorem le_rational_New {p0 : TNegMag} {p1 : TNegMag} : Lq (c_rational_New p0 p1) (m_rational_New p0 p1) := by
  unfold c_rational_New m_rational_New
  repeat' with_reducible first | intro _ | exact Lq.refl _ | exact Lq.none | apply Lq.ite | apply Lq.bind | apply Lq.jp | apply Lq.loop | apply Lq.lpO | apply Lq.forL | apply_assumption | apply le_integer_Compare | apply le_rational_lowest

def c_rational_Ratio (p0 : Int) (p1 : Int) : Option (TNumDen × Int) :=
 (c_integer_Of p0).bind fun x2 =>
 (c_integer_Of p1).bind fun x4 =>
 (c_rational_New x2 x4).bind fun x6 =>
 some (x6.1, x6.2)
set_option maxHeartbeats 1600000 in
theorem le_rational_Ratio {p0 : Int} {p1 : Int} : Lq (c_rational_Ratio p0 p1) (m_rational_Ratio p0 p1) := by
  unfold c_rational_Ratio m_rational_Ratio
  repeat' with_reducible first | intro _ | exact Lq.refl _ | exact Lq.none | apply Lq.ite | apply Lq.bind | apply Lq.jp | apply Lq.loop | apply Lq.lpO | apply Lq.forL | apply_assumption | apply le_integer_Of | apply le_rational_New

def c_math_bits_Len (p0 : Int) : Option (Int) :=
 (m_math_bits_Len64 p0).bind fun x1 =>
 some x1
set_option maxHeartbeats 1600000 in
theorem le_math_bits_Len {p0 : Int} : Lq (c_math_bits_Len p0) (m_math_bits_Len p0) := by
  unfold c_math_bits_Len m_math_bits_Len
  repeat' with_reducible first | intro _ | exact Lq.refl _ | exact Lq.none | apply Lq.ite | apply Lq.bind | apply Lq.jp | apply Lq.loop | apply Lq.lpO | apply Lq.forL | apply_assumption

def c_merging_Rate (p0 : TWordsMerges) : Option (TNumDen × Int) :=
 (c_merging_form p0).bind fun x2 =>
 if x2 ≠ 0 then
  some (((false, ([] : List UInt8)), (false, ([] : List UInt8))), 1)
 else
  (c_math_bits_Len (IntKind.wrap .u64 ((p0.1).length : Int))).bind fun x4 =>
  (idx p0.1 0).bind fun x6 =>
  (idx p0.2 0).bind fun x8 =>
  (c_rational_Ratio (IntKind.wrap .i64 (x4 - 1)) (IntKind.wrap .i64 (((x6).length : Int) + ((x8).length : Int)))).bind fun x10 =>
  some (x10.1, x10.2)
set_option maxHeartbeats 1600000 in
theorem le_merging_Rate {p0 : TWordsMerges} : Lq (c_merging_Rate p0) (m_merging_Rate p0) := by
  unfold c_merging_Rate m_merging_Rate
  repeat' with_reducible first | intro _ | exact Lq.refl _ | exact Lq.none | apply Lq.ite | apply Lq.bind | apply Lq.jp | apply Lq.loop | apply Lq.lpO | apply Lq.forL | apply_assumption | apply le_math_bits_Len | apply le_merging_form | apply le_rational_Ratio

def c_merging_Merges (p0 : TWordsMerges) (p1 : TLabelsStatesEdges) (p2 : Int) (p3 : Int) : Option ((List (Int)) × Int) :=
 (c_merging_inputs p0 p1 [p2, p3]).bind fun x1 =>
 if x1 ≠ 0 then
  some ([], x1)
 else
  (loopE (S := Int × (List Int)) (X := (List Int)) (fun a3 =>
      if a3.1 < ((p0.2).length : Int) then
       jp (fun (a7 : (List Int)) =>
         some (Stp.next (IntKind.wrap .i64 (a3.1 + 1), a7)))
         fun k9 =>
        (idx p0.2 a3.1).bind fun x10 =>
        (idx p0.1 p2).bind fun x12 =>
        if x12.length + x10.length ≤ maxLen then
         (idx p0.1 p3).bind fun x15 =>
         if (x12 ++ x10).length + x15.length ≤ maxLen then
          (c_merging_accepts p1 ((x12 ++ x10) ++ x15)).bind fun x18 =>
          if x18 = true then
           if fits 8 ((a3.2 : List Int).length + ([a3.1]).length) then
            k9 (a3.2 ++ [a3.1])
           else none
          else
           k9 a3.2
         else none
        else none
      else
       some (Stp.exit a3.2)) (0, ([] : List Int))).bind fun a23 =>
  some (a23, 0)
set_option maxHeartbeats 1600000 in
theorem le_merging_Merges {p0 : TWordsMerges} {p1 : TLabelsStatesEdges} {p2 : Int} {p3 : Int} : Lq (c_merging_Merges p0 p1 p2 p3) (m_merging_Merges p0 p1 p2 p3) := by
  unfold c_merging_Merges m_merging_Merges
  repeat' with_reducible first | intro _ | exact Lq.refl _ | exact Lq.none | apply Lq.ite | apply Lq.bind | apply Lq.jp | apply Lq.loop | apply Lq.lpO | apply Lq.forL | apply_assumption | apply le_merging_accepts | apply le_merging_inputs

def c_slices_Equal_Lint_int (p0 : List (Int)) (p1 : List (Int)) : Option (Bool) :=
  if ((p0).length : Int) ≠ ((p1).length : Int) then
    some false
  else
    lpO (loopE (S := Int) (X := Ou (Unit) (Bool)) (fun a1 =>
        if a1 < ((p0).length : Int) then
          (idx p0 a1).bind fun x5 =>
          (idx p1 a1).bind fun x7 =>
          if x5 ≠ x7 then
            some (Stp.exit (Ou.ret false))
          else
            some (Stp.next (IntKind.wrap .i64 (a1 + 1)))
        else
          some (Stp.exit (Ou.go ()))) 0) (fun a9 =>
        some true) some
set_option maxHeartbeats 1600000 in
theorem le_slices_Equal_Lint_int {p0 : List (Int)} {p1 : List (Int)} : Lq (c_slices_Equal_Lint_int p0 p1) (m_slices_Equal_Lint_int p0 p1) := by
  unfold c_slices_Equal_Lint_int m_slices_Equal_Lint_int
  repeat' with_reducible first | intro _ | exact Lq.refl _ | exact Lq.none | apply Lq.ite | apply Lq.bind | apply Lq.jp | apply Lq.loop | apply Lq.lpO | apply Lq.forL | apply_assumption

def c_law31_golden  : Option (TLabelsStatesEdges) :=
 some (2, 2, [(0, 0, 0), (0, 1, 1), (1, 0, 0)])
set_option maxHeartbeats 1600000 in
theorem le_law31_golden  : Lq (c_law31_golden ) (m_law31_golden ) := by
  unfold c_law31_golden m_law31_golden
  repeat' with_reducible first | intro _ | exact Lq.refl _ | exact Lq.none | apply Lq.ite | apply Lq.bind | apply Lq.jp | apply Lq.loop | apply Lq.lpO | apply Lq.forL | apply_assumption

def c_law31_awakeG  : Option (Bool) :=
 (c_law31_golden).bind fun x2 =>
 (c_merging_Merges ([[48, 48], [48, 49], [49, 48]], [[48], [49]]) x2 0 0).bind fun x4 =>
 (c_law31_golden).bind fun x6 =>
 (c_merging_Merges ([[48, 48], [48, 49], [49, 48]], [[48], [49]]) x6 1 2).bind fun x8 =>
 (c_law31_golden).bind fun x10 =>
 (c_merging_Encode ([[48, 48], [48, 49], [49, 48]], [[48], [49]]) x10 [0, 0]).bind fun x12 =>
 (c_merging_Rate ([[48, 48], [48, 49], [49, 48]], [[48], [49]])).bind fun x14 =>
 (c_rational_Ratio 1 3).bind fun x17 =>
 jp (fun (a20 : Bool) =>
   some a20)
   fun k22 =>
  if (max (max (max x4.2 x8.2) x12.2) x14.2) = 0 then
   (c_slices_Equal_Lint_int x4.1 [0, 1]).bind fun x23 =>
   if x23 = true then
    (c_slices_Equal_Lint_int x8.1 [0]).bind fun x25 =>
    if x25 = true then
     if x12.1 = [48, 48, 49, 48, 48] then
      k22 (decide (x14.1 = x17.1))
     else
      k22 false
    else
     k22 false
   else
    k22 false
  else
   k22 false
set_option maxHeartbeats 1600000 in
theorem le_law31_awakeG  : Lq (c_law31_awakeG ) (m_law31_awakeG ) := by
  unfold c_law31_awakeG m_law31_awakeG
  repeat' with_reducible first | intro _ | exact Lq.refl _ | exact Lq.none | apply Lq.ite | apply Lq.bind | apply Lq.jp | apply Lq.loop | apply Lq.lpO | apply Lq.forL | apply_assumption | apply le_law31_golden | apply le_merging_Encode | apply le_merging_Merges | apply le_merging_Rate | apply le_rational_Ratio | apply le_slices_Equal_Lint_int

end Go.AW

/- bits.Len64 and integer.Gcd of small numbers, evaluated. -/
namespace Go.AW
open Go Go.Proofs

def R16 : List Nat := [1, 2, 3, 4, 5, 6, 7, 8, 9, 10, 11, 12, 13, 14, 15, 16]
def u32z (n : Nat) : List Int := if n = 0 then [] else [(n : Int)]
abbrev hvN (l : List Int) : HV := slE (encM (HV.int .u32)) l
abbrev hvI (l : List UInt8) : HV := HV.agg [HV.bool false, HV.str l]
def divF (a b : Nat) : FuncId × List HV × HV := (170, [hvN [(a : Int)], hvN [(b : Int)]], HV.tup [hvN (u32z (a / b)), hvN (u32z (a % b))])
def numF (n : Nat) : FuncId × List HV × HV := (71, [HV.bool false, hvN [(n : Int)]], hvI [UInt8.ofNat n])
def factsG : List (FuncId × List HV × HV) := R16.map numF
def factsP : List (FuncId × List HV × HV) := R16.flatMap fun a => R16.map (divF a)

theorem div_c : ∀ a ∈ R16, ∀ b ∈ R16, c_integer_divide [(a : Int)] [(b : Int)] = some (u32z (a / b), u32z (a % b)) := by decide +kernel
theorem num_c : ∀ n ∈ R16, c_integer_number false [(n : Int)] = some (false, [UInt8.ofNat n]) := by decide +kernel

theorem factsG_ok : ∀ e ∈ factsG, Fresh Tryz.prog e.1 e.2.1 e.2.2 := by
  intro e he
  simp only [factsG, List.mem_map] at he
  obtain ⟨n, hn, rfl⟩ := he
  exact (w_integer_number (le_integer_number.ap _ (num_c n hn))).fresh ⟨trivial, trivial, trivial⟩ rfl
theorem factsP_ok : ∀ e ∈ factsP, Pure Tryz.prog e.1 e.2.1 (· = e.2.2) := by
  intro e he
  simp only [factsP, List.mem_flatMap, List.mem_map] at he
  obtain ⟨a, ha, b, hb, rfl⟩ := he
  exact w_integer_divide (le_integer_divide.ap _ (div_c a ha b hb))

theorem gcdG_ok : ([1, 2].all fun x => R16.all fun y => comesP (tabsE Tryz.prog factsG factsP) 1000 122 [hvI [x], hvI [UInt8.ofNat y]] (hvI [if x = 2 ∧ y % 2 = 0 then 2 else 1])) = true := by kernel_rfl
theorem w_integer_Gcd {p0 p1 r : TNegMag} (h : m_integer_Gcd p0 p1 = some r) : Pure Tryz.prog 122 [HV.agg [HV.bool p0.1, HV.str p0.2], HV.agg [HV.bool p1.1, HV.str p1.2]] (· = HV.agg [HV.bool r.1, HV.str r.2]) := by
  unfold m_integer_Gcd at h
  split at h
  · rename_i x y
    split at h
    · rename_i hc
      cases h
      obtain ⟨hx, h1, h2⟩ := hc
      have hxm : x ∈ [(1 : UInt8), 2] := by simpa using hx
      have hym : y.toNat ∈ R16 := by
        have h1' : 1 ≤ y.toNat := h1
        have h2' : y.toNat ≤ 16 := h2
        simp only [R16, List.mem_cons, List.not_mem_nil, or_false]
        omega
      have := List.all_eq_true.1 (List.all_eq_true.1 gcdG_ok x hxm) y.toNat hym
      have hy : UInt8.ofNat y.toNat = y := UInt8.ofNat_toNat
      rw [hy] at this
      exact Pure.of_comes (tabsT_ok factsG_ok factsP_ok) this
    · cases h
  · cases h
end Go.AW

namespace Go.AW
open Go Go.Proofs
set_option linter.unusedVariables false
set_option maxHeartbeats 1600000 in
set_option maxRecDepth 100000 in
theorem w_slices_IndexFunc_Lstring_stringG {p0 : List (List UInt8)} {p1 : (List UInt8) → Option (Bool)} {g1 : FuncId} {z1 : List HV} {r : Int} (h : m_slices_IndexFunc_Lstring_stringG p0 p1 = some r) (hf1 : ∀ a0 b, p1 a0 = some b → Pure Tryz.prog g1 ([HV.str a0] ++ z1) (· = HV.bool b)) : Pure Tryz.prog 135 [slE eStr p0, HV.fn (.func g1) [] z1] (· = HV.int .i64 r) := by
 unfold m_slices_IndexFunc_Lstring_stringG at h
 refine Pure.of_body Tryz.func135 rfl rfl (Nat.le_of_ble_eq_true rfl) fun hf => ?_
 unfold Tryz.f135
 dsimp only [enumS, Nat.reduceAdd]
 refine AW.rgs rfl fun K hK => ?_
 refine mv rfl rfl ?_
 refine b_fin hK (s' := ⟨[(0, slE eStr p0), (1, HV.fn (.func g1) [] z1)], []⟩) (le_q rfl rfl) ?_
 clear hK K
 refine AW.seq ?_
 refine AW.rgs rfl fun K hK => ?_
 refine mv rfl rfl ?_
 refine bv rfl (v_lenF rfl rfl ty22 rfl) ?_
 refine mv rfl rfl ?_
 refine b_fin hK (s' := ⟨[(0, slE eStr p0), (1, HV.fn (.func g1) [] z1), (7, HV.int .i64 ((p0).length : Int)), (8, HV.int .i64 0)], []⟩) (le_q rfl rfl) ?_
 clear hK K
 refine AW.lpR h (by first | exact up_then | exact up_to) (S := Int) (V := Unit) (fun a v => ⟨[(0, slE eStr p0), (1, HV.fn (.func g1) [] z1), (7, HV.int .i64 ((p0).length : Int)), (8, HV.int .i64 a)], []⟩) ?_ (X := Unit) (W := Unit) (fun a v => ⟨[], []⟩) (fun a9 w10 h => ?_) (fun a1 w2 st3 h hr4=> ?_)
 ·exact to_le (s' := ⟨[(0, slE eStr p0), (1, HV.fn (.func g1) [] z1), (7, HV.int .i64 ((p0).length : Int)), (8, HV.int .i64 0)], []⟩) (AS.le_of ⟨rfl, rfl, rfl, rfl, trivial⟩ trivial) ⟨(), rfl⟩
 ·refine AW.rgs rfl fun K hK => ?_
  refine mv rfl rfl ?_
  refine b_fin hK (s' := ⟨[(4, HV.int .i64 (-1))], []⟩) (le_q rfl rfl) ?_
  clear hK K
  refine AW.ret ?_
  have h := Option.some.inj h
  subst h
  exact ret_pure (hs := [HV.int .i64 (-1)]) (q := HV.int .i64 (-1)) (.inr rfl) (resT rfl rfl) rfl trivial
 refine AW.rgs rfl fun K hK => ?_
 refine bv rfl (v_bin rfl rfl b_lss) ?_
 refine b_fin hK (s' := ⟨[(0, slE eStr p0), (1, HV.fn (.func g1) [] z1), (7, HV.int .i64 ((p0).length : Int)), (8, HV.int .i64 a1), (9, HV.bool (decide (a1 < ((p0).length : Int))))], []⟩) (le_q rfl rfl) ?_
 clear hK K
 refine AW.cseq rfl (fun hc => ?_) (fun hc => ?_)
 ·have hc := of_decide_eq_true hc
  have h := ifT hc h
  refine AW.skip ?_
  refine AW.seq (AW.block ?_)
  refine AW.rgs rfl fun K hK => ?_
  refine mv rfl rfl ?_
  refine mv rfl rfl ?_
  refine b_fin hK (s' := ⟨[(0, slE eStr p0), (1, HV.fn (.func g1) [] z1), (5, HV.int .i64 a1), (7, HV.int .i64 ((p0).length : Int)), (8, HV.int .i64 a1)], []⟩) (le_q rfl rfl) ?_
  clear hK K
  refine AW.rgs rfl fun K hK => ?_
  refine mv rfl rfl ?_
  refine mv rfl rfl ?_
  refine mv rfl rfl ?_
  obtain ⟨x5, h6, h⟩ := bS h
  refine bv rfl (v_idxF ty22 es22 rfl rfl (idx_lt h6)) ?_
  refine bv rfl (v_loadF ty9 rfl (l_cell eStr h6 (o := 0) rfl rfl)) ?_
  obtain ⟨x7, h8, h⟩ := bS h
  refine b_op rfl (o_call rfl rfl rfl rfl (ACallD.pure0 (hf1 _ _ h8)) ?_)
  refine b_fin hK (s' := ⟨[(0, slE eStr p0), (1, HV.fn (.func g1) [] z1), (5, HV.int .i64 a1), (7, HV.int .i64 ((p0).length : Int)), (8, HV.int .i64 a1), (16, HV.bool x7)], []⟩) (le_q rfl rfl) ?_
  clear hK K
  refine AW.cond rfl (fun hc => ?_) (fun hc => ?_)
  ·have h := ifT hc h
   refine AW.rgs rfl fun K hK => ?_
   refine mv rfl rfl ?_
   refine mv rfl rfl ?_
   refine b_fin hK (s' := ⟨[(4, HV.int .i64 a1)], []⟩) (le_q rfl rfl) ?_
   clear hK K
   have h := hr4 _ h
   refine AW.ret ?_
   have h := Option.some.inj h
   subst h
   exact ret_pure (hs := [HV.int .i64 a1]) (q := HV.int .i64 a1) (.inr rfl) (resT rfl rfl) rfl trivial
  have h := ifF (bF' hc) h
  refine AW.skip ?_
  refine AW.rg rfl fun K hK => ?_
  refine bv rfl (v_bin rfl rfl b_add) ?_
  refine mv rfl rfl ?_
  refine b_nil (hK _ ?_)
  clear hK K
  exact to_le (s' := ⟨[(0, slE eStr p0), (1, HV.fn (.func g1) [] z1), (7, HV.int .i64 ((p0).length : Int)), (8, HV.int .i64 (IntKind.wrap .i64 (a1 + 1)))], []⟩) (AS.le_of ⟨rfl, rfl, rfl, rfl, trivial⟩ trivial) ⟨IntKind.wrap .i64 (a1 + 1), (), h, rfl⟩
 have hc := of_decide_eq_false hc
 have h := ifF hc h
 refine AW.exit ?_
 exact to_le (s' := ⟨[], []⟩) (AS.le_of trivial trivial) ⟨(), (), h, rfl⟩

set_option maxHeartbeats 1600000 in
set_option maxRecDepth 100000 in
theorem w_slices_ContainsFunc_Lstring_stringG {p0 : List (List UInt8)} {p1 : (List UInt8) → Option (Bool)} {g1 : FuncId} {z1 : List HV} {r : Bool} (h : m_slices_ContainsFunc_Lstring_stringG p0 p1 = some r) (hf1 : ∀ a0 b, p1 a0 = some b → Pure Tryz.prog g1 ([HV.str a0] ++ z1) (· = HV.bool b)) : Pure Tryz.prog 84 [slE eStr p0, HV.fn (.func g1) [] z1] (· = HV.bool r) := by
 unfold m_slices_ContainsFunc_Lstring_stringG at h
 refine Pure.of_body Tryz.func84 rfl rfl (Nat.le_of_ble_eq_true rfl) fun hf => ?_
 unfold Tryz.f84
 dsimp only [enumS, Nat.reduceAdd]
 refine AW.rgs rfl fun K hK => ?_
 refine mv rfl rfl ?_
 refine b_fin hK (s' := ⟨[(0, slE eStr p0), (1, HV.fn (.func g1) [] z1)], []⟩) (le_q rfl rfl) ?_
 clear hK K
 refine AW.rgs rfl fun K hK => ?_
 refine mv rfl rfl ?_
 refine mv rfl rfl ?_
 obtain ⟨x1, h2, h⟩ := bS h
 refine b_op rfl (o_call rfl rfl rfl rfl (ACallD.pure0 (w_slices_IndexFunc_Lstring_stringG h2 hf1)) ?_)
 refine bv rfl (v_bin rfl rfl b_geq) ?_
 refine mv rfl rfl ?_
 refine b_fin hK (s' := ⟨[(4, HV.bool (decide (0 ≤ x1)))], []⟩) (le_q rfl rfl) ?_
 clear hK K
 refine AW.ret ?_
 have h := Option.some.inj h
 subst h
 exact ret_pure (hs := [HV.bool (decide (0 ≤ x1))]) (q := HV.bool (decide (0 ≤ x1))) (.inr rfl) (resT rfl rfl) rfl trivial

set_option maxHeartbeats 1600000 in
set_option maxRecDepth 100000 in
theorem w_merging_uneven_1 {p0 : List UInt8} {c0 : List (List UInt8)} {r : Bool} (h : m_merging_uneven_1 p0 c0 = some r) : Pure Tryz.prog 166 [HV.str p0, HV.fptr [slE eStr c0] 0] (· = HV.bool r) := by
 unfold m_merging_uneven_1 at h
 refine Pure.of_body Tryz.func166 rfl rfl (Nat.le_of_ble_eq_true rfl) fun hf => ?_
 unfold Tryz.f166
 dsimp only [enumS, Nat.reduceAdd]
 refine AW.rgs rfl fun K hK => ?_
 refine mv rfl rfl ?_
 refine b_fin hK (s' := ⟨[(0, HV.str p0), (1, HV.fptr [slE eStr c0] 0)], []⟩) (le_q rfl rfl) ?_
 clear hK K
 refine AW.rgs rfl fun K hK => ?_
 refine mv rfl rfl ?_
 refine bv rfl (v_lenS rfl rfl ty9 rfl) ?_
 refine bv rfl (v_loadF ty22 rfl (l_lit rfl rfl)) ?_
 obtain ⟨x1, h2, h⟩ := bS h
 refine bv rfl (v_idxF ty22 es22 rfl rfl (idx_lt h2)) ?_
 refine bv rfl (v_loadF ty9 rfl (l_cell eStr h2 (o := 0) rfl rfl)) ?_
 refine bv rfl (v_lenS rfl rfl ty9 rfl) ?_
 refine bv rfl (v_bin rfl rfl b_neq) ?_
 refine mv rfl rfl ?_
 refine b_fin hK (s' := ⟨[(3, HV.bool (decide (((p0).length : Int) ≠ ((x1).length : Int))))], []⟩) (le_q rfl rfl) ?_
 clear hK K
 refine AW.ret ?_
 have h := Option.some.inj h
 subst h
 exact ret_pure (hs := [HV.bool (decide (((p0).length : Int) ≠ ((x1).length : Int)))]) (q := HV.bool (decide (((p0).length : Int) ≠ ((x1).length : Int)))) (.inr rfl) (resT rfl rfl) rfl trivial

set_option maxHeartbeats 1600000 in
set_option maxRecDepth 100000 in
theorem w_merging_uneven {p0 : List (List UInt8)} {r : Bool} (h : m_merging_uneven p0 = some r) : Pure Tryz.prog 113 [slE eStr p0] (· = HV.bool r) := by
 unfold m_merging_uneven at h
 refine Pure.of_body Tryz.func113 rfl rfl (Nat.le_of_ble_eq_true rfl) fun hf => ?_
 unfold Tryz.f113
 dsimp only [enumS, Nat.reduceAdd]
 refine AW.rgs rfl fun K hK => ?_
 refine b_op rfl (o_box rfl rfl rfl ?_)
 refine mv rfl rfl ?_
 refine b_fin hK (s' := ⟨[(1, HV.fptr [slE eStr p0] 0)], []⟩) (le_q rfl rfl) ?_
 clear hK K
 refine AW.rgs rfl fun K hK => ?_
 refine bv rfl (v_loadF ty22 rfl (l_lit rfl rfl)) ?_
 refine bv rfl (v_func rfl rfl) ?_
 obtain ⟨x1, h2, h⟩ := bS h
 refine b_op rfl (o_call rfl rfl rfl rfl (ACallD.pure0 (w_slices_ContainsFunc_Lstring_stringG h2 (fun _ _ h => w_merging_uneven_1 h))) ?_)
 refine mv rfl rfl ?_
 refine b_fin hK (s' := ⟨[(2, HV.bool x1)], []⟩) (le_q rfl rfl) ?_
 clear hK K
 refine AW.ret ?_
 have h := Option.some.inj h
 subst h
 exact ret_pure (hs := [HV.bool x1]) (q := HV.bool x1) (.inr rfl) (resT rfl rfl) rfl trivial

set_option maxHeartbeats 1600000 in
set_option maxRecDepth 100000 in
theorem w_merging_letters_1 {p0 : List UInt8} {r : Bool} (h : m_merging_letters_1 p0 = some r) : Pure Tryz.prog 167 [HV.str p0] (· = HV.bool r) := by
 unfold m_merging_letters_1 at h
 refine Pure.of_body Tryz.func167 rfl rfl (Nat.le_of_ble_eq_true rfl) fun hf => ?_
 unfold Tryz.f167
 dsimp only [enumS, Nat.reduceAdd]
 refine AW.rgs rfl fun K hK => ?_
 refine mv rfl rfl ?_
 refine b_fin hK (s' := ⟨[(0, HV.str p0)], []⟩) (le_q rfl rfl) ?_
 clear hK K
 refine AW.rgs rfl fun K hK => ?_
 refine mv rfl rfl ?_
 obtain ⟨x1, h2, h⟩ := bS h
 refine b_op rfl (o_call rfl rfl rfl rfl (ACallD.pure0 (w_strings_Count h2)) ?_)
 refine mv rfl rfl ?_
 obtain ⟨x3, h4, h⟩ := bS h
 refine b_op rfl (o_call rfl rfl rfl rfl (ACallD.pure0 (w_strings_Count h4)) ?_)
 refine bv rfl (v_bin rfl rfl b_add) ?_
 refine mv rfl rfl ?_
 refine bv rfl (v_lenS rfl rfl ty9 rfl) ?_
 refine bv rfl (v_bin rfl rfl b_neq) ?_
 refine mv rfl rfl ?_
 refine b_fin hK (s' := ⟨[(2, HV.bool (decide ((IntKind.wrap .i64 (x1 + x3)) ≠ ((p0).length : Int))))], []⟩) (le_q rfl rfl) ?_
 clear hK K
 refine AW.ret ?_
 have h := Option.some.inj h
 subst h
 exact ret_pure (hs := [HV.bool (decide ((IntKind.wrap .i64 (x1 + x3)) ≠ ((p0).length : Int)))]) (q := HV.bool (decide ((IntKind.wrap .i64 (x1 + x3)) ≠ ((p0).length : Int)))) (.inr rfl) (resT rfl rfl) rfl trivial

set_option maxHeartbeats 1600000 in
set_option maxRecDepth 100000 in
theorem w_merging_letters {p0 : List (List UInt8)} {r : Bool} (h : m_merging_letters p0 = some r) : Pure Tryz.prog 114 [slE eStr p0] (· = HV.bool r) := by
 unfold m_merging_letters at h
 refine Pure.of_body Tryz.func114 rfl rfl (Nat.le_of_ble_eq_true rfl) fun hf => ?_
 unfold Tryz.f114
 dsimp only [enumS, Nat.reduceAdd]
 refine AW.rgs rfl fun K hK => ?_
 refine mv rfl rfl ?_
 refine b_fin hK (s' := ⟨[(0, slE eStr p0)], []⟩) (le_q rfl rfl) ?_
 clear hK K
 refine AW.rgs rfl fun K hK => ?_
 refine mv rfl rfl ?_
 obtain ⟨x1, h2, h⟩ := bS h
 refine b_op rfl (o_call rfl rfl rfl rfl (ACallD.pure0 (w_slices_ContainsFunc_Lstring_stringG h2 (fun _ _ h => w_merging_letters_1 h))) ?_)
 refine mv rfl rfl ?_
 refine b_fin hK (s' := ⟨[(2, HV.bool x1)], []⟩) (le_q rfl rfl) ?_
 clear hK K
 refine AW.ret ?_
 have h := Option.some.inj h
 subst h
 exact ret_pure (hs := [HV.bool x1]) (q := HV.bool x1) (.inr rfl) (resT rfl rfl) rfl trivial

set_option maxHeartbeats 1600000 in
set_option maxRecDepth 100000 in
theorem w_merging_repeats {p0 : List (List UInt8)} {r : Bool} (h : m_merging_repeats p0 = some r) : Pure Tryz.prog 115 [slE eStr p0] (· = HV.bool r) := by
 unfold m_merging_repeats at h
 refine Pure.of_body Tryz.func115 rfl rfl (Nat.le_of_ble_eq_true rfl) fun hf => ?_
 unfold Tryz.f115
 dsimp only [enumS, Nat.reduceAdd]
 refine AW.rgs rfl fun K hK => ?_
 refine mv rfl rfl ?_
 refine b_fin hK (s' := ⟨[(0, slE eStr p0)], []⟩) (le_q rfl rfl) ?_
 clear hK K
 refine AW.rgs rfl fun K hK => ?_
 refine b_op rfl (o_makeMap (fid := 115) HV.bool 115006 rfl rfl (fun v1 => ?_))
 refine mv rfl rfl ?_
 refine b_fin hK (s' := ⟨[(0, slE eStr p0), (3, HV.mp 115006 v1)], [(115006, v1, .map (entE HV.bool ([] : List (List UInt8 × Bool))))]⟩) (le_q rfl rfl) ?_
 clear hK K
 refine AW.seq ?_
 refine AW.rgs rfl fun K hK => ?_
 refine mv rfl rfl ?_
 refine bv rfl (v_lenF rfl rfl ty22 rfl) ?_
 refine mv rfl rfl ?_
 refine b_fin hK (s' := ⟨[(3, HV.mp 115006 v1), (7, slE eStr p0), (8, HV.int .i64 ((p0).length : Int)), (9, HV.int .i64 0)], [(115006, v1, .map (entE HV.bool ([] : List (List UInt8 × Bool))))]⟩) (le_q rfl rfl) ?_
 clear hK K
 refine AW.lpR h (by first | exact up_then | exact up_to) (S := Int × (List (List UInt8 × Bool))) (V := Unit) (fun a v => ⟨[(3, HV.mp 115006 v1), (7, slE eStr p0), (8, HV.int .i64 ((p0).length : Int)), (9, HV.int .i64 a.1)], [(115006, v1, .map (entE HV.bool a.2))]⟩) ?_ (X := Unit) (W := Unit) (fun a v => ⟨[], []⟩) (fun a8 w9 h => ?_) (fun a2 w3 st4 h hr5=> ?_)
 ·exact to_le (s' := ⟨[(3, HV.mp 115006 v1), (7, slE eStr p0), (8, HV.int .i64 ((p0).length : Int)), (9, HV.int .i64 0)], [(115006, v1, .map (entE HV.bool ([] : List (List UInt8 × Bool))))]⟩) (AS.le_of ⟨rfl, rfl, rfl, rfl, trivial⟩ ⟨rfl, trivial⟩) ⟨(), rfl⟩
 ·refine AW.rgs rfl fun K hK => ?_
  refine mv rfl rfl ?_
  refine b_fin hK (s' := ⟨[(2, HV.bool false)], []⟩) (le_q rfl rfl) ?_
  clear hK K
  refine AW.ret ?_
  have h := Option.some.inj h
  subst h
  exact ret_pure (hs := [HV.bool false]) (q := HV.bool false) (.inr rfl) (resT rfl rfl) rfl trivial
 refine AW.rgs rfl fun K hK => ?_
 refine bv rfl (v_bin rfl rfl b_lss) ?_
 refine b_fin hK (s' := ⟨[(3, HV.mp 115006 v1), (7, slE eStr p0), (8, HV.int .i64 ((p0).length : Int)), (9, HV.int .i64 a2.1), (10, HV.bool (decide (a2.1 < ((p0).length : Int))))], [(115006, v1, .map (entE HV.bool a2.2))]⟩) (le_q rfl rfl) ?_
 clear hK K
 refine AW.cseq rfl (fun hc => ?_) (fun hc => ?_)
 ·have hc := of_decide_eq_true hc
  have h := ifT hc h
  refine AW.skip ?_
  refine AW.seq (AW.block ?_)
  refine AW.rgs rfl fun K hK => ?_
  obtain ⟨x6, h7, h⟩ := bS h
  refine bv rfl (v_idxF ty22 es22 rfl rfl (idx_lt h7)) ?_
  refine bv rfl (v_loadF ty9 rfl (l_cell eStr h7 (o := 0) rfl rfl)) ?_
  refine mv rfl rfl ?_
  refine b_fin hK (s' := ⟨[(3, HV.mp 115006 v1), (5, HV.str x6), (7, slE eStr p0), (8, HV.int .i64 ((p0).length : Int)), (9, HV.int .i64 a2.1)], [(115006, v1, .map (entE HV.bool a2.2))]⟩) (le_q rfl rfl) ?_
  clear hK K
  refine AW.seq ?_
  refine AW.rgs rfl fun K hK => ?_
  refine mv rfl rfl ?_
  refine mv rfl rfl ?_
  refine b_op rfl (o_look (fid := 115) HV.bool (es := a2.2) (k := x6) (v := (mlook x6 a2.2).getD false) rfl ty174 ty9 ty4 rfl rfl rfl rfl (look_dflt rfl) ?_)
  refine b_fin hK (s' := ⟨[(3, HV.mp 115006 v1), (5, HV.str x6), (7, slE eStr p0), (8, HV.int .i64 ((p0).length : Int)), (9, HV.int .i64 a2.1), (15, HV.bool ((mlook x6 a2.2).getD false))], [(115006, v1, .map (entE HV.bool a2.2))]⟩) (le_q rfl rfl) ?_
  clear hK K
  refine AW.cond rfl (fun hc => ?_) (fun hc => ?_)
  ·have h := ifT hc h
   refine AW.rgs rfl fun K hK => ?_
   refine mv rfl rfl ?_
   refine b_fin hK (s' := ⟨[(2, HV.bool true)], []⟩) (le_q rfl rfl) ?_
   clear hK K
   have h := hr5 _ h
   refine AW.ret ?_
   have h := Option.some.inj h
   subst h
   exact ret_pure (hs := [HV.bool true]) (q := HV.bool true) (.inr rfl) (resT rfl rfl) rfl trivial
  have h := ifF (bF' hc) h
  refine AW.skip ?_
  refine AW.rg rfl fun K hK => ?_
  refine mv rfl rfl ?_
  refine mv rfl rfl ?_
  refine b_op rfl (o_mapSet HV.bool (es := a2.2) (k := x6) (v := true) (.inl rfl) ty174 ty9 rfl rfl rfl rfl trivial ?_)
  refine b_fin hK (s' := ⟨[(3, HV.mp 115006 v1), (7, slE eStr p0), (8, HV.int .i64 ((p0).length : Int)), (9, HV.int .i64 a2.1)], [(115006, v1, .map (entE HV.bool (mputN x6 true a2.2)))]⟩) (le_q rfl rfl) ?_
  clear hK K
  refine AW.rg rfl fun K hK => ?_
  refine bv rfl (v_bin rfl rfl b_add) ?_
  refine mv rfl rfl ?_
  refine b_nil (hK _ ?_)
  clear hK K
  exact to_le (s' := ⟨[(3, HV.mp 115006 v1), (7, slE eStr p0), (8, HV.int .i64 ((p0).length : Int)), (9, HV.int .i64 (IntKind.wrap .i64 (a2.1 + 1)))], [(115006, v1, .map (entE HV.bool (mputN x6 true a2.2)))]⟩) (AS.le_of ⟨rfl, rfl, rfl, rfl, trivial⟩ ⟨rfl, trivial⟩) ⟨(IntKind.wrap .i64 (a2.1 + 1), mputN x6 true a2.2), (), h, rfl⟩
 have hc := of_decide_eq_false hc
 have h := ifF hc h
 refine AW.exit ?_
 exact to_le (s' := ⟨[], []⟩) (AS.le_of trivial trivial) ⟨(), (), h, rfl⟩

set_option maxHeartbeats 1600000 in
set_option maxRecDepth 100000 in
theorem w_merging_form {p0 : TWordsMerges} {r : Int} (h : m_merging_form p0 = some r) : Pure Tryz.prog 64 [HV.agg [slE eStr p0.1, slE eStr p0.2]] (· = HV.int .i64 r) := by
 unfold m_merging_form at h
 refine Pure.of_body Tryz.func64 rfl rfl (Nat.le_of_ble_eq_true rfl) fun hf => ?_
 unfold Tryz.f64
 dsimp only [enumS, Nat.reduceAdd]
 refine AW.rgs rfl fun K hK => ?_
 refine b_op rfl (o_box rfl rfl rfl ?_)
 refine mv rfl rfl ?_
 refine b_fin hK (s' := ⟨[(1, HV.fptr [slE eStr p0.1, slE eStr p0.2] 0)], []⟩) (le_q rfl rfl) ?_
 clear hK K
 refine AW.seq (AW.block ?_)
 refine AW.seqJ h (S := Bool) (V := Unit) (fun a v => ⟨[(1, HV.fptr [slE eStr p0.1, slE eStr p0.2] 0), (3, HV.bool a)], []⟩) (fun a1 w2 h => ?_) (fun k3 h => ?_)
 ·refine AW.cond rfl (fun hc => ?_) (fun hc => ?_)
  ·have h := ifT hc h
   refine AW.rgs rfl fun K hK => ?_
   refine mv rfl rfl ?_
   refine b_fin hK (s' := ⟨[(2, HV.int .i64 5)], []⟩) (le_q rfl rfl) ?_
   clear hK K
   refine AW.ret ?_
   have h := Option.some.inj h
   subst h
   exact ret_pure (hs := [HV.int .i64 5]) (q := HV.int .i64 5) (.inr rfl) (resT rfl rfl) rfl trivial
  have h := ifF (bF' hc) h
  refine AW.seqJ h (S := Bool) (V := Unit) (fun a v => ⟨[(1, HV.fptr [slE eStr p0.1, slE eStr p0.2] 0), (14, HV.bool a)], []⟩) (fun a4 w5 h => ?_) (fun k6 h => ?_)
  ·refine AW.cond rfl (fun hc => ?_) (fun hc => ?_)
   ·have h := ifT hc h
    refine AW.rgs rfl fun K hK => ?_
    refine mv rfl rfl ?_
    refine b_fin hK (s' := ⟨[(2, HV.int .i64 4)], []⟩) (le_q rfl rfl) ?_
    clear hK K
    refine AW.ret ?_
    have h := Option.some.inj h
    subst h
    exact ret_pure (hs := [HV.int .i64 4]) (q := HV.int .i64 4) (.inr rfl) (resT rfl rfl) rfl trivial
   have h := ifF (bF' hc) h
   refine AW.seqJ h (S := Bool) (V := Unit) (fun a v => ⟨[(1, HV.fptr [slE eStr p0.1, slE eStr p0.2] 0), (25, HV.bool a)], []⟩) (fun a7 w8 h => ?_) (fun k9 h => ?_)
   ·refine AW.cond rfl (fun hc => ?_) (fun hc => ?_)
    ·have h := ifT hc h
     refine AW.rgs rfl fun K hK => ?_
     refine mv rfl rfl ?_
     refine b_fin hK (s' := ⟨[(2, HV.int .i64 11)], []⟩) (le_q rfl rfl) ?_
     clear hK K
     refine AW.ret ?_
     have h := Option.some.inj h
     subst h
     exact ret_pure (hs := [HV.int .i64 11]) (q := HV.int .i64 11) (.inr rfl) (resT rfl rfl) rfl trivial
    have h := ifF (bF' hc) h
    refine AW.seqJ h (S := Bool) (V := Unit) (fun a v => ⟨[(1, HV.fptr [slE eStr p0.1, slE eStr p0.2] 0), (34, HV.bool a)], []⟩) (fun a10 w11 h => ?_) (fun k12 h => ?_)
    ·refine AW.cond rfl (fun hc => ?_) (fun hc => ?_)
     ·have h := ifT hc h
      refine AW.rgs rfl fun K hK => ?_
      refine mv rfl rfl ?_
      refine b_fin hK (s' := ⟨[(2, HV.int .i64 2)], []⟩) (le_q rfl rfl) ?_
      clear hK K
      refine AW.ret ?_
      have h := Option.some.inj h
      subst h
      exact ret_pure (hs := [HV.int .i64 2]) (q := HV.int .i64 2) (.inr rfl) (resT rfl rfl) rfl trivial
     have h := ifF (bF' hc) h
     refine AW.seqJ h (S := Bool) (V := Unit) (fun a v => ⟨[(1, HV.fptr [slE eStr p0.1, slE eStr p0.2] 0), (57, HV.bool a)], []⟩) (fun a13 w14 h => ?_) (fun k15 h => ?_)
     ·refine AW.cond rfl (fun hc => ?_) (fun hc => ?_)
      ·have h := ifT hc h
       refine AW.rgs rfl fun K hK => ?_
       refine mv rfl rfl ?_
       refine b_fin hK (s' := ⟨[(2, HV.int .i64 13)], []⟩) (le_q rfl rfl) ?_
       clear hK K
       refine AW.ret ?_
       have h := Option.some.inj h
       subst h
       exact ret_pure (hs := [HV.int .i64 13]) (q := HV.int .i64 13) (.inr rfl) (resT rfl rfl) rfl trivial
      have h := ifF (bF' hc) h
      refine AW.seqJ h (S := Bool) (V := Unit) (fun a v => ⟨[(66, HV.bool a)], []⟩) (fun a16 w17 h => ?_) (fun k18 h => ?_)
      ·refine AW.cond rfl (fun hc => ?_) (fun hc => ?_)
       ·have h := ifT hc h
        refine AW.rgs rfl fun K hK => ?_
        refine mv rfl rfl ?_
        refine b_fin hK (s' := ⟨[(2, HV.int .i64 7)], []⟩) (le_q rfl rfl) ?_
        clear hK K
        refine AW.ret ?_
        have h := Option.some.inj h
        subst h
        exact ret_pure (hs := [HV.int .i64 7]) (q := HV.int .i64 7) (.inr rfl) (resT rfl rfl) rfl trivial
       have h := ifF (bF' hc) h
       refine AW.skip ?_
       refine AW.rgs rfl fun K hK => ?_
       refine mv rfl rfl ?_
       refine b_fin hK (s' := ⟨[(2, HV.int .i64 0)], []⟩) (le_q rfl rfl) ?_
       clear hK K
       refine AW.ret ?_
       have h := Option.some.inj h
       subst h
       exact ret_pure (hs := [HV.int .i64 0]) (q := HV.int .i64 0) (.inr rfl) (resT rfl rfl) rfl trivial
      refine AW.rg rfl fun K hK => ?_
      refine bv rfl (v_fieldAddrF fo24_0 rfl) ?_
      refine bv rfl (v_loadF ty22 rfl (l_lit rfl rfl)) ?_
      obtain ⟨x19, h20, h⟩ := bS h
      refine b_op rfl (o_call rfl rfl rfl rfl (ACallD.pure0 (w_merging_repeats h20)) ?_)
      refine mv rfl rfl ?_
      by_cases hg23 : x19 = true
      ·have h := ifT hg23 h
       refine b_F rfl rfl rfl rfl rfl hg23 ?_
       refine b_F rfl rfl rfl rfl rfl rfl ?_
       refine b_F rfl rfl rfl rfl rfl rfl ?_
       refine bv rfl (v_pickT rfl rfl rfl) ?_
       refine mv rfl rfl ?_
       refine b_nil (hK _ ?_)
       clear hK K
       exact to_le (s' := ⟨[(66, HV.bool true)], []⟩) (AS.le_of ⟨rfl, trivial⟩ trivial) ⟨true, (), h, rfl⟩
      have h := ifF hg23 h
      refine b_T rfl rfl rfl rfl (bF hg23) (o_val rfl (v_fieldAddrF fo24_1 rfl) ?_)
      refine b_T rfl rfl rfl rfl rfl (o_val rfl (v_loadF ty22 rfl (l_lit rfl rfl)) ?_)
      obtain ⟨x21, h22, h⟩ := bS h
      refine b_T rfl rfl rfl rfl rfl (o_call rfl rfl rfl rfl (ACallD.pure0 (w_merging_repeats h22)) ?_)
      refine bv rfl (v_pickF rfl rfl rfl) ?_
      refine mv rfl rfl ?_
      refine b_nil (hK _ ?_)
      clear hK K
      exact to_le (s' := ⟨[(66, HV.bool x21)], []⟩) (AS.le_of ⟨rfl, trivial⟩ trivial) ⟨x21, (), h, rfl⟩
     refine AW.rg rfl fun K hK => ?_
     refine bv rfl (v_fieldAddrF fo24_0 rfl) ?_
     refine bv rfl (v_loadF ty22 rfl (l_lit rfl rfl)) ?_
     obtain ⟨x24, h25, h⟩ := bS h
     refine b_op rfl (o_call rfl rfl rfl rfl (ACallD.pure0 (w_merging_letters h25)) ?_)
     refine mv rfl rfl ?_
     by_cases hg28 : x24 = true
     ·have h := ifT hg28 h
      refine b_F rfl rfl rfl rfl rfl hg28 ?_
      refine b_F rfl rfl rfl rfl rfl rfl ?_
      refine b_F rfl rfl rfl rfl rfl rfl ?_
      refine bv rfl (v_pickT rfl rfl rfl) ?_
      refine mv rfl rfl ?_
      refine b_nil (hK _ ?_)
      clear hK K
      exact to_le (s' := ⟨[(1, HV.fptr [slE eStr p0.1, slE eStr p0.2] 0), (57, HV.bool true)], []⟩) (AS.le_of ⟨rfl, rfl, trivial⟩ trivial) ⟨true, (), h, rfl⟩
     have h := ifF hg28 h
     refine b_T rfl rfl rfl rfl (bF hg28) (o_val rfl (v_fieldAddrF fo24_1 rfl) ?_)
     refine b_T rfl rfl rfl rfl rfl (o_val rfl (v_loadF ty22 rfl (l_lit rfl rfl)) ?_)
     obtain ⟨x26, h27, h⟩ := bS h
     refine b_T rfl rfl rfl rfl rfl (o_call rfl rfl rfl rfl (ACallD.pure0 (w_merging_letters h27)) ?_)
     refine bv rfl (v_pickF rfl rfl rfl) ?_
     refine mv rfl rfl ?_
     refine b_nil (hK _ ?_)
     clear hK K
     exact to_le (s' := ⟨[(1, HV.fptr [slE eStr p0.1, slE eStr p0.2] 0), (57, HV.bool x26)], []⟩) (AS.le_of ⟨rfl, rfl, trivial⟩ trivial) ⟨x26, (), h, rfl⟩
    refine AW.rg rfl fun K hK => ?_
    refine bv rfl (v_fieldAddrF fo24_0 rfl) ?_
    refine bv rfl (v_loadF ty22 rfl (l_lit rfl rfl)) ?_
    obtain ⟨x29, h30, h⟩ := bS h
    refine bv rfl (v_idxF ty22 es22 rfl rfl (idx_lt h30)) ?_
    refine bv rfl (v_loadF ty9 rfl (l_cell eStr h30 (o := 0) rfl rfl)) ?_
    refine bv rfl (v_lenS rfl rfl ty9 rfl) ?_
    refine bv rfl (v_bin rfl rfl b_lss) ?_
    refine mv rfl rfl ?_
    by_cases hg36 : ((x29).length : Int) < 1
    ·have h := ifT hg36 h
     refine b_F rfl rfl rfl rfl rfl (decide_eq_true hg36) ?_
     refine b_F rfl rfl rfl rfl rfl rfl ?_
     refine b_F rfl rfl rfl rfl rfl rfl ?_
     refine b_F rfl rfl rfl rfl rfl rfl ?_
     refine b_F rfl rfl rfl rfl rfl rfl ?_
     refine b_F rfl rfl rfl rfl rfl rfl ?_
     refine bv rfl (v_pickT rfl rfl rfl) ?_
     refine mv rfl rfl ?_
     refine b_F rfl rfl rfl rfl rfl rfl ?_
     refine b_F rfl rfl rfl rfl rfl rfl ?_
     refine b_F rfl rfl rfl rfl rfl rfl ?_
     refine b_F rfl rfl rfl rfl rfl rfl ?_
     refine b_F rfl rfl rfl rfl rfl rfl ?_
     refine b_F rfl rfl rfl rfl rfl rfl ?_
     refine bv rfl (v_pickT rfl rfl rfl) ?_
     refine mv rfl rfl ?_
     refine b_nil (hK _ ?_)
     clear hK K
     exact to_le (s' := ⟨[(1, HV.fptr [slE eStr p0.1, slE eStr p0.2] 0), (34, HV.bool true)], []⟩) (AS.le_of ⟨rfl, rfl, trivial⟩ trivial) ⟨true, (), h, rfl⟩
    have h := ifF hg36 h
    refine b_T rfl rfl rfl rfl (decide_eq_false hg36) (o_val rfl (v_fieldAddrF fo24_0 rfl) ?_)
    refine b_T rfl rfl rfl rfl rfl (o_val rfl (v_loadF ty22 rfl (l_lit rfl rfl)) ?_)
    obtain ⟨x31, h32, h⟩ := bS h
    refine b_T rfl rfl rfl rfl rfl (o_val rfl (v_idxF ty22 es22 rfl rfl (idx_lt h32)) ?_)
    refine b_T rfl rfl rfl rfl rfl (o_val rfl (v_loadF ty9 rfl (l_cell eStr h32 (o := 0) rfl rfl)) ?_)
    refine b_T rfl rfl rfl rfl rfl (o_val rfl (v_lenS rfl rfl ty9 rfl) ?_)
    refine b_T rfl rfl rfl rfl rfl (o_val rfl (v_bin rfl rfl b_gtr) ?_)
    refine bv rfl (v_pickF rfl rfl rfl) ?_
    refine mv rfl rfl ?_
    by_cases hg35 : 16 < ((x31).length : Int)
    ·have h := ifT hg35 h
     refine b_F rfl rfl rfl rfl rfl (decide_eq_true hg35) ?_
     refine b_F rfl rfl rfl rfl rfl rfl ?_
     refine b_F rfl rfl rfl rfl rfl rfl ?_
     refine b_F rfl rfl rfl rfl rfl rfl ?_
     refine b_F rfl rfl rfl rfl rfl rfl ?_
     refine b_F rfl rfl rfl rfl rfl rfl ?_
     refine bv rfl (v_pickT rfl rfl rfl) ?_
     refine mv rfl rfl ?_
     refine b_nil (hK _ ?_)
     clear hK K
     exact to_le (s' := ⟨[(1, HV.fptr [slE eStr p0.1, slE eStr p0.2] 0), (34, HV.bool true)], []⟩) (AS.le_of ⟨rfl, rfl, trivial⟩ trivial) ⟨true, (), h, rfl⟩
    have h := ifF hg35 h
    refine b_T rfl rfl rfl rfl (decide_eq_false hg35) (o_val rfl (v_fieldAddrF fo24_1 rfl) ?_)
    refine b_T rfl rfl rfl rfl rfl (o_val rfl (v_loadF ty22 rfl (l_lit rfl rfl)) ?_)
    obtain ⟨x33, h34, h⟩ := bS h
    refine b_T rfl rfl rfl rfl rfl (o_val rfl (v_idxF ty22 es22 rfl rfl (idx_lt h34)) ?_)
    refine b_T rfl rfl rfl rfl rfl (o_val rfl (v_loadF ty9 rfl (l_cell eStr h34 (o := 0) rfl rfl)) ?_)
    refine b_T rfl rfl rfl rfl rfl (o_val rfl (v_lenS rfl rfl ty9 rfl) ?_)
    refine b_T rfl rfl rfl rfl rfl (o_val rfl (v_bin rfl rfl b_gtr) ?_)
    refine bv rfl (v_pickF rfl rfl rfl) ?_
    refine mv rfl rfl ?_
    refine b_nil (hK _ ?_)
    clear hK K
    exact to_le (s' := ⟨[(1, HV.fptr [slE eStr p0.1, slE eStr p0.2] 0), (34, HV.bool (decide (16 < ((x33).length : Int))))], []⟩) (AS.le_of ⟨rfl, rfl, trivial⟩ trivial) ⟨decide (16 < ((x33).length : Int)), (), h, rfl⟩
   refine AW.rg rfl fun K hK => ?_
   refine bv rfl (v_fieldAddrF fo24_0 rfl) ?_
   refine bv rfl (v_loadF ty22 rfl (l_lit rfl rfl)) ?_
   obtain ⟨x37, h38, h⟩ := bS h
   refine b_op rfl (o_call rfl rfl rfl rfl (ACallD.pure0 (w_merging_uneven h38)) ?_)
   refine mv rfl rfl ?_
   by_cases hg41 : x37 = true
   ·have h := ifT hg41 h
    refine b_F rfl rfl rfl rfl rfl hg41 ?_
    refine b_F rfl rfl rfl rfl rfl rfl ?_
    refine b_F rfl rfl rfl rfl rfl rfl ?_
    refine bv rfl (v_pickT rfl rfl rfl) ?_
    refine mv rfl rfl ?_
    refine b_nil (hK _ ?_)
    clear hK K
    exact to_le (s' := ⟨[(1, HV.fptr [slE eStr p0.1, slE eStr p0.2] 0), (25, HV.bool true)], []⟩) (AS.le_of ⟨rfl, rfl, trivial⟩ trivial) ⟨true, (), h, rfl⟩
   have h := ifF hg41 h
   refine b_T rfl rfl rfl rfl (bF hg41) (o_val rfl (v_fieldAddrF fo24_1 rfl) ?_)
   refine b_T rfl rfl rfl rfl rfl (o_val rfl (v_loadF ty22 rfl (l_lit rfl rfl)) ?_)
   obtain ⟨x39, h40, h⟩ := bS h
   refine b_T rfl rfl rfl rfl rfl (o_call rfl rfl rfl rfl (ACallD.pure0 (w_merging_uneven h40)) ?_)
   refine bv rfl (v_pickF rfl rfl rfl) ?_
   refine mv rfl rfl ?_
   refine b_nil (hK _ ?_)
   clear hK K
   exact to_le (s' := ⟨[(1, HV.fptr [slE eStr p0.1, slE eStr p0.2] 0), (25, HV.bool x39)], []⟩) (AS.le_of ⟨rfl, rfl, trivial⟩ trivial) ⟨x39, (), h, rfl⟩
  refine AW.rg rfl fun K hK => ?_
  refine bv rfl (v_fieldAddrF fo24_0 rfl) ?_
  refine bv rfl (v_loadF ty22 rfl (l_lit rfl rfl)) ?_
  refine bv rfl (v_lenF rfl rfl ty22 rfl) ?_
  refine bv rfl (v_bin rfl rfl b_gtr) ?_
  refine mv rfl rfl ?_
  by_cases hg42 : 256 < ((p0.1).length : Int)
  ·have h := ifT hg42 h
   refine b_F rfl rfl rfl rfl rfl (decide_eq_true hg42) ?_
   refine b_F rfl rfl rfl rfl rfl rfl ?_
   refine b_F rfl rfl rfl rfl rfl rfl ?_
   refine b_F rfl rfl rfl rfl rfl rfl ?_
   refine bv rfl (v_pickT rfl rfl rfl) ?_
   refine mv rfl rfl ?_
   refine b_nil (hK _ ?_)
   clear hK K
   exact to_le (s' := ⟨[(1, HV.fptr [slE eStr p0.1, slE eStr p0.2] 0), (14, HV.bool true)], []⟩) (AS.le_of ⟨rfl, rfl, trivial⟩ trivial) ⟨true, (), h, rfl⟩
  have h := ifF hg42 h
  refine b_T rfl rfl rfl rfl (decide_eq_false hg42) (o_val rfl (v_fieldAddrF fo24_1 rfl) ?_)
  refine b_T rfl rfl rfl rfl rfl (o_val rfl (v_loadF ty22 rfl (l_lit rfl rfl)) ?_)
  refine b_T rfl rfl rfl rfl rfl (o_val rfl (v_lenF rfl rfl ty22 rfl) ?_)
  refine b_T rfl rfl rfl rfl rfl (o_val rfl (v_bin rfl rfl b_gtr) ?_)
  refine bv rfl (v_pickF rfl rfl rfl) ?_
  refine mv rfl rfl ?_
  refine b_nil (hK _ ?_)
  clear hK K
  exact to_le (s' := ⟨[(1, HV.fptr [slE eStr p0.1, slE eStr p0.2] 0), (14, HV.bool (decide (256 < ((p0.2).length : Int))))], []⟩) (AS.le_of ⟨rfl, rfl, trivial⟩ trivial) ⟨decide (256 < ((p0.2).length : Int)), (), h, rfl⟩
 refine AW.rg rfl fun K hK => ?_
 refine bv rfl (v_fieldAddrF fo24_0 rfl) ?_
 refine bv rfl (v_loadF ty22 rfl (l_lit rfl rfl)) ?_
 refine bv rfl (v_lenF rfl rfl ty22 rfl) ?_
 refine bv rfl (v_bin rfl rfl b_eql) ?_
 refine mv rfl rfl ?_
 by_cases hg43 : ((p0.1).length : Int) = 0
 ·have h := ifT hg43 h
  refine b_F rfl rfl rfl rfl rfl (decide_eq_true hg43) ?_
  refine b_F rfl rfl rfl rfl rfl rfl ?_
  refine b_F rfl rfl rfl rfl rfl rfl ?_
  refine b_F rfl rfl rfl rfl rfl rfl ?_
  refine bv rfl (v_pickT rfl rfl rfl) ?_
  refine mv rfl rfl ?_
  refine b_nil (hK _ ?_)
  clear hK K
  exact to_le (s' := ⟨[(1, HV.fptr [slE eStr p0.1, slE eStr p0.2] 0), (3, HV.bool true)], []⟩) (AS.le_of ⟨rfl, rfl, trivial⟩ trivial) ⟨true, (), h, rfl⟩
 have h := ifF hg43 h
 refine b_T rfl rfl rfl rfl (decide_eq_false hg43) (o_val rfl (v_fieldAddrF fo24_1 rfl) ?_)
 refine b_T rfl rfl rfl rfl rfl (o_val rfl (v_loadF ty22 rfl (l_lit rfl rfl)) ?_)
 refine b_T rfl rfl rfl rfl rfl (o_val rfl (v_lenF rfl rfl ty22 rfl) ?_)
 refine b_T rfl rfl rfl rfl rfl (o_val rfl (v_bin rfl rfl b_eql) ?_)
 refine bv rfl (v_pickF rfl rfl rfl) ?_
 refine mv rfl rfl ?_
 refine b_nil (hK _ ?_)
 clear hK K
 exact to_le (s' := ⟨[(1, HV.fptr [slE eStr p0.1, slE eStr p0.2] 0), (3, HV.bool (decide (((p0.2).length : Int) = 0)))], []⟩) (AS.le_of ⟨rfl, rfl, trivial⟩ trivial) ⟨decide (((p0.2).length : Int) = 0), (), h, rfl⟩

set_option maxHeartbeats 1600000 in
set_option maxRecDepth 100000 in
theorem w_graph_list {p0 : TFromLabelTo} {r : (List (Int))} (h : m_graph_list p0 = some r) : Pure Tryz.prog 134 [HV.agg [HV.int .i64 p0.1, HV.int .i64 p0.2.1, HV.int .i64 p0.2.2]] (· = slE eInt r) := by
 unfold m_graph_list at h
 refine Pure.of_body Tryz.func134 rfl rfl (Nat.le_of_ble_eq_true rfl) fun hf => ?_
 unfold Tryz.f134
 dsimp only [enumS, Nat.reduceAdd]
 refine AW.rgs rfl fun K hK => ?_
 refine b_op rfl (o_box rfl rfl rfl ?_)
 refine mv rfl rfl ?_
 refine b_fin hK (s' := ⟨[(1, HV.fptr [HV.int .i64 p0.1, HV.int .i64 p0.2.1, HV.int .i64 p0.2.2] 0)], []⟩) (le_q rfl rfl) ?_
 clear hK K
 refine AW.rgs rfl fun K hK => ?_
 refine bv rfl (v_fieldAddrF fo128_0 rfl) ?_
 refine bv rfl (v_loadF ty3 rfl (l_lit rfl rfl)) ?_
 refine bv rfl (v_fieldAddrF fo128_1 rfl) ?_
 refine bv rfl (v_loadF ty3 rfl (l_lit rfl rfl)) ?_
 refine bv rfl (v_fieldAddrF fo128_2 rfl) ?_
 refine bv rfl (v_loadF ty3 rfl (l_lit rfl rfl)) ?_
 refine b_op rfl (o_bsl rfl rfl (as_of (cs := [HV.int .i64 p0.1, HV.int .i64 p0.2.1, HV.int .i64 p0.2.2]) ty31 ty3 rfl rfl rfl rfl rfl) ?_)
 refine mv rfl rfl ?_
 refine b_fin hK (s' := ⟨[(2, slE eInt [p0.1, p0.2.1, p0.2.2])], []⟩) (le_q rfl rfl) ?_
 clear hK K
 refine AW.ret ?_
 have h := Option.some.inj h
 subst h
 exact ret_pure (hs := [slE eInt [p0.1, p0.2.1, p0.2.2]]) (q := slE eInt [p0.1, p0.2.1, p0.2.2]) (.inr rfl) (resT rfl rfl) rfl (clean_slE fun _ _ => ⟨trivial, trivial⟩)

set_option maxHeartbeats 1600000 in
set_option maxRecDepth 100000 in
theorem w_cmp_isNaN_int {p0 : Int} {r : Bool} (h : m_cmp_isNaN_int p0 = some r) : Pure Tryz.prog 125 [HV.int .i64 p0] (· = HV.bool r) := by
 unfold m_cmp_isNaN_int at h
 refine Pure.of_body Tryz.func125 rfl rfl (Nat.le_of_ble_eq_true rfl) fun hf => ?_
 unfold Tryz.f125
 dsimp only [enumS, Nat.reduceAdd]
 refine AW.rgs rfl fun K hK => ?_
 refine mv rfl rfl ?_
 refine b_fin hK (s' := ⟨[(0, HV.int .i64 p0)], []⟩) (le_q rfl rfl) ?_
 clear hK K
 refine AW.rgs rfl fun K hK => ?_
 refine mv rfl rfl ?_
 refine mv rfl rfl ?_
 refine bv rfl (v_bin rfl rfl b_neq) ?_
 refine mv rfl rfl ?_
 refine b_fin hK (s' := ⟨[(2, HV.bool (decide (p0 ≠ p0)))], []⟩) (le_q rfl rfl) ?_
 clear hK K
 refine AW.ret ?_
 have h := Option.some.inj h
 subst h
 exact ret_pure (hs := [HV.bool (decide (p0 ≠ p0))]) (q := HV.bool (decide (p0 ≠ p0))) (.inr rfl) (resT rfl rfl) rfl trivial

set_option maxHeartbeats 1600000 in
set_option maxRecDepth 100000 in
theorem w_cmp_Compare_int {p0 : Int} {p1 : Int} {r : Int} (h : m_cmp_Compare_int p0 p1 = some r) : Pure Tryz.prog 211 [HV.int .i64 p0, HV.int .i64 p1] (· = HV.int .i64 r) := by
 unfold m_cmp_Compare_int at h
 refine Pure.of_body Tryz.func211 rfl rfl (Nat.le_of_ble_eq_true rfl) fun hf => ?_
 unfold Tryz.f211
 dsimp only [enumS, Nat.reduceAdd]
 refine AW.rgs rfl fun K hK => ?_
 refine mv rfl rfl ?_
 refine b_fin hK (s' := ⟨[(0, HV.int .i64 p0), (1, HV.int .i64 p1)], []⟩) (le_q rfl rfl) ?_
 clear hK K
 refine AW.rgs rfl fun K hK => ?_
 refine mv rfl rfl ?_
 obtain ⟨x1, h2, h⟩ := bS h
 refine b_op rfl (o_call rfl rfl rfl rfl (ACallD.pure0 (w_cmp_isNaN_int h2)) ?_)
 refine mv rfl rfl ?_
 refine b_fin hK (s' := ⟨[(0, HV.int .i64 p0), (1, HV.int .i64 p1), (5, HV.bool x1)], []⟩) (le_q rfl rfl) ?_
 clear hK K
 refine AW.rgs rfl fun K hK => ?_
 refine mv rfl rfl ?_
 obtain ⟨x3, h4, h⟩ := bS h
 refine b_op rfl (o_call rfl rfl rfl rfl (ACallD.pure0 (w_cmp_isNaN_int h4)) ?_)
 refine mv rfl rfl ?_
 refine b_fin hK (s' := ⟨[(0, HV.int .i64 p0), (1, HV.int .i64 p1), (5, HV.bool x1), (6, HV.bool x3)], []⟩) (le_q rfl rfl) ?_
 clear hK K
 refine AW.seq ?_
 refine AW.rgs rfl fun K hK => ?_
 refine mv rfl rfl ?_
 refine b_fin hK (s' := ⟨[(0, HV.int .i64 p0), (1, HV.int .i64 p1), (6, HV.bool x3), (11, HV.bool x1)], []⟩) (le_q rfl rfl) ?_
 clear hK K
 refine AW.cond rfl (fun hc => ?_) (fun hc => ?_)
 ·have h := ifT hc h
  refine AW.seq ?_
  refine AW.rgs rfl fun K hK => ?_
  refine mv rfl rfl ?_
  refine b_fin hK (s' := ⟨[(12, HV.bool x3)], []⟩) (le_q rfl rfl) ?_
  clear hK K
  refine AW.cond rfl (fun hc => ?_) (fun hc => ?_)
  ·have h := ifT hc h
   refine AW.rgs rfl fun K hK => ?_
   refine mv rfl rfl ?_
   refine b_fin hK (s' := ⟨[(4, HV.int .i64 0)], []⟩) (le_q rfl rfl) ?_
   clear hK K
   refine AW.ret ?_
   have h := Option.some.inj h
   subst h
   exact ret_pure (hs := [HV.int .i64 0]) (q := HV.int .i64 0) (.inr rfl) (resT rfl rfl) rfl trivial
  have h := ifF (bF' hc) h
  refine AW.skip ?_
  refine AW.rgs rfl fun K hK => ?_
  refine mv rfl rfl ?_
  refine b_fin hK (s' := ⟨[(4, HV.int .i64 (-1))], []⟩) (le_q rfl rfl) ?_
  clear hK K
  refine AW.ret ?_
  have h := Option.some.inj h
  subst h
  exact ret_pure (hs := [HV.int .i64 (-1)]) (q := HV.int .i64 (-1)) (.inr rfl) (resT rfl rfl) rfl trivial
 have h := ifF (bF' hc) h
 refine AW.skip ?_
 refine AW.seq ?_
 refine AW.rgs rfl fun K hK => ?_
 refine mv rfl rfl ?_
 refine b_fin hK (s' := ⟨[(0, HV.int .i64 p0), (1, HV.int .i64 p1), (13, HV.bool x3)], []⟩) (le_q rfl rfl) ?_
 clear hK K
 refine AW.cond rfl (fun hc => ?_) (fun hc => ?_)
 ·have h := ifT hc h
  refine AW.rgs rfl fun K hK => ?_
  refine mv rfl rfl ?_
  refine b_fin hK (s' := ⟨[(4, HV.int .i64 1)], []⟩) (le_q rfl rfl) ?_
  clear hK K
  refine AW.ret ?_
  have h := Option.some.inj h
  subst h
  exact ret_pure (hs := [HV.int .i64 1]) (q := HV.int .i64 1) (.inr rfl) (resT rfl rfl) rfl trivial
 have h := ifF (bF' hc) h
 refine AW.skip ?_
 refine AW.seq ?_
 refine AW.rgs rfl fun K hK => ?_
 refine mv rfl rfl ?_
 refine mv rfl rfl ?_
 refine bv rfl (v_bin rfl rfl b_lss) ?_
 refine b_fin hK (s' := ⟨[(0, HV.int .i64 p0), (1, HV.int .i64 p1), (16, HV.bool (decide (p0 < p1)))], []⟩) (le_q rfl rfl) ?_
 clear hK K
 refine AW.cond rfl (fun hc => ?_) (fun hc => ?_)
 ·have hc := of_decide_eq_true hc
  have h := ifT hc h
  refine AW.rgs rfl fun K hK => ?_
  refine mv rfl rfl ?_
  refine b_fin hK (s' := ⟨[(4, HV.int .i64 (-1))], []⟩) (le_q rfl rfl) ?_
  clear hK K
  refine AW.ret ?_
  have h := Option.some.inj h
  subst h
  exact ret_pure (hs := [HV.int .i64 (-1)]) (q := HV.int .i64 (-1)) (.inr rfl) (resT rfl rfl) rfl trivial
 have hc := of_decide_eq_false hc
 have h := ifF hc h
 refine AW.skip ?_
 refine AW.seq ?_
 refine AW.rgs rfl fun K hK => ?_
 refine mv rfl rfl ?_
 refine mv rfl rfl ?_
 refine bv rfl (v_bin rfl rfl b_gtr) ?_
 refine b_fin hK (s' := ⟨[(19, HV.bool (decide (p1 < p0)))], []⟩) (le_q rfl rfl) ?_
 clear hK K
 refine AW.cond rfl (fun hc => ?_) (fun hc => ?_)
 ·have hc := of_decide_eq_true hc
  have h := ifT hc h
  refine AW.rgs rfl fun K hK => ?_
  refine mv rfl rfl ?_
  refine b_fin hK (s' := ⟨[(4, HV.int .i64 1)], []⟩) (le_q rfl rfl) ?_
  clear hK K
  refine AW.ret ?_
  have h := Option.some.inj h
  subst h
  exact ret_pure (hs := [HV.int .i64 1]) (q := HV.int .i64 1) (.inr rfl) (resT rfl rfl) rfl trivial
 have hc := of_decide_eq_false hc
 have h := ifF hc h
 refine AW.skip ?_
 refine AW.rgs rfl fun K hK => ?_
 refine mv rfl rfl ?_
 refine b_fin hK (s' := ⟨[(4, HV.int .i64 0)], []⟩) (le_q rfl rfl) ?_
 clear hK K
 refine AW.ret ?_
 have h := Option.some.inj h
 subst h
 exact ret_pure (hs := [HV.int .i64 0]) (q := HV.int .i64 0) (.inr rfl) (resT rfl rfl) rfl trivial

set_option maxHeartbeats 1600000 in
set_option maxRecDepth 100000 in
theorem w_slices_Compare_Lint_int {p0 : List (Int)} {p1 : List (Int)} {r : Int} (h : m_slices_Compare_Lint_int p0 p1 = some r) : Pure Tryz.prog 180 [slE eInt p0, slE eInt p1] (· = HV.int .i64 r) := by
 unfold m_slices_Compare_Lint_int at h
 refine Pure.of_body Tryz.func180 rfl rfl (Nat.le_of_ble_eq_true rfl) fun hf => ?_
 unfold Tryz.f180
 dsimp only [enumS, Nat.reduceAdd]
 refine AW.rgs rfl fun K hK => ?_
 refine mv rfl rfl ?_
 refine b_fin hK (s' := ⟨[(0, slE eInt p0), (1, slE eInt p1)], []⟩) (le_q rfl rfl) ?_
 clear hK K
 refine AW.seq ?_
 refine AW.rgs rfl fun K hK => ?_
 refine mv rfl rfl ?_
 refine bv rfl (v_lenF rfl rfl ty31 rfl) ?_
 refine mv rfl rfl ?_
 refine b_fin hK (s' := ⟨[(0, slE eInt p0), (1, slE eInt p1), (9, slE eInt p0), (10, HV.int .i64 ((p0).length : Int)), (11, HV.int .i64 0)], []⟩) (le_q rfl rfl) ?_
 clear hK K
 refine AW.lpR h (by first | exact up_then | exact up_to) (S := Int) (V := Unit) (fun a v => ⟨[(0, slE eInt p0), (1, slE eInt p1), (9, slE eInt p0), (10, HV.int .i64 ((p0).length : Int)), (11, HV.int .i64 a)], []⟩) ?_ (X := Unit) (W := Unit) (fun a v => ⟨[(0, slE eInt p0), (1, slE eInt p1)], []⟩) (fun a11 w12 h => ?_) (fun a1 w2 st3 h hr4=> ?_)
 ·exact to_le (s' := ⟨[(0, slE eInt p0), (1, slE eInt p1), (9, slE eInt p0), (10, HV.int .i64 ((p0).length : Int)), (11, HV.int .i64 0)], []⟩) (AS.le_of ⟨rfl, rfl, rfl, rfl, rfl, trivial⟩ trivial) ⟨(), rfl⟩
 ·refine AW.seq ?_
  refine AW.rgs rfl fun K hK => ?_
  refine mv rfl rfl ?_
  refine bv rfl (v_lenF rfl rfl ty31 rfl) ?_
  refine mv rfl rfl ?_
  refine bv rfl (v_lenF rfl rfl ty31 rfl) ?_
  refine bv rfl (v_bin rfl rfl b_lss) ?_
  refine b_fin hK (s' := ⟨[(35, HV.bool (decide (((p0).length : Int) < ((p1).length : Int))))], []⟩) (le_q rfl rfl) ?_
  clear hK K
  refine AW.cond rfl (fun hc => ?_) (fun hc => ?_)
  ·have hc := of_decide_eq_true hc
   have h := ifT hc h
   refine AW.rgs rfl fun K hK => ?_
   refine mv rfl rfl ?_
   refine b_fin hK (s' := ⟨[(4, HV.int .i64 (-1))], []⟩) (le_q rfl rfl) ?_
   clear hK K
   refine AW.ret ?_
   have h := Option.some.inj h
   subst h
   exact ret_pure (hs := [HV.int .i64 (-1)]) (q := HV.int .i64 (-1)) (.inr rfl) (resT rfl rfl) rfl trivial
  have hc := of_decide_eq_false hc
  have h := ifF hc h
  refine AW.skip ?_
  refine AW.rgs rfl fun K hK => ?_
  refine mv rfl rfl ?_
  refine b_fin hK (s' := ⟨[(4, HV.int .i64 0)], []⟩) (le_q rfl rfl) ?_
  clear hK K
  refine AW.ret ?_
  have h := Option.some.inj h
  subst h
  exact ret_pure (hs := [HV.int .i64 0]) (q := HV.int .i64 0) (.inr rfl) (resT rfl rfl) rfl trivial
 refine AW.rgs rfl fun K hK => ?_
 refine bv rfl (v_bin rfl rfl b_lss) ?_
 refine b_fin hK (s' := ⟨[(0, slE eInt p0), (1, slE eInt p1), (9, slE eInt p0), (10, HV.int .i64 ((p0).length : Int)), (11, HV.int .i64 a1), (12, HV.bool (decide (a1 < ((p0).length : Int))))], []⟩) (le_q rfl rfl) ?_
 clear hK K
 refine AW.cseq rfl (fun hc => ?_) (fun hc => ?_)
 ·have hc := of_decide_eq_true hc
  have h := ifT hc h
  refine AW.skip ?_
  refine AW.seq (AW.block ?_)
  refine AW.rgs rfl fun K hK => ?_
  refine mv rfl rfl ?_
  obtain ⟨x5, h6, h⟩ := bS h
  refine bv rfl (v_idxF ty31 es31 rfl rfl (idx_lt h6)) ?_
  refine bv rfl (v_loadF ty3 rfl (l_cell eInt h6 (o := 0) rfl rfl)) ?_
  refine mv rfl rfl ?_
  refine mv rfl rfl ?_
  refine b_fin hK (s' := ⟨[(0, slE eInt p0), (1, slE eInt p1), (5, HV.int .i64 a1), (6, HV.int .i64 x5), (9, slE eInt p0), (10, HV.int .i64 ((p0).length : Int)), (11, HV.int .i64 a1)], []⟩) (le_q rfl rfl) ?_
  clear hK K
  refine AW.seq ?_
  refine AW.rgs rfl fun K hK => ?_
  refine mv rfl rfl ?_
  refine mv rfl rfl ?_
  refine bv rfl (v_lenF rfl rfl ty31 rfl) ?_
  refine bv rfl (v_bin rfl rfl b_geq) ?_
  refine b_fin hK (s' := ⟨[(0, slE eInt p0), (1, slE eInt p1), (5, HV.int .i64 a1), (6, HV.int .i64 x5), (9, slE eInt p0), (10, HV.int .i64 ((p0).length : Int)), (11, HV.int .i64 a1), (19, HV.bool (decide (((p1).length : Int) ≤ a1)))], []⟩) (le_q rfl rfl) ?_
  clear hK K
  refine AW.cond rfl (fun hc => ?_) (fun hc => ?_)
  ·have hc := of_decide_eq_true hc
   have h := ifT hc h
   refine AW.rgs rfl fun K hK => ?_
   refine mv rfl rfl ?_
   refine b_fin hK (s' := ⟨[(4, HV.int .i64 1)], []⟩) (le_q rfl rfl) ?_
   clear hK K
   have h := hr4 _ h
   refine AW.ret ?_
   have h := Option.some.inj h
   subst h
   exact ret_pure (hs := [HV.int .i64 1]) (q := HV.int .i64 1) (.inr rfl) (resT rfl rfl) rfl trivial
  have hc := of_decide_eq_false hc
  have h := ifF hc h
  refine AW.skip ?_
  refine AW.rgs rfl fun K hK => ?_
  refine mv rfl rfl ?_
  refine mv rfl rfl ?_
  obtain ⟨x7, h8, h⟩ := bS h
  refine bv rfl (v_idxF ty31 es31 rfl rfl (idx_lt h8)) ?_
  refine bv rfl (v_loadF ty3 rfl (l_cell eInt h8 (o := 0) rfl rfl)) ?_
  refine mv rfl rfl ?_
  refine b_fin hK (s' := ⟨[(0, slE eInt p0), (1, slE eInt p1), (6, HV.int .i64 x5), (7, HV.int .i64 x7), (9, slE eInt p0), (10, HV.int .i64 ((p0).length : Int)), (11, HV.int .i64 a1)], []⟩) (le_q rfl rfl) ?_
  clear hK K
  refine AW.rgs rfl fun K hK => ?_
  refine mv rfl rfl ?_
  refine mv rfl rfl ?_
  obtain ⟨x9, h10, h⟩ := bS h
  refine b_op rfl (o_call rfl rfl rfl rfl (ACallD.pure0 (w_cmp_Compare_int h10)) ?_)
  refine mv rfl rfl ?_
  refine b_fin hK (s' := ⟨[(0, slE eInt p0), (1, slE eInt p1), (8, HV.int .i64 x9), (9, slE eInt p0), (10, HV.int .i64 ((p0).length : Int)), (11, HV.int .i64 a1)], []⟩) (le_q rfl rfl) ?_
  clear hK K
  refine AW.rgs rfl fun K hK => ?_
  refine mv rfl rfl ?_
  refine bv rfl (v_bin rfl rfl b_neq) ?_
  refine b_fin hK (s' := ⟨[(0, slE eInt p0), (1, slE eInt p1), (8, HV.int .i64 x9), (9, slE eInt p0), (10, HV.int .i64 ((p0).length : Int)), (11, HV.int .i64 a1), (28, HV.bool (decide (x9 ≠ 0)))], []⟩) (le_q rfl rfl) ?_
  clear hK K
  refine AW.cond rfl (fun hc => ?_) (fun hc => ?_)
  ·have hc := of_decide_eq_true hc
   have h := ifT hc h
   refine AW.rgs rfl fun K hK => ?_
   refine mv rfl rfl ?_
   refine mv rfl rfl ?_
   refine b_fin hK (s' := ⟨[(4, HV.int .i64 x9)], []⟩) (le_q rfl rfl) ?_
   clear hK K
   have h := hr4 _ h
   refine AW.ret ?_
   have h := Option.some.inj h
   subst h
   exact ret_pure (hs := [HV.int .i64 x9]) (q := HV.int .i64 x9) (.inr rfl) (resT rfl rfl) rfl trivial
  have hc := of_decide_eq_false hc
  have h := ifF hc h
  refine AW.skip ?_
  refine AW.rg rfl fun K hK => ?_
  refine bv rfl (v_bin rfl rfl b_add) ?_
  refine mv rfl rfl ?_
  refine b_nil (hK _ ?_)
  clear hK K
  exact to_le (s' := ⟨[(0, slE eInt p0), (1, slE eInt p1), (9, slE eInt p0), (10, HV.int .i64 ((p0).length : Int)), (11, HV.int .i64 (IntKind.wrap .i64 (a1 + 1)))], []⟩) (AS.le_of ⟨rfl, rfl, rfl, rfl, rfl, trivial⟩ trivial) ⟨IntKind.wrap .i64 (a1 + 1), (), h, rfl⟩
 have hc := of_decide_eq_false hc
 have h := ifF hc h
 refine AW.exit ?_
 exact to_le (s' := ⟨[(0, slE eInt p0), (1, slE eInt p1)], []⟩) (AS.le_of ⟨rfl, rfl, trivial⟩ trivial) ⟨(), (), h, rfl⟩

set_option maxHeartbeats 1600000 in
set_option maxRecDepth 100000 in
theorem w_graph_by_api_Edge_1 {p0 : TFromLabelTo} {p1 : TFromLabelTo} {r : Int} (h : m_graph_by_api_Edge_1 p0 p1 = some r) : Pure Tryz.prog 179 [HV.agg [HV.int .i64 p0.1, HV.int .i64 p0.2.1, HV.int .i64 p0.2.2], HV.agg [HV.int .i64 p1.1, HV.int .i64 p1.2.1, HV.int .i64 p1.2.2], HV.fptr [HV.fn (.func 134) [] []] 0] (· = HV.int .i64 r) := by
 unfold m_graph_by_api_Edge_1 at h
 refine Pure.of_body Tryz.func179 rfl rfl (Nat.le_of_ble_eq_true rfl) fun hf => ?_
 unfold Tryz.f179
 dsimp only [enumS, Nat.reduceAdd]
 refine AW.rgs rfl fun K hK => ?_
 refine b_op rfl (o_box rfl rfl rfl ?_)
 refine b_op rfl (o_box rfl rfl rfl ?_)
 refine mv rfl rfl ?_
 refine b_fin hK (s' := ⟨[(2, HV.fptr [HV.fn (.func 134) [] []] 0), (3, HV.fptr [HV.int .i64 p0.1, HV.int .i64 p0.2.1, HV.int .i64 p0.2.2] 0), (4, HV.fptr [HV.int .i64 p1.1, HV.int .i64 p1.2.1, HV.int .i64 p1.2.2] 0)], []⟩) (le_q rfl rfl) ?_
 clear hK K
 refine AW.dgs 8 follows rfl rfl fun K hK => ?_
 refine sv rfl (v_loadF ty149 rfl (l_lit rfl rfl)) ?_
 refine sv rfl (v_loadF ty128 rfl (l_litA rfl (Nat.le_of_ble_eq_true rfl) rfl)) ?_
 obtain ⟨x1, h2, h⟩ := bS h
 refine s_op rfl rfl (ops_call rfl rfl rfl rfl (ACallD.pure0 (w_graph_list h2)) ?_)
 refine sv rfl (v_loadF ty149 rfl (l_lit rfl rfl)) ?_
 refine sv rfl (v_loadF ty128 rfl (l_litA rfl (Nat.le_of_ble_eq_true rfl) rfl)) ?_
 obtain ⟨x3, h4, h⟩ := bS h
 refine s_op rfl rfl (ops_call rfl rfl rfl rfl (ACallD.pure0 (w_graph_list h4)) ?_)
 obtain ⟨x5, h6, h⟩ := bS h
 refine s_op rfl rfl (ops_call rfl rfl rfl rfl (ACallD.pure0 (w_slices_Compare_Lint_int h6)) ?_)
 refine sm rfl rfl ?_
 refine s_nil ?_
 refine b_fin hK (s' := ⟨[(5, HV.int .i64 x5)], []⟩) (le_q rfl rfl) ?_
 clear hK K
 refine AW.ret ?_
 have h := Option.some.inj h
 subst h
 exact ret_pure (hs := [HV.int .i64 x5]) (q := HV.int .i64 x5) (.inr rfl) (resT rfl rfl) rfl trivial

set_option maxHeartbeats 1600000 in
set_option maxRecDepth 100000 in
theorem w_graph_by_api_Edge  : Pure Tryz.prog 133 [HV.fn (.func 134) [] []] (· = HV.fn (.func 179) [] [HV.fptr [HV.fn (.func 134) [] []] 0]) := by
 refine Pure.of_body Tryz.func133 rfl rfl (Nat.le_of_ble_eq_true rfl) fun hf => ?_
 unfold Tryz.f133
 dsimp only [enumS, Nat.reduceAdd]
 refine AW.rgs rfl fun K hK => ?_
 refine b_op rfl (o_box rfl rfl rfl ?_)
 refine mv rfl rfl ?_
 refine b_fin hK (s' := ⟨[(1, HV.fptr [HV.fn (.func 134) [] []] 0)], []⟩) (le_q rfl rfl) ?_
 clear hK K
 refine AW.rgs rfl fun K hK => ?_
 refine bv rfl (v_func rfl rfl) ?_
 refine mv rfl rfl ?_
 refine b_fin hK (s' := ⟨[(2, HV.fn (.func 179) [] [HV.fptr [HV.fn (.func 134) [] []] 0])], []⟩) (le_q rfl rfl) ?_
 clear hK K
 refine AW.ret ?_
 exact ret_pure (hs := [HV.fn (.func 179) [] [HV.fptr [HV.fn (.func 134) [] []] 0]]) (q := HV.fn (.func 179) [] [HV.fptr [HV.fn (.func 134) [] []] 0]) (.inr rfl) (resT rfl rfl) rfl ⟨trivial, ⟨⟨⟨trivial, trivial⟩, trivial⟩, trivial⟩⟩

end Go.AW

namespace Go.AW
open Go Go.Proofs
set_option linter.unusedVariables false
set_option maxHeartbeats 1600000 in
set_option maxRecDepth 100000 in
theorem w_graph_Check {p0 : TLabelsStatesEdges} {r : Int} (h : m_graph_Check p0 = some r) : Pure Tryz.prog 83 [HV.agg [HV.int .i64 p0.1, HV.int .i64 p0.2.1, slE eFromLabelTo p0.2.2]] (· = HV.int .i64 r) := by
 unfold m_graph_Check at h
 refine Pure.of_body Tryz.func83 rfl rfl (Nat.le_of_ble_eq_true rfl) fun hf => ?_
 unfold Tryz.f83
 dsimp only [enumS, Nat.reduceAdd]
 refine AW.rgs rfl fun K hK => ?_
 refine b_op rfl (o_box rfl rfl rfl ?_)
 refine mv rfl rfl ?_
 refine b_fin hK (s' := ⟨[(1, HV.fptr [HV.int .i64 p0.1, HV.int .i64 p0.2.1, slE eFromLabelTo p0.2.2] 0)], []⟩) (le_q rfl rfl) ?_
 clear hK K
 refine AW.seq (AW.block ?_)
 refine AW.seqJ h (S := Bool) (V := Unit) (fun a v => ⟨[(1, HV.fptr [HV.int .i64 p0.1, HV.int .i64 p0.2.1, slE eFromLabelTo p0.2.2] 0), (6, HV.bool a)], []⟩) (fun a1 w2 h => ?_) (fun k3 h => ?_)
 ·refine AW.cond rfl (fun hc => ?_) (fun hc => ?_)
  ·have h := ifT hc h
   refine AW.rgs rfl fun K hK => ?_
   refine mv rfl rfl ?_
   refine b_fin hK (s' := ⟨[(2, HV.int .i64 12)], []⟩) (le_q rfl rfl) ?_
   clear hK K
   refine AW.ret ?_
   have h := Option.some.inj h
   subst h
   exact ret_pure (hs := [HV.int .i64 12]) (q := HV.int .i64 12) (.inr rfl) (resT rfl rfl) rfl trivial
  have h := ifF (bF' hc) h
  refine AW.rgs rfl fun K hK => ?_
  refine bv rfl (v_fieldAddrF fo27_1 rfl) ?_
  refine bv rfl (v_loadF ty3 rfl (l_lit rfl rfl)) ?_
  refine bv rfl (v_bin rfl rfl b_lss) ?_
  refine mv rfl rfl ?_
  refine b_fin hK (s' := ⟨[(1, HV.fptr [HV.int .i64 p0.1, HV.int .i64 p0.2.1, slE eFromLabelTo p0.2.2] 0), (15, HV.bool (decide (p0.2.1 < 0)))], []⟩) (le_q rfl rfl) ?_
  clear hK K
  refine AW.cond rfl (fun hc => ?_) (fun hc => ?_)
  ·have hc := of_decide_eq_true hc
   have h := ifT hc h
   refine AW.rgs rfl fun K hK => ?_
   refine mv rfl rfl ?_
   refine b_fin hK (s' := ⟨[(2, HV.int .i64 2)], []⟩) (le_q rfl rfl) ?_
   clear hK K
   refine AW.ret ?_
   have h := Option.some.inj h
   subst h
   exact ret_pure (hs := [HV.int .i64 2]) (q := HV.int .i64 2) (.inr rfl) (resT rfl rfl) rfl trivial
  have hc := of_decide_eq_false hc
  have h := ifF hc h
  refine AW.seqJ h (S := Bool) (V := Unit) (fun a v => ⟨[(1, HV.fptr [HV.int .i64 p0.1, HV.int .i64 p0.2.1, slE eFromLabelTo p0.2.2] 0), (19, HV.bool a)], []⟩) (fun a4 w5 h => ?_) (fun k6 h => ?_)
  ·refine AW.cond rfl (fun hc => ?_) (fun hc => ?_)
   ·have h := ifT hc h
    refine AW.rgs rfl fun K hK => ?_
    refine mv rfl rfl ?_
    refine b_fin hK (s' := ⟨[(2, HV.int .i64 4)], []⟩) (le_q rfl rfl) ?_
    clear hK K
    refine AW.ret ?_
    have h := Option.some.inj h
    subst h
    exact ret_pure (hs := [HV.int .i64 4]) (q := HV.int .i64 4) (.inr rfl) (resT rfl rfl) rfl trivial
   have h := ifF (bF' hc) h
   refine AW.skip ?_
   refine AW.rgs rfl fun K hK => ?_
   refine b_op rfl (o_call rfl rfl rfl rfl (ACallD.pure0 (w_graph_by_api_Edge )) ?_)
   refine mv rfl rfl ?_
   refine b_fin hK (s' := ⟨[(1, HV.fptr [HV.int .i64 p0.1, HV.int .i64 p0.2.1, slE eFromLabelTo p0.2.2] 0), (3, HV.fn (.func 179) [] [HV.fptr [HV.fn (.func 134) [] []] 0])], []⟩) (le_q rfl rfl) ?_
   clear hK K
   refine AW.seq ?_
   refine AW.rgs rfl fun K hK => ?_
   refine bv rfl (v_fieldAddrF fo27_2 rfl) ?_
   refine bv rfl (v_loadF ty25 rfl (l_lit rfl rfl)) ?_
   refine bv rfl (v_lenF rfl rfl ty25 rfl) ?_
   refine mv rfl rfl ?_
   refine b_fin hK (s' := ⟨[(1, HV.fptr [HV.int .i64 p0.1, HV.int .i64 p0.2.1, slE eFromLabelTo p0.2.2] 0), (3, HV.fn (.func 179) [] [HV.fptr [HV.fn (.func 134) [] []] 0]), (31, slE eFromLabelTo p0.2.2), (32, HV.int .i64 ((p0.2.2).length : Int)), (33, HV.int .i64 0)], []⟩) (le_q rfl rfl) ?_
   clear hK K
   refine AW.lpR h (by first | exact up_then | exact up_to) (S := Int) (V := Unit) (fun a v => ⟨[(1, HV.fptr [HV.int .i64 p0.1, HV.int .i64 p0.2.1, slE eFromLabelTo p0.2.2] 0), (3, HV.fn (.func 179) [] [HV.fptr [HV.fn (.func 134) [] []] 0]), (31, slE eFromLabelTo p0.2.2), (32, HV.int .i64 ((p0.2.2).length : Int)), (33, HV.int .i64 a)], []⟩) ?_ (X := Unit) (W := Unit) (fun a v => ⟨[], []⟩) (fun a27 w28 h => ?_) (fun a7 w8 st9 h hr10=> ?_)
   ·exact to_le (s' := ⟨[(1, HV.fptr [HV.int .i64 p0.1, HV.int .i64 p0.2.1, slE eFromLabelTo p0.2.2] 0), (3, HV.fn (.func 179) [] [HV.fptr [HV.fn (.func 134) [] []] 0]), (31, slE eFromLabelTo p0.2.2), (32, HV.int .i64 ((p0.2.2).length : Int)), (33, HV.int .i64 0)], []⟩) (AS.le_of ⟨rfl, rfl, rfl, rfl, rfl, trivial⟩ trivial) ⟨(), rfl⟩
   ·refine AW.rgs rfl fun K hK => ?_
    refine mv rfl rfl ?_
    refine b_fin hK (s' := ⟨[(2, HV.int .i64 0)], []⟩) (le_q rfl rfl) ?_
    clear hK K
    refine AW.ret ?_
    have h := Option.some.inj h
    subst h
    exact ret_pure (hs := [HV.int .i64 0]) (q := HV.int .i64 0) (.inr rfl) (resT rfl rfl) rfl trivial
   refine AW.rgs rfl fun K hK => ?_
   refine bv rfl (v_bin rfl rfl b_lss) ?_
   refine b_fin hK (s' := ⟨[(1, HV.fptr [HV.int .i64 p0.1, HV.int .i64 p0.2.1, slE eFromLabelTo p0.2.2] 0), (3, HV.fn (.func 179) [] [HV.fptr [HV.fn (.func 134) [] []] 0]), (31, slE eFromLabelTo p0.2.2), (32, HV.int .i64 ((p0.2.2).length : Int)), (33, HV.int .i64 a7), (34, HV.bool (decide (a7 < ((p0.2.2).length : Int))))], []⟩) (le_q rfl rfl) ?_
   clear hK K
   refine AW.cseq rfl (fun hc => ?_) (fun hc => ?_)
   ·have hc := of_decide_eq_true hc
    have h := ifT hc h
    refine AW.skip ?_
    refine AW.seq (AW.block ?_)
    refine AW.rgs rfl fun K hK => ?_
    refine mv rfl rfl ?_
    obtain ⟨x11, h12, h⟩ := bS h
    refine bv rfl (v_idxF ty25 es25 rfl rfl (idx_lt h12)) ?_
    refine bv rfl (v_loadF ty128 rfl (l_agg eFromLabelTo h12 rfl rfl)) ?_
    refine b_op rfl (o_alloc (fid := 83) (zs := [HV.int .i64 0, HV.int .i64 0, HV.int .i64 0]) 83005 rfl rfl ty128 rfl (fun v13 => ?_))
    refine mv rfl rfl ?_
    refine b_op rfl (o_store (cs := [HV.int .i64 x11.1, HV.int .i64 x11.2.1, HV.int .i64 x11.2.2]) (zs := [HV.int .i64 x11.1, HV.int .i64 x11.2.1, HV.int .i64 x11.2.2]) rfl rfl rfl ty128 rfl rfl rfl rfl rfl ?_)
    refine b_fin hK (s' := ⟨[(1, HV.fptr [HV.int .i64 p0.1, HV.int .i64 p0.2.1, slE eFromLabelTo p0.2.2] 0), (3, HV.fn (.func 179) [] [HV.fptr [HV.fn (.func 134) [] []] 0]), (4, HV.int .i64 a7), (5, HV.ptr 83005 v13 0), (31, slE eFromLabelTo p0.2.2), (32, HV.int .i64 ((p0.2.2).length : Int)), (33, HV.int .i64 a7)], [(83005, v13, .arr 3 128 [HV.int .i64 x11.1, HV.int .i64 x11.2.1, HV.int .i64 x11.2.2])]⟩) (le_q rfl rfl) ?_
    clear hK K
    refine AW.seq ?_
    refine AW.seqJ h (S := Bool) (V := Unit) (fun a v => ⟨[(1, HV.fptr [HV.int .i64 p0.1, HV.int .i64 p0.2.1, slE eFromLabelTo p0.2.2] 0), (3, HV.fn (.func 179) [] [HV.fptr [HV.fn (.func 134) [] []] 0]), (4, HV.int .i64 a7), (5, HV.ptr 83005 v13 0), (31, slE eFromLabelTo p0.2.2), (32, HV.int .i64 ((p0.2.2).length : Int)), (33, HV.int .i64 a7), (62, HV.bool a)], [(83005, v13, .arr 3 128 [HV.int .i64 x11.1, HV.int .i64 x11.2.1, HV.int .i64 x11.2.2])]⟩) (fun a14 w15 h => ?_) (fun k16 h => ?_)
    ·refine AW.cond rfl (fun hc => ?_) (fun hc => ?_)
     ·have h := ifT hc h
      refine AW.rgs rfl fun K hK => ?_
      refine mv rfl rfl ?_
      refine b_fin hK (s' := ⟨[(2, HV.int .i64 2)], []⟩) (le_q rfl rfl) ?_
      clear hK K
      have h := hr10 _ h
      refine AW.ret ?_
      have h := Option.some.inj h
      subst h
      exact ret_pure (hs := [HV.int .i64 2]) (q := HV.int .i64 2) (.inr rfl) (resT rfl rfl) rfl trivial
     have h := ifF (bF' hc) h
     refine AW.skip ?_
     refine AW.seqJ h (S := Bool) (V := Unit) (fun a v => ⟨[(1, HV.fptr [HV.int .i64 p0.1, HV.int .i64 p0.2.1, slE eFromLabelTo p0.2.2] 0), (3, HV.fn (.func 179) [] [HV.fptr [HV.fn (.func 134) [] []] 0]), (31, slE eFromLabelTo p0.2.2), (32, HV.int .i64 ((p0.2.2).length : Int)), (33, HV.int .i64 a7), (76, HV.bool a)], []⟩) (fun a17 w18 h => ?_) (fun k19 h => ?_)
     ·refine AW.cond rfl (fun hc => ?_) (fun hc => ?_)
      ·have h := ifT hc h
       refine AW.rgs rfl fun K hK => ?_
       refine mv rfl rfl ?_
       refine b_fin hK (s' := ⟨[(2, HV.int .i64 10)], []⟩) (le_q rfl rfl) ?_
       clear hK K
       have h := hr10 _ h
       refine AW.ret ?_
       have h := Option.some.inj h
       subst h
       exact ret_pure (hs := [HV.int .i64 10]) (q := HV.int .i64 10) (.inr rfl) (resT rfl rfl) rfl trivial
      have h := ifF (bF' hc) h
      refine AW.skip ?_
      refine AW.rg rfl fun K hK => ?_
      refine bv rfl (v_bin rfl rfl b_add) ?_
      refine mv rfl rfl ?_
      refine b_nil (hK _ ?_)
      clear hK K
      exact to_le (s' := ⟨[(1, HV.fptr [HV.int .i64 p0.1, HV.int .i64 p0.2.1, slE eFromLabelTo p0.2.2] 0), (3, HV.fn (.func 179) [] [HV.fptr [HV.fn (.func 134) [] []] 0]), (31, slE eFromLabelTo p0.2.2), (32, HV.int .i64 ((p0.2.2).length : Int)), (33, HV.int .i64 (IntKind.wrap .i64 (a7 + 1)))], []⟩) (AS.le_of ⟨rfl, rfl, rfl, rfl, rfl, trivial⟩ trivial) ⟨IntKind.wrap .i64 (a7 + 1), (), h, rfl⟩
     refine AW.dg 14 follows rfl rfl fun K hK => ?_
     refine sm rfl rfl ?_
     refine sv rfl (v_bin rfl rfl b_gtr) ?_
     refine sm rfl rfl ?_
     by_cases hg24 : 0 < a7
     ·have h := ifT hg24 h
      refine s_T rfl rfl rfl rfl rfl (decide_eq_true hg24) (ops_val rfl (mv_val rfl rfl).2 ?_)
      refine s_T rfl rfl rfl rfl rfl rfl (ops_val rfl (v_fieldAddrF fo27_2 rfl) ?_)
      refine s_T rfl rfl rfl rfl rfl rfl (ops_val rfl (v_loadF ty25 rfl (l_lit rfl rfl)) ?_)
      refine s_T rfl rfl rfl rfl rfl rfl (ops_val rfl (mv_val rfl rfl).2 ?_)
      refine s_T rfl rfl rfl rfl rfl rfl (ops_val rfl (v_bin rfl rfl b_sub) ?_)
      obtain ⟨x20, h21, h⟩ := bS h
      refine s_T rfl rfl rfl rfl rfl rfl (ops_val rfl (v_idxF ty25 es25 rfl rfl (idx_lt h21)) ?_)
      refine s_T rfl rfl rfl rfl rfl rfl (ops_val rfl (v_loadF ty128 rfl (l_agg eFromLabelTo h21 rfl rfl)) ?_)
      refine s_T rfl rfl rfl rfl rfl rfl (ops_val rfl (v_loadP ty128 rfl rfl (l_litA rfl (Nat.le_of_ble_eq_true rfl) rfl)) ?_)
      obtain ⟨x22, h23, h⟩ := bS h
      refine s_T rfl rfl rfl rfl rfl rfl (ops_call rfl rfl rfl rfl (ACallD.pure0 (w_graph_by_api_Edge_1 h23)) ?_)
      refine s_T rfl rfl rfl rfl rfl rfl (ops_val rfl (v_bin rfl rfl b_geq) ?_)
      refine sv rfl (v_pickT rfl rfl rfl) ?_
      refine s_nil ?_
      refine b_nil (hK _ ?_)
      clear hK K
      exact to_le (s' := ⟨[(1, HV.fptr [HV.int .i64 p0.1, HV.int .i64 p0.2.1, slE eFromLabelTo p0.2.2] 0), (3, HV.fn (.func 179) [] [HV.fptr [HV.fn (.func 134) [] []] 0]), (31, slE eFromLabelTo p0.2.2), (32, HV.int .i64 ((p0.2.2).length : Int)), (33, HV.int .i64 a7), (76, HV.bool (decide (0 ≤ x22)))], []⟩) (AS.le_of ⟨rfl, rfl, rfl, rfl, rfl, rfl, trivial⟩ trivial) ⟨decide (0 ≤ x22), (), h, rfl⟩
     have h := ifF hg24 h
     refine s_F rfl rfl rfl rfl rfl (decide_eq_false hg24) ?_
     refine s_F rfl rfl rfl rfl rfl rfl ?_
     refine s_F rfl rfl rfl rfl rfl rfl ?_
     refine s_F rfl rfl rfl rfl rfl rfl ?_
     refine s_F rfl rfl rfl rfl rfl rfl ?_
     refine s_F rfl rfl rfl rfl rfl rfl ?_
     refine s_F rfl rfl rfl rfl rfl rfl ?_
     refine s_F rfl rfl rfl rfl rfl rfl ?_
     refine s_F rfl rfl rfl rfl rfl rfl ?_
     refine s_F rfl rfl rfl rfl rfl rfl ?_
     refine sv rfl (v_pickF rfl rfl rfl) ?_
     refine s_nil ?_
     refine b_nil (hK _ ?_)
     clear hK K
     exact to_le (s' := ⟨[(1, HV.fptr [HV.int .i64 p0.1, HV.int .i64 p0.2.1, slE eFromLabelTo p0.2.2] 0), (3, HV.fn (.func 179) [] [HV.fptr [HV.fn (.func 134) [] []] 0]), (31, slE eFromLabelTo p0.2.2), (32, HV.int .i64 ((p0.2.2).length : Int)), (33, HV.int .i64 a7), (76, HV.bool false)], []⟩) (AS.le_of ⟨rfl, rfl, rfl, rfl, rfl, rfl, trivial⟩ trivial) ⟨false, (), h, rfl⟩
    refine AW.rg rfl fun K hK => ?_
    refine bv rfl (v_fieldAddrP fo128_0 rfl rfl) ?_
    refine bv rfl (v_loadP ty3 rfl rfl (l_lit rfl rfl)) ?_
    refine bv rfl (v_fieldAddrP fo128_1 rfl rfl) ?_
    refine bv rfl (v_loadP ty3 rfl rfl (l_lit rfl rfl)) ?_
    refine bv rfl (v_fieldAddrP fo128_2 rfl rfl) ?_
    refine bv rfl (v_loadP ty3 rfl rfl (l_lit rfl rfl)) ?_
    refine bv rfl (v_min3 rfl rfl rfl rfl) ?_
    refine bv rfl (v_bin rfl rfl b_lss) ?_
    refine mv rfl rfl ?_
    by_cases hg26 : (min (min x11.1 x11.2.1) x11.2.2) < 0
    ·have h := ifT hg26 h
     refine b_F rfl rfl rfl rfl rfl (decide_eq_true hg26) ?_
     refine b_F rfl rfl rfl rfl rfl rfl ?_
     refine b_F rfl rfl rfl rfl rfl rfl ?_
     refine b_F rfl rfl rfl rfl rfl rfl ?_
     refine b_F rfl rfl rfl rfl rfl rfl ?_
     refine b_F rfl rfl rfl rfl rfl rfl ?_
     refine b_F rfl rfl rfl rfl rfl rfl ?_
     refine b_F rfl rfl rfl rfl rfl rfl ?_
     refine bv rfl (v_pickT rfl rfl rfl) ?_
     refine mv rfl rfl ?_
     refine b_F rfl rfl rfl rfl rfl rfl ?_
     refine b_F rfl rfl rfl rfl rfl rfl ?_
     refine b_F rfl rfl rfl rfl rfl rfl ?_
     refine b_F rfl rfl rfl rfl rfl rfl ?_
     refine b_F rfl rfl rfl rfl rfl rfl ?_
     refine bv rfl (v_pickT rfl rfl rfl) ?_
     refine b_nil (hK _ ?_)
     clear hK K
     exact to_le (s' := ⟨[(1, HV.fptr [HV.int .i64 p0.1, HV.int .i64 p0.2.1, slE eFromLabelTo p0.2.2] 0), (3, HV.fn (.func 179) [] [HV.fptr [HV.fn (.func 134) [] []] 0]), (4, HV.int .i64 a7), (5, HV.ptr 83005 v13 0), (31, slE eFromLabelTo p0.2.2), (32, HV.int .i64 ((p0.2.2).length : Int)), (33, HV.int .i64 a7), (62, HV.bool true)], [(83005, v13, .arr 3 128 [HV.int .i64 x11.1, HV.int .i64 x11.2.1, HV.int .i64 x11.2.2])]⟩) (AS.le_of ⟨rfl, rfl, rfl, rfl, rfl, rfl, rfl, rfl, trivial⟩ ⟨rfl, trivial⟩) ⟨true, (), h, rfl⟩
    have h := ifF hg26 h
    refine b_T rfl rfl rfl rfl (decide_eq_false hg26) (o_val rfl (v_fieldAddrP fo128_0 rfl rfl) ?_)
    refine b_T rfl rfl rfl rfl rfl (o_val rfl (v_loadP ty3 rfl rfl (l_lit rfl rfl)) ?_)
    refine b_T rfl rfl rfl rfl rfl (o_val rfl (v_fieldAddrP fo128_2 rfl rfl) ?_)
    refine b_T rfl rfl rfl rfl rfl (o_val rfl (v_loadP ty3 rfl rfl (l_lit rfl rfl)) ?_)
    refine b_T rfl rfl rfl rfl rfl (o_val rfl (v_max rfl rfl rfl) ?_)
    refine b_T rfl rfl rfl rfl rfl (o_val rfl (v_fieldAddrF fo27_1 rfl) ?_)
    refine b_T rfl rfl rfl rfl rfl (o_val rfl (v_loadF ty3 rfl (l_lit rfl rfl)) ?_)
    refine b_T rfl rfl rfl rfl rfl (o_val rfl (v_bin rfl rfl b_geq) ?_)
    refine bv rfl (v_pickF rfl rfl rfl) ?_
    refine mv rfl rfl ?_
    by_cases hg25 : p0.2.1 ≤ (max x11.1 x11.2.2)
    ·have h := ifT hg25 h
     refine b_F rfl rfl rfl rfl rfl (decide_eq_true hg25) ?_
     refine b_F rfl rfl rfl rfl rfl rfl ?_
     refine b_F rfl rfl rfl rfl rfl rfl ?_
     refine b_F rfl rfl rfl rfl rfl rfl ?_
     refine b_F rfl rfl rfl rfl rfl rfl ?_
     refine bv rfl (v_pickT rfl rfl rfl) ?_
     refine b_nil (hK _ ?_)
     clear hK K
     exact to_le (s' := ⟨[(1, HV.fptr [HV.int .i64 p0.1, HV.int .i64 p0.2.1, slE eFromLabelTo p0.2.2] 0), (3, HV.fn (.func 179) [] [HV.fptr [HV.fn (.func 134) [] []] 0]), (4, HV.int .i64 a7), (5, HV.ptr 83005 v13 0), (31, slE eFromLabelTo p0.2.2), (32, HV.int .i64 ((p0.2.2).length : Int)), (33, HV.int .i64 a7), (62, HV.bool true)], [(83005, v13, .arr 3 128 [HV.int .i64 x11.1, HV.int .i64 x11.2.1, HV.int .i64 x11.2.2])]⟩) (AS.le_of ⟨rfl, rfl, rfl, rfl, rfl, rfl, rfl, rfl, trivial⟩ ⟨rfl, trivial⟩) ⟨true, (), h, rfl⟩
    have h := ifF hg25 h
    refine b_T rfl rfl rfl rfl (decide_eq_false hg25) (o_val rfl (v_fieldAddrP fo128_1 rfl rfl) ?_)
    refine b_T rfl rfl rfl rfl rfl (o_val rfl (v_loadP ty3 rfl rfl (l_lit rfl rfl)) ?_)
    refine b_T rfl rfl rfl rfl rfl (o_val rfl (v_fieldAddrF fo27_0 rfl) ?_)
    refine b_T rfl rfl rfl rfl rfl (o_val rfl (v_loadF ty3 rfl (l_lit rfl rfl)) ?_)
    refine b_T rfl rfl rfl rfl rfl (o_val rfl (v_bin rfl rfl b_geq) ?_)
    refine bv rfl (v_pickF rfl rfl rfl) ?_
    refine b_nil (hK _ ?_)
    clear hK K
    exact to_le (s' := ⟨[(1, HV.fptr [HV.int .i64 p0.1, HV.int .i64 p0.2.1, slE eFromLabelTo p0.2.2] 0), (3, HV.fn (.func 179) [] [HV.fptr [HV.fn (.func 134) [] []] 0]), (4, HV.int .i64 a7), (5, HV.ptr 83005 v13 0), (31, slE eFromLabelTo p0.2.2), (32, HV.int .i64 ((p0.2.2).length : Int)), (33, HV.int .i64 a7), (62, HV.bool (decide (p0.1 ≤ x11.2.1)))], [(83005, v13, .arr 3 128 [HV.int .i64 x11.1, HV.int .i64 x11.2.1, HV.int .i64 x11.2.2])]⟩) (AS.le_of ⟨rfl, rfl, rfl, rfl, rfl, rfl, rfl, rfl, trivial⟩ ⟨rfl, trivial⟩) ⟨decide (p0.1 ≤ x11.2.1), (), h, rfl⟩
   have hc := of_decide_eq_false hc
   have h := ifF hc h
   refine AW.exit ?_
   exact to_le (s' := ⟨[], []⟩) (AS.le_of trivial trivial) ⟨(), (), h, rfl⟩
  refine AW.rg rfl fun K hK => ?_
  refine bv rfl (v_fieldAddrF fo27_1 rfl) ?_
  refine bv rfl (v_loadF ty3 rfl (l_lit rfl rfl)) ?_
  refine bv rfl (v_bin rfl rfl b_gtr) ?_
  refine mv rfl rfl ?_
  by_cases hg29 : 64 < p0.2.1
  ·have h := ifT hg29 h
   refine b_F rfl rfl rfl rfl rfl (decide_eq_true hg29) ?_
   refine b_F rfl rfl rfl rfl rfl rfl ?_
   refine b_F rfl rfl rfl rfl rfl rfl ?_
   refine b_F rfl rfl rfl rfl rfl rfl ?_
   refine bv rfl (v_pickT rfl rfl rfl) ?_
   refine mv rfl rfl ?_
   refine b_nil (hK _ ?_)
   clear hK K
   exact to_le (s' := ⟨[(1, HV.fptr [HV.int .i64 p0.1, HV.int .i64 p0.2.1, slE eFromLabelTo p0.2.2] 0), (19, HV.bool true)], []⟩) (AS.le_of ⟨rfl, rfl, trivial⟩ trivial) ⟨true, (), h, rfl⟩
  have h := ifF hg29 h
  refine b_T rfl rfl rfl rfl (decide_eq_false hg29) (o_val rfl (v_fieldAddrF fo27_2 rfl) ?_)
  refine b_T rfl rfl rfl rfl rfl (o_val rfl (v_loadF ty25 rfl (l_lit rfl rfl)) ?_)
  refine b_T rfl rfl rfl rfl rfl (o_val rfl (v_lenF rfl rfl ty25 rfl) ?_)
  refine b_T rfl rfl rfl rfl rfl (o_val rfl (v_bin rfl rfl b_gtr) ?_)
  refine bv rfl (v_pickF rfl rfl rfl) ?_
  refine mv rfl rfl ?_
  refine b_nil (hK _ ?_)
  clear hK K
  exact to_le (s' := ⟨[(1, HV.fptr [HV.int .i64 p0.1, HV.int .i64 p0.2.1, slE eFromLabelTo p0.2.2] 0), (19, HV.bool (decide (1024 < ((p0.2.2).length : Int))))], []⟩) (AS.le_of ⟨rfl, rfl, trivial⟩ trivial) ⟨decide (1024 < ((p0.2.2).length : Int)), (), h, rfl⟩
 refine AW.rg rfl fun K hK => ?_
 refine bv rfl (v_fieldAddrF fo27_0 rfl) ?_
 refine bv rfl (v_loadF ty3 rfl (l_lit rfl rfl)) ?_
 refine bv rfl (v_bin rfl rfl b_lss) ?_
 refine mv rfl rfl ?_
 by_cases hg30 : p0.1 < 1
 ·have h := ifT hg30 h
  refine b_F rfl rfl rfl rfl rfl (decide_eq_true hg30) ?_
  refine b_F rfl rfl rfl rfl rfl rfl ?_
  refine b_F rfl rfl rfl rfl rfl rfl ?_
  refine bv rfl (v_pickT rfl rfl rfl) ?_
  refine mv rfl rfl ?_
  refine b_nil (hK _ ?_)
  clear hK K
  exact to_le (s' := ⟨[(1, HV.fptr [HV.int .i64 p0.1, HV.int .i64 p0.2.1, slE eFromLabelTo p0.2.2] 0), (6, HV.bool true)], []⟩) (AS.le_of ⟨rfl, rfl, trivial⟩ trivial) ⟨true, (), h, rfl⟩
 have h := ifF hg30 h
 refine b_T rfl rfl rfl rfl (decide_eq_false hg30) (o_val rfl (v_fieldAddrF fo27_0 rfl) ?_)
 refine b_T rfl rfl rfl rfl rfl (o_val rfl (v_loadF ty3 rfl (l_lit rfl rfl)) ?_)
 refine b_T rfl rfl rfl rfl rfl (o_val rfl (v_bin rfl rfl b_gtr) ?_)
 refine bv rfl (v_pickF rfl rfl rfl) ?_
 refine mv rfl rfl ?_
 refine b_nil (hK _ ?_)
 clear hK K
 exact to_le (s' := ⟨[(1, HV.fptr [HV.int .i64 p0.1, HV.int .i64 p0.2.1, slE eFromLabelTo p0.2.2] 0), (6, HV.bool (decide (256 < p0.1)))], []⟩) (AS.le_of ⟨rfl, rfl, trivial⟩ trivial) ⟨decide (256 < p0.1), (), h, rfl⟩

set_option maxHeartbeats 1600000 in
set_option maxRecDepth 100000 in
theorem w_word_known {p0 : Int} {r : Bool} (h : m_word_known p0 = some r) : Pure Tryz.prog 140 [HV.int .i64 p0] (· = HV.bool r) := by
 unfold m_word_known at h
 refine Pure.of_body Tryz.func140 rfl rfl (Nat.le_of_ble_eq_true rfl) fun hf => ?_
 unfold Tryz.f140
 dsimp only [enumS, Nat.reduceAdd]
 refine AW.rgs rfl fun K hK => ?_
 refine mv rfl rfl ?_
 refine b_fin hK (s' := ⟨[(0, HV.int .i64 p0)], []⟩) (le_q rfl rfl) ?_
 clear hK K
 refine AW.seqJ h (S := Bool) (V := Unit) (fun a v => ⟨[(2, HV.bool a)], []⟩) (fun a1 w2 h => ?_) (fun k3 h => ?_)
 ·refine AW.ret ?_
  have h := Option.some.inj h
  subst h
  exact ret_pure (hs := [HV.bool a1]) (q := HV.bool a1) (.inr rfl) (resT rfl rfl) rfl trivial
 refine AW.rg rfl fun K hK => ?_
 refine mv rfl rfl ?_
 refine bv rfl (v_bin rfl rfl b_geq) ?_
 refine mv rfl rfl ?_
 by_cases hg4 : 1 ≤ p0
 ·have h := ifT hg4 h
  refine b_T rfl rfl rfl rfl (decide_eq_true hg4) (o_val rfl (mv_val rfl rfl).2 ?_)
  refine b_T rfl rfl rfl rfl rfl (o_val rfl (v_bin rfl rfl b_leq) ?_)
  refine bv rfl (v_pickT rfl rfl rfl) ?_
  refine mv rfl rfl ?_
  refine b_nil (hK _ ?_)
  clear hK K
  exact to_le (s' := ⟨[(2, HV.bool (decide (p0 ≤ 16)))], []⟩) (AS.le_of ⟨rfl, trivial⟩ trivial) ⟨decide (p0 ≤ 16), (), h, rfl⟩
 have h := ifF hg4 h
 refine b_F rfl rfl rfl rfl rfl (decide_eq_false hg4) ?_
 refine b_F rfl rfl rfl rfl rfl rfl ?_
 refine bv rfl (v_pickF rfl rfl rfl) ?_
 refine mv rfl rfl ?_
 refine b_nil (hK _ ?_)
 clear hK K
 exact to_le (s' := ⟨[(2, HV.bool false)], []⟩) (AS.le_of ⟨rfl, trivial⟩ trivial) ⟨false, (), h, rfl⟩

set_option maxHeartbeats 1600000 in
set_option maxRecDepth 100000 in
theorem w_word_Check {p0 : Int} {p1 : List UInt8} {r : Int} (h : m_word_Check p0 p1 = some r) : Pure Tryz.prog 92 [HV.int .i64 p0, HV.str p1] (· = HV.int .i64 r) := by
 unfold m_word_Check at h
 refine Pure.of_body Tryz.func92 rfl rfl (Nat.le_of_ble_eq_true rfl) fun hf => ?_
 unfold Tryz.f92
 dsimp only [enumS, Nat.reduceAdd]
 refine AW.rgs rfl fun K hK => ?_
 refine mv rfl rfl ?_
 refine b_fin hK (s' := ⟨[(0, HV.int .i64 p0), (1, HV.str p1)], []⟩) (le_q rfl rfl) ?_
 clear hK K
 refine AW.seq (AW.block ?_)
 refine AW.rgs rfl fun K hK => ?_
 refine mv rfl rfl ?_
 obtain ⟨x1, h2, h⟩ := bS h
 refine b_op rfl (o_call rfl rfl rfl rfl (ACallD.pure0 (w_word_known h2)) ?_)
 refine bv rfl (v_not rfl) ?_
 refine mv rfl rfl ?_
 refine b_fin hK (s' := ⟨[(0, HV.int .i64 p0), (1, HV.str p1), (6, HV.bool (!x1))], []⟩) (le_q rfl rfl) ?_
 clear hK K
 refine AW.cond rfl (fun hc => ?_) (fun hc => ?_)
 ·have h := ifT hc h
  refine AW.rgs rfl fun K hK => ?_
  refine mv rfl rfl ?_
  refine b_fin hK (s' := ⟨[(4, HV.int .i64 12)], []⟩) (le_q rfl rfl) ?_
  clear hK K
  refine AW.ret ?_
  have h := Option.some.inj h
  subst h
  exact ret_pure (hs := [HV.int .i64 12]) (q := HV.int .i64 12) (.inr rfl) (resT rfl rfl) rfl trivial
 have h := ifF (bF' hc) h
 refine AW.rgs rfl fun K hK => ?_
 refine mv rfl rfl ?_
 refine bv rfl (v_lenS rfl rfl ty9 rfl) ?_
 refine bv rfl (v_bin rfl rfl b_gtr) ?_
 refine mv rfl rfl ?_
 refine b_fin hK (s' := ⟨[(0, HV.int .i64 p0), (1, HV.str p1), (10, HV.bool (decide (65536 < ((p1).length : Int))))], []⟩) (le_q rfl rfl) ?_
 clear hK K
 refine AW.cond rfl (fun hc => ?_) (fun hc => ?_)
 ·have hc := of_decide_eq_true hc
  have h := ifT hc h
  refine AW.rgs rfl fun K hK => ?_
  refine mv rfl rfl ?_
  refine b_fin hK (s' := ⟨[(4, HV.int .i64 4)], []⟩) (le_q rfl rfl) ?_
  clear hK K
  refine AW.ret ?_
  have h := Option.some.inj h
  subst h
  exact ret_pure (hs := [HV.int .i64 4]) (q := HV.int .i64 4) (.inr rfl) (resT rfl rfl) rfl trivial
 have hc := of_decide_eq_false hc
 have h := ifF hc h
 refine AW.skip ?_
 refine AW.seq ?_
 refine AW.rgs rfl fun K hK => ?_
 refine mv rfl rfl ?_
 refine bv rfl (v_lenS rfl rfl ty9 rfl) ?_
 refine mv rfl rfl ?_
 refine b_fin hK (s' := ⟨[(0, HV.int .i64 p0), (1, HV.str p1), (15, HV.int .i64 ((p1).length : Int)), (16, HV.int .i64 0)], []⟩) (le_q rfl rfl) ?_
 clear hK K
 refine AW.lpR h (by first | exact up_then | exact up_to) (S := Int) (V := Unit) (fun a v => ⟨[(0, HV.int .i64 p0), (1, HV.str p1), (15, HV.int .i64 ((p1).length : Int)), (16, HV.int .i64 a)], []⟩) ?_ (X := Unit) (W := Unit) (fun a v => ⟨[], []⟩) (fun a12 w13 h => ?_) (fun a3 w4 st5 h hr6=> ?_)
 ·exact to_le (s' := ⟨[(0, HV.int .i64 p0), (1, HV.str p1), (15, HV.int .i64 ((p1).length : Int)), (16, HV.int .i64 0)], []⟩) (AS.le_of ⟨rfl, rfl, rfl, rfl, trivial⟩ trivial) ⟨(), rfl⟩
 ·refine AW.rgs rfl fun K hK => ?_
  refine mv rfl rfl ?_
  refine b_fin hK (s' := ⟨[(4, HV.int .i64 0)], []⟩) (le_q rfl rfl) ?_
  clear hK K
  refine AW.ret ?_
  have h := Option.some.inj h
  subst h
  exact ret_pure (hs := [HV.int .i64 0]) (q := HV.int .i64 0) (.inr rfl) (resT rfl rfl) rfl trivial
 refine AW.rgs rfl fun K hK => ?_
 refine bv rfl (v_bin rfl rfl b_lss) ?_
 refine b_fin hK (s' := ⟨[(0, HV.int .i64 p0), (1, HV.str p1), (15, HV.int .i64 ((p1).length : Int)), (16, HV.int .i64 a3), (17, HV.bool (decide (a3 < ((p1).length : Int))))], []⟩) (le_q rfl rfl) ?_
 clear hK K
 refine AW.cseq rfl (fun hc => ?_) (fun hc => ?_)
 ·have hc := of_decide_eq_true hc
  have h := ifT hc h
  refine AW.skip ?_
  refine AW.seq (AW.block ?_)
  refine AW.rgs rfl fun K hK => ?_
  refine mv rfl rfl ?_
  refine mv rfl rfl ?_
  refine b_fin hK (s' := ⟨[(0, HV.int .i64 p0), (1, HV.str p1), (5, HV.int .i64 a3), (15, HV.int .i64 ((p1).length : Int)), (16, HV.int .i64 a3)], []⟩) (le_q rfl rfl) ?_
  clear hK K
  refine AW.dgs 7 follows rfl rfl fun K hK => ?_
  refine sm rfl rfl ?_
  obtain ⟨h7, h⟩ := ifN h
  refine sv rfl (v_sliceS ty9 rfl rfl rfl h7) ?_
  refine sm rfl rfl ?_
  refine sm rfl rfl ?_
  obtain ⟨x8, h9, h⟩ := bS h
  refine sv rfl (v_idxS ty9 rfl rfl h9) ?_
  obtain ⟨x10, h11, h⟩ := bS h
  refine s_op rfl rfl (ops_call rfl rfl rfl rfl (ACallD.pure0 (w_strings_IndexByte h11)) ?_)
  refine sv rfl (v_bin rfl rfl b_lss) ?_
  refine s_nil ?_
  refine b_fin hK (s' := ⟨[(0, HV.int .i64 p0), (1, HV.str p1), (15, HV.int .i64 ((p1).length : Int)), (16, HV.int .i64 a3), (25, HV.bool (decide (x10 < 0)))], []⟩) (le_q rfl rfl) ?_
  clear hK K
  refine AW.cond rfl (fun hc => ?_) (fun hc => ?_)
  ·have hc := of_decide_eq_true hc
   have h := ifT hc h
   refine AW.rgs rfl fun K hK => ?_
   refine mv rfl rfl ?_
   refine b_fin hK (s' := ⟨[(4, HV.int .i64 13)], []⟩) (le_q rfl rfl) ?_
   clear hK K
   have h := hr6 _ h
   refine AW.ret ?_
   have h := Option.some.inj h
   subst h
   exact ret_pure (hs := [HV.int .i64 13]) (q := HV.int .i64 13) (.inr rfl) (resT rfl rfl) rfl trivial
  have hc := of_decide_eq_false hc
  have h := ifF hc h
  refine AW.skip ?_
  refine AW.rg rfl fun K hK => ?_
  refine bv rfl (v_bin rfl rfl b_add) ?_
  refine mv rfl rfl ?_
  refine b_nil (hK _ ?_)
  clear hK K
  exact to_le (s' := ⟨[(0, HV.int .i64 p0), (1, HV.str p1), (15, HV.int .i64 ((p1).length : Int)), (16, HV.int .i64 (IntKind.wrap .i64 (a3 + 1)))], []⟩) (AS.le_of ⟨rfl, rfl, rfl, rfl, trivial⟩ trivial) ⟨IntKind.wrap .i64 (a3 + 1), (), h, rfl⟩
 have hc := of_decide_eq_false hc
 have h := ifF hc h
 refine AW.exit ?_
 exact to_le (s' := ⟨[], []⟩) (AS.le_of trivial trivial) ⟨(), (), h, rfl⟩

set_option maxHeartbeats 1600000 in
set_option maxRecDepth 100000 in
theorem w_language_check {p0 : TLabelsStatesEdges} {r : Int} (h : m_language_check p0 = some r) : Pure Tryz.prog 110 [HV.agg [HV.int .i64 p0.1, HV.int .i64 p0.2.1, slE eFromLabelTo p0.2.2]] (· = HV.int .i64 r) := by
 unfold m_language_check at h
 refine Pure.of_body Tryz.func110 rfl rfl (Nat.le_of_ble_eq_true rfl) fun hf => ?_
 unfold Tryz.f110
 dsimp only [enumS, Nat.reduceAdd]
 refine AW.rgs rfl fun K hK => ?_
 refine b_op rfl (o_box rfl rfl rfl ?_)
 refine mv rfl rfl ?_
 refine b_fin hK (s' := ⟨[(1, HV.fptr [HV.int .i64 p0.1, HV.int .i64 p0.2.1, slE eFromLabelTo p0.2.2] 0)], []⟩) (le_q rfl rfl) ?_
 clear hK K
 refine AW.seq (AW.block ?_)
 refine AW.rgs rfl fun K hK => ?_
 refine bv rfl (v_loadF ty27 rfl (l_litA rfl (Nat.le_of_ble_eq_true rfl) rfl)) ?_
 obtain ⟨x1, h2, h⟩ := bS h
 refine b_op rfl (o_call rfl rfl rfl rfl (ACallD.pure0 (w_graph_Check h2)) ?_)
 refine bv rfl (v_bin rfl rfl b_neq) ?_
 refine mv rfl rfl ?_
 refine b_fin hK (s' := ⟨[(1, HV.fptr [HV.int .i64 p0.1, HV.int .i64 p0.2.1, slE eFromLabelTo p0.2.2] 0), (3, HV.bool (decide (x1 ≠ 0)))], []⟩) (le_q rfl rfl) ?_
 clear hK K
 refine AW.cond rfl (fun hc => ?_) (fun hc => ?_)
 ·have hc := of_decide_eq_true hc
  have h := ifT hc h
  refine AW.rgs rfl fun K hK => ?_
  refine mv rfl rfl ?_
  refine b_fin hK (s' := ⟨[(2, HV.int .i64 1)], []⟩) (le_q rfl rfl) ?_
  clear hK K
  refine AW.ret ?_
  have h := Option.some.inj h
  subst h
  exact ret_pure (hs := [HV.int .i64 1]) (q := HV.int .i64 1) (.inr rfl) (resT rfl rfl) rfl trivial
 have hc := of_decide_eq_false hc
 have h := ifF hc h
 refine AW.rgs rfl fun K hK => ?_
 refine bv rfl (v_fieldAddrF fo27_0 rfl) ?_
 refine bv rfl (v_loadF ty3 rfl (l_lit rfl rfl)) ?_
 refine bv rfl (v_bin rfl rfl b_gtr) ?_
 refine mv rfl rfl ?_
 refine b_fin hK (s' := ⟨[(7, HV.bool (decide (16 < p0.1)))], []⟩) (le_q rfl rfl) ?_
 clear hK K
 refine AW.cond rfl (fun hc => ?_) (fun hc => ?_)
 ·have hc := of_decide_eq_true hc
  have h := ifT hc h
  refine AW.rgs rfl fun K hK => ?_
  refine mv rfl rfl ?_
  refine b_fin hK (s' := ⟨[(2, HV.int .i64 12)], []⟩) (le_q rfl rfl) ?_
  clear hK K
  refine AW.ret ?_
  have h := Option.some.inj h
  subst h
  exact ret_pure (hs := [HV.int .i64 12]) (q := HV.int .i64 12) (.inr rfl) (resT rfl rfl) rfl trivial
 have hc := of_decide_eq_false hc
 have h := ifF hc h
 refine AW.skip ?_
 refine AW.rgs rfl fun K hK => ?_
 refine mv rfl rfl ?_
 refine b_fin hK (s' := ⟨[(2, HV.int .i64 0)], []⟩) (le_q rfl rfl) ?_
 clear hK K
 refine AW.ret ?_
 have h := Option.some.inj h
 subst h
 exact ret_pure (hs := [HV.int .i64 0]) (q := HV.int .i64 0) (.inr rfl) (resT rfl rfl) rfl trivial

set_option maxHeartbeats 1600000 in
set_option maxRecDepth 100000 in
theorem w_language_spells {p0 : TLabelsStatesEdges} {p1 : List UInt8} {r : Int} (h : m_language_spells p0 p1 = some r) : Pure Tryz.prog 60 [HV.agg [HV.int .i64 p0.1, HV.int .i64 p0.2.1, slE eFromLabelTo p0.2.2], HV.str p1] (· = HV.int .i64 r) := by
 unfold m_language_spells at h
 refine Pure.of_body Tryz.func60 rfl rfl (Nat.le_of_ble_eq_true rfl) fun hf => ?_
 unfold Tryz.f60
 dsimp only [enumS, Nat.reduceAdd]
 refine AW.rgs rfl fun K hK => ?_
 refine b_op rfl (o_box rfl rfl rfl ?_)
 refine mv rfl rfl ?_
 refine b_fin hK (s' := ⟨[(1, HV.str p1), (2, HV.fptr [HV.int .i64 p0.1, HV.int .i64 p0.2.1, slE eFromLabelTo p0.2.2] 0)], []⟩) (le_q rfl rfl) ?_
 clear hK K
 refine AW.seq ?_
 refine AW.rgs rfl fun K hK => ?_
 refine bv rfl (v_loadF ty27 rfl (l_litA rfl (Nat.le_of_ble_eq_true rfl) rfl)) ?_
 obtain ⟨x1, h2, h⟩ := bS h
 refine b_op rfl (o_call rfl rfl rfl rfl (ACallD.pure0 (w_language_check h2)) ?_)
 refine mv rfl rfl ?_
 refine b_fin hK (s' := ⟨[(1, HV.str p1), (2, HV.fptr [HV.int .i64 p0.1, HV.int .i64 p0.2.1, slE eFromLabelTo p0.2.2] 0), (5, HV.int .i64 x1)], []⟩) (le_q rfl rfl) ?_
 clear hK K
 refine AW.rgs rfl fun K hK => ?_
 refine mv rfl rfl ?_
 refine bv rfl (v_bin rfl rfl b_neq) ?_
 refine b_fin hK (s' := ⟨[(1, HV.str p1), (2, HV.fptr [HV.int .i64 p0.1, HV.int .i64 p0.2.1, slE eFromLabelTo p0.2.2] 0), (5, HV.int .i64 x1), (9, HV.bool (decide (x1 ≠ 0)))], []⟩) (le_q rfl rfl) ?_
 clear hK K
 refine AW.cond rfl (fun hc => ?_) (fun hc => ?_)
 ·have hc := of_decide_eq_true hc
  have h := ifT hc h
  refine AW.rgs rfl fun K hK => ?_
  refine mv rfl rfl ?_
  refine mv rfl rfl ?_
  refine b_fin hK (s' := ⟨[(4, HV.int .i64 x1)], []⟩) (le_q rfl rfl) ?_
  clear hK K
  refine AW.ret ?_
  have h := Option.some.inj h
  subst h
  exact ret_pure (hs := [HV.int .i64 x1]) (q := HV.int .i64 x1) (.inr rfl) (resT rfl rfl) rfl trivial
 have hc := of_decide_eq_false hc
 have h := ifF hc h
 refine AW.skip ?_
 refine AW.rgs rfl fun K hK => ?_
 refine bv rfl (v_fieldAddrF fo27_0 rfl) ?_
 refine bv rfl (v_loadF ty3 rfl (l_lit rfl rfl)) ?_
 refine mv rfl rfl ?_
 obtain ⟨x3, h4, h⟩ := bS h
 refine b_op rfl (o_call rfl rfl rfl rfl (ACallD.pure0 (w_word_Check h4)) ?_)
 refine mv rfl rfl ?_
 refine b_fin hK (s' := ⟨[(4, HV.int .i64 x3)], []⟩) (le_q rfl rfl) ?_
 clear hK K
 refine AW.ret ?_
 have h := Option.some.inj h
 subst h
 exact ret_pure (hs := [HV.int .i64 x3]) (q := HV.int .i64 x3) (.inr rfl) (resT rfl rfl) rfl trivial

set_option maxHeartbeats 1600000 in
set_option maxRecDepth 100000 in
theorem w_graph_checkSet {p0 : TLabelsStatesEdges} {p1 : List (Int)} {r : Int} (h : m_graph_checkSet p0 p1 = some r) : Pure Tryz.prog 158 [HV.agg [HV.int .i64 p0.1, HV.int .i64 p0.2.1, slE eFromLabelTo p0.2.2], slE eInt p1] (· = HV.int .i64 r) := by
 unfold m_graph_checkSet at h
 refine Pure.of_body Tryz.func158 rfl rfl (Nat.le_of_ble_eq_true rfl) fun hf => ?_
 unfold Tryz.f158
 dsimp only [enumS, Nat.reduceAdd]
 refine AW.rgs rfl fun K hK => ?_
 refine b_op rfl (o_box rfl rfl rfl ?_)
 refine mv rfl rfl ?_
 refine b_fin hK (s' := ⟨[(1, slE eInt p1), (2, HV.fptr [HV.int .i64 p0.1, HV.int .i64 p0.2.1, slE eFromLabelTo p0.2.2] 0)], []⟩) (le_q rfl rfl) ?_
 clear hK K
 refine AW.seq ?_
 refine AW.rgs rfl fun K hK => ?_
 refine mv rfl rfl ?_
 refine bv rfl (v_lenF rfl rfl ty31 rfl) ?_
 refine mv rfl rfl ?_
 refine b_fin hK (s' := ⟨[(1, slE eInt p1), (2, HV.fptr [HV.int .i64 p0.1, HV.int .i64 p0.2.1, slE eFromLabelTo p0.2.2] 0), (7, slE eInt p1), (8, HV.int .i64 ((p1).length : Int)), (9, HV.int .i64 0)], []⟩) (le_q rfl rfl) ?_
 clear hK K
 refine AW.lpR h (by first | exact up_then | exact up_to) (S := Int) (V := Unit) (fun a v => ⟨[(1, slE eInt p1), (2, HV.fptr [HV.int .i64 p0.1, HV.int .i64 p0.2.1, slE eFromLabelTo p0.2.2] 0), (7, slE eInt p1), (8, HV.int .i64 ((p1).length : Int)), (9, HV.int .i64 a)], []⟩) ?_ (X := Unit) (W := Unit) (fun a v => ⟨[], []⟩) (fun a17 w18 h => ?_) (fun a1 w2 st3 h hr4=> ?_)
 ·exact to_le (s' := ⟨[(1, slE eInt p1), (2, HV.fptr [HV.int .i64 p0.1, HV.int .i64 p0.2.1, slE eFromLabelTo p0.2.2] 0), (7, slE eInt p1), (8, HV.int .i64 ((p1).length : Int)), (9, HV.int .i64 0)], []⟩) (AS.le_of ⟨rfl, rfl, rfl, rfl, rfl, trivial⟩ trivial) ⟨(), rfl⟩
 ·refine AW.rgs rfl fun K hK => ?_
  refine mv rfl rfl ?_
  refine b_fin hK (s' := ⟨[(4, HV.int .i64 0)], []⟩) (le_q rfl rfl) ?_
  clear hK K
  refine AW.ret ?_
  have h := Option.some.inj h
  subst h
  exact ret_pure (hs := [HV.int .i64 0]) (q := HV.int .i64 0) (.inr rfl) (resT rfl rfl) rfl trivial
 refine AW.rgs rfl fun K hK => ?_
 refine bv rfl (v_bin rfl rfl b_lss) ?_
 refine b_fin hK (s' := ⟨[(1, slE eInt p1), (2, HV.fptr [HV.int .i64 p0.1, HV.int .i64 p0.2.1, slE eFromLabelTo p0.2.2] 0), (7, slE eInt p1), (8, HV.int .i64 ((p1).length : Int)), (9, HV.int .i64 a1), (10, HV.bool (decide (a1 < ((p1).length : Int))))], []⟩) (le_q rfl rfl) ?_
 clear hK K
 refine AW.cseq rfl (fun hc => ?_) (fun hc => ?_)
 ·have hc := of_decide_eq_true hc
  have h := ifT hc h
  refine AW.skip ?_
  refine AW.seq (AW.block ?_)
  refine AW.rgs rfl fun K hK => ?_
  refine mv rfl rfl ?_
  obtain ⟨x5, h6, h⟩ := bS h
  refine bv rfl (v_idxF ty31 es31 rfl rfl (idx_lt h6)) ?_
  refine bv rfl (v_loadF ty3 rfl (l_cell eInt h6 (o := 0) rfl rfl)) ?_
  refine mv rfl rfl ?_
  refine mv rfl rfl ?_
  refine b_fin hK (s' := ⟨[(1, slE eInt p1), (2, HV.fptr [HV.int .i64 p0.1, HV.int .i64 p0.2.1, slE eFromLabelTo p0.2.2] 0), (5, HV.int .i64 a1), (6, HV.int .i64 x5), (7, slE eInt p1), (8, HV.int .i64 ((p1).length : Int)), (9, HV.int .i64 a1)], []⟩) (le_q rfl rfl) ?_
  clear hK K
  refine AW.seq ?_
  refine AW.seqJ h (S := Bool) (V := Unit) (fun a v => ⟨[(1, slE eInt p1), (2, HV.fptr [HV.int .i64 p0.1, HV.int .i64 p0.2.1, slE eFromLabelTo p0.2.2] 0), (5, HV.int .i64 a1), (6, HV.int .i64 x5), (7, slE eInt p1), (8, HV.int .i64 ((p1).length : Int)), (9, HV.int .i64 a1), (21, HV.bool a)], []⟩) (fun a7 w8 h => ?_) (fun k9 h => ?_)
  ·refine AW.cond rfl (fun hc => ?_) (fun hc => ?_)
   ·have h := ifT hc h
    refine AW.rgs rfl fun K hK => ?_
    refine mv rfl rfl ?_
    refine b_fin hK (s' := ⟨[(4, HV.int .i64 25)], []⟩) (le_q rfl rfl) ?_
    clear hK K
    have h := hr4 _ h
    refine AW.ret ?_
    have h := Option.some.inj h
    subst h
    exact ret_pure (hs := [HV.int .i64 25]) (q := HV.int .i64 25) (.inr rfl) (resT rfl rfl) rfl trivial
   have h := ifF (bF' hc) h
   refine AW.skip ?_
   refine AW.seqJ h (S := Bool) (V := Unit) (fun a v => ⟨[(1, slE eInt p1), (2, HV.fptr [HV.int .i64 p0.1, HV.int .i64 p0.2.1, slE eFromLabelTo p0.2.2] 0), (7, slE eInt p1), (8, HV.int .i64 ((p1).length : Int)), (9, HV.int .i64 a1), (32, HV.bool a)], []⟩) (fun a10 w11 h => ?_) (fun k12 h => ?_)
   ·refine AW.cond rfl (fun hc => ?_) (fun hc => ?_)
    ·have h := ifT hc h
     refine AW.rgs rfl fun K hK => ?_
     refine mv rfl rfl ?_
     refine b_fin hK (s' := ⟨[(4, HV.int .i64 10)], []⟩) (le_q rfl rfl) ?_
     clear hK K
     have h := hr4 _ h
     refine AW.ret ?_
     have h := Option.some.inj h
     subst h
     exact ret_pure (hs := [HV.int .i64 10]) (q := HV.int .i64 10) (.inr rfl) (resT rfl rfl) rfl trivial
    have h := ifF (bF' hc) h
    refine AW.skip ?_
    refine AW.rg rfl fun K hK => ?_
    refine bv rfl (v_bin rfl rfl b_add) ?_
    refine mv rfl rfl ?_
    refine b_nil (hK _ ?_)
    clear hK K
    exact to_le (s' := ⟨[(1, slE eInt p1), (2, HV.fptr [HV.int .i64 p0.1, HV.int .i64 p0.2.1, slE eFromLabelTo p0.2.2] 0), (7, slE eInt p1), (8, HV.int .i64 ((p1).length : Int)), (9, HV.int .i64 (IntKind.wrap .i64 (a1 + 1)))], []⟩) (AS.le_of ⟨rfl, rfl, rfl, rfl, rfl, trivial⟩ trivial) ⟨IntKind.wrap .i64 (a1 + 1), (), h, rfl⟩
   refine AW.rg rfl fun K hK => ?_
   refine mv rfl rfl ?_
   refine bv rfl (v_bin rfl rfl b_gtr) ?_
   refine mv rfl rfl ?_
   by_cases hg15 : 0 < a1
   ·have h := ifT hg15 h
    refine b_T rfl rfl rfl rfl (decide_eq_true hg15) (o_val rfl (mv_val rfl rfl).2 ?_)
    refine b_T rfl rfl rfl rfl rfl (o_val rfl (mv_val rfl rfl).2 ?_)
    refine b_T rfl rfl rfl rfl rfl (o_val rfl (mv_val rfl rfl).2 ?_)
    refine b_T rfl rfl rfl rfl rfl (o_val rfl (v_bin rfl rfl b_sub) ?_)
    obtain ⟨x13, h14, h⟩ := bS h
    refine b_T rfl rfl rfl rfl rfl (o_val rfl (v_idxF ty31 es31 rfl rfl (idx_lt h14)) ?_)
    refine b_T rfl rfl rfl rfl rfl (o_val rfl (v_loadF ty3 rfl (l_cell eInt h14 (o := 0) rfl rfl)) ?_)
    refine b_T rfl rfl rfl rfl rfl (o_val rfl (v_bin rfl rfl b_leq) ?_)
    refine bv rfl (v_pickT rfl rfl rfl) ?_
    refine b_nil (hK _ ?_)
    clear hK K
    exact to_le (s' := ⟨[(1, slE eInt p1), (2, HV.fptr [HV.int .i64 p0.1, HV.int .i64 p0.2.1, slE eFromLabelTo p0.2.2] 0), (7, slE eInt p1), (8, HV.int .i64 ((p1).length : Int)), (9, HV.int .i64 a1), (32, HV.bool (decide (x5 ≤ x13)))], []⟩) (AS.le_of ⟨rfl, rfl, rfl, rfl, rfl, rfl, trivial⟩ trivial) ⟨decide (x5 ≤ x13), (), h, rfl⟩
   have h := ifF hg15 h
   refine b_F rfl rfl rfl rfl rfl (decide_eq_false hg15) ?_
   refine b_F rfl rfl rfl rfl rfl rfl ?_
   refine b_F rfl rfl rfl rfl rfl rfl ?_
   refine b_F rfl rfl rfl rfl rfl rfl ?_
   refine b_F rfl rfl rfl rfl rfl rfl ?_
   refine b_F rfl rfl rfl rfl rfl rfl ?_
   refine b_F rfl rfl rfl rfl rfl rfl ?_
   refine bv rfl (v_pickF rfl rfl rfl) ?_
   refine b_nil (hK _ ?_)
   clear hK K
   exact to_le (s' := ⟨[(1, slE eInt p1), (2, HV.fptr [HV.int .i64 p0.1, HV.int .i64 p0.2.1, slE eFromLabelTo p0.2.2] 0), (7, slE eInt p1), (8, HV.int .i64 ((p1).length : Int)), (9, HV.int .i64 a1), (32, HV.bool false)], []⟩) (AS.le_of ⟨rfl, rfl, rfl, rfl, rfl, rfl, trivial⟩ trivial) ⟨false, (), h, rfl⟩
  refine AW.rg rfl fun K hK => ?_
  refine mv rfl rfl ?_
  refine bv rfl (v_bin rfl rfl b_lss) ?_
  refine mv rfl rfl ?_
  by_cases hg16 : x5 < 0
  ·have h := ifT hg16 h
   refine b_F rfl rfl rfl rfl rfl (decide_eq_true hg16) ?_
   refine b_F rfl rfl rfl rfl rfl rfl ?_
   refine b_F rfl rfl rfl rfl rfl rfl ?_
   refine b_F rfl rfl rfl rfl rfl rfl ?_
   refine bv rfl (v_pickT rfl rfl rfl) ?_
   refine b_nil (hK _ ?_)
   clear hK K
   exact to_le (s' := ⟨[(1, slE eInt p1), (2, HV.fptr [HV.int .i64 p0.1, HV.int .i64 p0.2.1, slE eFromLabelTo p0.2.2] 0), (5, HV.int .i64 a1), (6, HV.int .i64 x5), (7, slE eInt p1), (8, HV.int .i64 ((p1).length : Int)), (9, HV.int .i64 a1), (21, HV.bool true)], []⟩) (AS.le_of ⟨rfl, rfl, rfl, rfl, rfl, rfl, rfl, rfl, trivial⟩ trivial) ⟨true, (), h, rfl⟩
  have h := ifF hg16 h
  refine b_T rfl rfl rfl rfl (decide_eq_false hg16) (o_val rfl (mv_val rfl rfl).2 ?_)
  refine b_T rfl rfl rfl rfl rfl (o_val rfl (v_fieldAddrF fo27_1 rfl) ?_)
  refine b_T rfl rfl rfl rfl rfl (o_val rfl (v_loadF ty3 rfl (l_lit rfl rfl)) ?_)
  refine b_T rfl rfl rfl rfl rfl (o_val rfl (v_bin rfl rfl b_geq) ?_)
  refine bv rfl (v_pickF rfl rfl rfl) ?_
  refine b_nil (hK _ ?_)
  clear hK K
  exact to_le (s' := ⟨[(1, slE eInt p1), (2, HV.fptr [HV.int .i64 p0.1, HV.int .i64 p0.2.1, slE eFromLabelTo p0.2.2] 0), (5, HV.int .i64 a1), (6, HV.int .i64 x5), (7, slE eInt p1), (8, HV.int .i64 ((p1).length : Int)), (9, HV.int .i64 a1), (21, HV.bool (decide (p0.2.1 ≤ x5)))], []⟩) (AS.le_of ⟨rfl, rfl, rfl, rfl, rfl, rfl, rfl, rfl, trivial⟩ trivial) ⟨decide (p0.2.1 ≤ x5), (), h, rfl⟩
 have hc := of_decide_eq_false hc
 have h := ifF hc h
 refine AW.exit ?_
 exact to_le (s' := ⟨[], []⟩) (AS.le_of trivial trivial) ⟨(), (), h, rfl⟩

set_option maxHeartbeats 1600000 in
set_option maxRecDepth 100000 in
theorem w_graph_leaving (p0 : TLabelsStatesEdges) (p1 : Int) : Pure Tryz.prog 159 [HV.agg [HV.int .i64 p0.1, HV.int .i64 p0.2.1, slE eFromLabelTo p0.2.2], HV.int .i64 p1] (· = HV.fn (.func 194) [] [HV.fptr [HV.int .i64 p0.1, HV.int .i64 p0.2.1, slE eFromLabelTo p0.2.2] 0, HV.fptr [HV.int .i64 p1] 0]) := by
 refine Pure.of_body Tryz.func159 rfl rfl (Nat.le_of_ble_eq_true rfl) fun hf => ?_
 unfold Tryz.f159
 dsimp only [enumS, Nat.reduceAdd]
 refine AW.rgs rfl fun K hK => ?_
 refine b_op rfl (o_box rfl rfl rfl ?_)
 refine b_op rfl (o_box rfl rfl rfl ?_)
 refine mv rfl rfl ?_
 refine b_fin hK (s' := ⟨[(2, HV.fptr [HV.int .i64 p0.1, HV.int .i64 p0.2.1, slE eFromLabelTo p0.2.2] 0), (3, HV.fptr [HV.int .i64 p1] 0)], []⟩) (le_q rfl rfl) ?_
 clear hK K
 refine AW.rgs rfl fun K hK => ?_
 refine bv rfl (v_func rfl rfl) ?_
 refine mv rfl rfl ?_
 refine b_fin hK (s' := ⟨[(4, HV.fn (.func 194) [] [HV.fptr [HV.int .i64 p0.1, HV.int .i64 p0.2.1, slE eFromLabelTo p0.2.2] 0, HV.fptr [HV.int .i64 p1] 0])], []⟩) (le_q rfl rfl) ?_
 clear hK K
 refine AW.ret ?_
 exact ret_pure (hs := [HV.fn (.func 194) [] [HV.fptr [HV.int .i64 p0.1, HV.int .i64 p0.2.1, slE eFromLabelTo p0.2.2] 0, HV.fptr [HV.int .i64 p1] 0]]) (q := HV.fn (.func 194) [] [HV.fptr [HV.int .i64 p0.1, HV.int .i64 p0.2.1, slE eFromLabelTo p0.2.2] 0, HV.fptr [HV.int .i64 p1] 0]) (.inr rfl) (resT rfl rfl) rfl ⟨trivial, ⟨⟨trivial, trivial, (clean_slE fun _ _ => ⟨trivial, trivial, trivial, trivial⟩), trivial⟩, ⟨trivial, trivial⟩, trivial⟩⟩

set_option maxHeartbeats 1600000 in
set_option maxRecDepth 100000 in
theorem w_graph_Step {p0 : TLabelsStatesEdges} {p1 : List (Int)} {p2 : Int} {r : (List (Int)) × Int} (h : m_graph_Step p0 p1 p2 = some r) : Pure Tryz.prog 108 [HV.agg [HV.int .i64 p0.1, HV.int .i64 p0.2.1, slE eFromLabelTo p0.2.2], slE eInt p1, HV.int .i64 p2] (· = HV.tup [slE eInt r.1, HV.int .i64 r.2]) := by
 unfold m_graph_Step at h
 refine Pure.of_body Tryz.func108 rfl rfl (Nat.le_of_ble_eq_true rfl) fun hf => ?_
 unfold Tryz.f108
 dsimp only [enumS, Nat.reduceAdd]
 refine AW.rgs rfl fun K hK => ?_
 refine b_op rfl (o_box rfl rfl rfl ?_)
 refine b_op rfl (o_box rfl rfl rfl ?_)
 refine mv rfl rfl ?_
 refine mv rfl rfl ?_
 refine b_fin hK (s' := ⟨[(1, slE eInt p1), (3, HV.fptr [HV.int .i64 p0.1, HV.int .i64 p0.2.1, slE eFromLabelTo p0.2.2] 0), (5, HV.fptr [HV.int .i64 p2] 0)], []⟩) (le_q rfl rfl) ?_
 clear hK K
 refine AW.seq ?_
 refine AW.rgs rfl fun K hK => ?_
 refine bv rfl (v_loadF ty27 rfl (l_litA rfl (Nat.le_of_ble_eq_true rfl) rfl)) ?_
 obtain ⟨x1, h2, h⟩ := bS h
 refine b_op rfl (o_call rfl rfl rfl rfl (ACallD.pure0 (w_graph_Check h2)) ?_)
 refine bv rfl (v_bin rfl rfl b_neq) ?_
 refine b_fin hK (s' := ⟨[(1, slE eInt p1), (3, HV.fptr [HV.int .i64 p0.1, HV.int .i64 p0.2.1, slE eFromLabelTo p0.2.2] 0), (5, HV.fptr [HV.int .i64 p2] 0), (16, HV.bool (decide (x1 ≠ 0)))], []⟩) (le_q rfl rfl) ?_
 clear hK K
 refine AW.cond rfl (fun hc => ?_) (fun hc => ?_)
 ·have hc := of_decide_eq_true hc
  have h := ifT hc h
  refine AW.rgs rfl fun K hK => ?_
  refine mv rfl rfl ?_
  refine mv rfl rfl ?_
  refine b_fin hK (s' := ⟨[(6, HV.v (.slice none 0 0)), (7, HV.int .i64 1)], []⟩) (le_q rfl rfl) ?_
  clear hK K
  refine AW.to (to_weak ⟨[(6, slE eInt ([] : List Int)), (7, HV.int .i64 1)], []⟩ ⟨⟨_, rfl, .nil _⟩, ⟨_, rfl, .refl _⟩, trivial⟩ trivial ?_)
  refine AW.ret ?_
  have h := Option.some.inj h
  subst h
  exact ret_pure (hs := [slE eInt ([] : List Int), HV.int .i64 1]) (q := HV.tup [slE eInt ([] : List Int), HV.int .i64 1]) (.inr rfl) (resT rfl (resT rfl rfl)) rfl ⟨(clean_slE fun _ _ => ⟨trivial, trivial⟩), trivial, trivial⟩
 have hc := of_decide_eq_false hc
 have h := ifF hc h
 refine AW.skip ?_
 refine AW.seq ?_
 refine AW.rgs rfl fun K hK => ?_
 refine bv rfl (v_loadF ty27 rfl (l_litA rfl (Nat.le_of_ble_eq_true rfl) rfl)) ?_
 refine mv rfl rfl ?_
 obtain ⟨x3, h4, h⟩ := bS h
 refine b_op rfl (o_call rfl rfl rfl rfl (ACallD.pure0 (w_graph_checkSet h4)) ?_)
 refine mv rfl rfl ?_
 refine b_fin hK (s' := ⟨[(1, slE eInt p1), (3, HV.fptr [HV.int .i64 p0.1, HV.int .i64 p0.2.1, slE eFromLabelTo p0.2.2] 0), (5, HV.fptr [HV.int .i64 p2] 0), (8, HV.int .i64 x3)], []⟩) (le_q rfl rfl) ?_
 clear hK K
 refine AW.rgs rfl fun K hK => ?_
 refine mv rfl rfl ?_
 refine bv rfl (v_bin rfl rfl b_neq) ?_
 refine b_fin hK (s' := ⟨[(1, slE eInt p1), (3, HV.fptr [HV.int .i64 p0.1, HV.int .i64 p0.2.1, slE eFromLabelTo p0.2.2] 0), (5, HV.fptr [HV.int .i64 p2] 0), (8, HV.int .i64 x3), (21, HV.bool (decide (x3 ≠ 0)))], []⟩) (le_q rfl rfl) ?_
 clear hK K
 refine AW.cond rfl (fun hc => ?_) (fun hc => ?_)
 ·have hc := of_decide_eq_true hc
  have h := ifT hc h
  refine AW.rgs rfl fun K hK => ?_
  refine mv rfl rfl ?_
  refine mv rfl rfl ?_
  refine mv rfl rfl ?_
  refine b_fin hK (s' := ⟨[(6, HV.v (.slice none 0 0)), (7, HV.int .i64 x3)], []⟩) (le_q rfl rfl) ?_
  clear hK K
  refine AW.to (to_weak ⟨[(6, slE eInt ([] : List Int)), (7, HV.int .i64 x3)], []⟩ ⟨⟨_, rfl, .nil _⟩, ⟨_, rfl, .refl _⟩, trivial⟩ trivial ?_)
  refine AW.ret ?_
  have h := Option.some.inj h
  subst h
  exact ret_pure (hs := [slE eInt ([] : List Int), HV.int .i64 x3]) (q := HV.tup [slE eInt ([] : List Int), HV.int .i64 x3]) (.inr rfl) (resT rfl (resT rfl rfl)) rfl ⟨(clean_slE fun _ _ => ⟨trivial, trivial⟩), trivial, trivial⟩
 have hc := of_decide_eq_false hc
 have h := ifF hc h
 refine AW.skip ?_
 refine AW.seq ?_
 refine AW.seqJ h (S := Bool) (V := Unit) (fun a v => ⟨[(1, slE eInt p1), (3, HV.fptr [HV.int .i64 p0.1, HV.int .i64 p0.2.1, slE eFromLabelTo p0.2.2] 0), (5, HV.fptr [HV.int .i64 p2] 0), (30, HV.bool a)], []⟩) (fun a5 w6 h => ?_) (fun k7 h => ?_)
 ·refine AW.cond rfl (fun hc => ?_) (fun hc => ?_)
  ·have h := ifT hc h
   refine AW.rgs rfl fun K hK => ?_
   refine mv rfl rfl ?_
   refine mv rfl rfl ?_
   refine b_fin hK (s' := ⟨[(6, HV.v (.slice none 0 0)), (7, HV.int .i64 2)], []⟩) (le_q rfl rfl) ?_
   clear hK K
   refine AW.to (to_weak ⟨[(6, slE eInt ([] : List Int)), (7, HV.int .i64 2)], []⟩ ⟨⟨_, rfl, .nil _⟩, ⟨_, rfl, .refl _⟩, trivial⟩ trivial ?_)
   refine AW.ret ?_
   have h := Option.some.inj h
   subst h
   exact ret_pure (hs := [slE eInt ([] : List Int), HV.int .i64 2]) (q := HV.tup [slE eInt ([] : List Int), HV.int .i64 2]) (.inr rfl) (resT rfl (resT rfl rfl)) rfl ⟨(clean_slE fun _ _ => ⟨trivial, trivial⟩), trivial, trivial⟩
  have h := ifF (bF' hc) h
  refine AW.skip ?_
  refine AW.rgs rfl fun K hK => ?_
  refine b_op rfl (o_alloc (fid := 108) (zs := [HV.v (.slice none 0 0)]) 108009 rfl rfl ty31 rfl (fun v8 => ?_))
  refine b_fin hK (s' := ⟨[(1, slE eInt p1), (3, HV.fptr [HV.int .i64 p0.1, HV.int .i64 p0.2.1, slE eFromLabelTo p0.2.2] 0), (5, HV.fptr [HV.int .i64 p2] 0), (9, HV.ptr 108009 v8 0)], [(108009, v8, .arr 1 31 [HV.v (.slice none 0 0)])]⟩) (le_q rfl rfl) ?_
  clear hK K
  refine AW.seq ?_
  refine AW.rgs rfl fun K hK => ?_
  refine mv rfl rfl ?_
  refine bv rfl (v_lenF rfl rfl ty31 rfl) ?_
  refine mv rfl rfl ?_
  refine b_fin hK (s' := ⟨[(3, HV.fptr [HV.int .i64 p0.1, HV.int .i64 p0.2.1, slE eFromLabelTo p0.2.2] 0), (5, HV.fptr [HV.int .i64 p2] 0), (9, HV.ptr 108009 v8 0), (31, slE eInt p1), (32, HV.int .i64 ((p1).length : Int)), (33, HV.int .i64 0)], [(108009, v8, .arr 1 31 [HV.v (.slice none 0 0)])]⟩) (le_q rfl rfl) ?_
  clear hK K
  refine AW.lpX h (by first | exact up_then | exact up_to) (S := Int × (List Int)) (V := Nat) (fun a v => ⟨[(3, HV.fptr [HV.int .i64 p0.1, HV.int .i64 p0.2.1, slE eFromLabelTo p0.2.2] 0), (5, HV.fptr [HV.int .i64 p2] 0), (9, HV.ptr 108009 v8 0), (31, slE eInt p1), (32, HV.int .i64 ((p1).length : Int)), (33, HV.int .i64 a.1)], [(108009, v8, .arr 1 31 [HV.ar 108050 v eInt.k 0 ((a.2).length)]), (108050, v, .arr eInt.k 3 (eInt.E a.2))]⟩) ?_ (X := (List Int)) (W := Nat) (fun a v => ⟨[(9, HV.ptr 108009 v8 0)], [(108009, v8, .arr 1 31 [HV.ar 108050 v eInt.k 0 ((a).length)]), (108050, v, .arr eInt.k 3 (eInt.E a))]⟩) (fun a31 w32 h => ?_) (fun a9 w10 st11 h => ?_)
  ·refine to_bind (to_ownC 108050 108009 v8 1 0 eInt.k 3 31 rfl rfl (by decide) fun v30 => ?_)
   exact to_le (s' := ⟨[(3, HV.fptr [HV.int .i64 p0.1, HV.int .i64 p0.2.1, slE eFromLabelTo p0.2.2] 0), (5, HV.fptr [HV.int .i64 p2] 0), (9, HV.ptr 108009 v8 0), (31, slE eInt p1), (32, HV.int .i64 ((p1).length : Int)), (33, HV.int .i64 0)], [(108009, v8, .arr 1 31 [HV.ar 108050 v30 eInt.k 0 ((([] : List Int)).length)]), (108050, v30, .arr eInt.k 3 (eInt.E ([] : List Int)))]⟩) (AS.le_of ⟨rfl, rfl, rfl, rfl, rfl, rfl, trivial⟩ ⟨hle rfl (by first | rfl | simp only [List.length_set, sortI_len, sortS_len]), rfl, trivial⟩) ⟨v30, rfl⟩
  ·refine AW.rgs rfl fun K hK => ?_
   refine bv rfl (v_loadP ty31 rfl rfl (l_lit rfl rfl)) ?_
   obtain ⟨h33, h⟩ := ifN h
   refine b_op rfl (o_sortI c_sortI (l := a31) rfl rfl rfl rfl h33 ?_)
   refine b_fin hK (s' := ⟨[(9, HV.ptr 108009 v8 0)], [(108009, v8, .arr 1 31 [HV.ar 108050 w32 eInt.k 0 ((sortI a31).length)]), (108050, w32, .arr eInt.k 3 (eInt.E (sortI a31)))]⟩) (AS.le_of ⟨rfl, trivial⟩ ⟨hle rfl (by first | rfl | simp only [List.length_set, sortI_len, sortS_len]), rfl, trivial⟩) ?_
   clear hK K
   refine AW.rgs rfl fun K hK => ?_
   refine bv rfl (v_loadP ty31 rfl rfl (l_lit rfl rfl)) ?_
   refine b_op rfl (o_callK (q := slE eInt (compact_ (sortI a31))) [(108009, v8, .arr 1 31 [HV.ar 108050 w32 eInt.k 0 ((sortI a31).length)])] rfl rfl rfl rfl (fun K hK => c_compactI (H' := [(108009, v8, .arr 1 31 [HV.ar 108050 w32 eInt.k 0 ((sortI a31).length)])]) (l := sortI a31) rfl rfl (leH_get ⟨rfl, trivial⟩) rfl hK) ?_)
   refine mv rfl rfl ?_
   refine mv rfl rfl ?_
   refine b_fin hK (s' := ⟨[(6, slE eInt (compact_ (sortI a31))), (7, HV.int .i64 0)], []⟩) (le_q rfl rfl) ?_
   clear hK K
   refine AW.ret ?_
   have h := Option.some.inj h
   subst h
   exact ret_pure (hs := [slE eInt (compact_ (sortI a31)), HV.int .i64 0]) (q := HV.tup [slE eInt (compact_ (sortI a31)), HV.int .i64 0]) (.inr rfl) (resT rfl (resT rfl rfl)) rfl ⟨(clean_slE fun _ _ => ⟨trivial, trivial⟩), trivial, trivial⟩
  refine AW.rgs rfl fun K hK => ?_
  refine bv rfl (v_bin rfl rfl b_lss) ?_
  refine b_fin hK (s' := ⟨[(3, HV.fptr [HV.int .i64 p0.1, HV.int .i64 p0.2.1, slE eFromLabelTo p0.2.2] 0), (5, HV.fptr [HV.int .i64 p2] 0), (9, HV.ptr 108009 v8 0), (31, slE eInt p1), (32, HV.int .i64 ((p1).length : Int)), (33, HV.int .i64 a9.1), (34, HV.bool (decide (a9.1 < ((p1).length : Int))))], [(108009, v8, .arr 1 31 [HV.ar 108050 w10 eInt.k 0 ((a9.2).length)]), (108050, w10, .arr eInt.k 3 (eInt.E a9.2))]⟩) (le_q rfl rfl) ?_
  clear hK K
  refine AW.cseq rfl (fun hc => ?_) (fun hc => ?_)
  ·have hc := of_decide_eq_true hc
   have h := ifT hc h
   refine AW.skip ?_
   refine AW.seq (AW.block ?_)
   refine AW.rgs rfl fun K hK => ?_
   obtain ⟨x13, h14, h⟩ := bS h
   refine bv rfl (v_idxF ty31 es31 rfl rfl (idx_lt h14)) ?_
   refine bv rfl (v_loadF ty3 rfl (l_cell eInt h14 (o := 0) rfl rfl)) ?_
   refine mv rfl rfl ?_
   refine b_fin hK (s' := ⟨[(3, HV.fptr [HV.int .i64 p0.1, HV.int .i64 p0.2.1, slE eFromLabelTo p0.2.2] 0), (5, HV.fptr [HV.int .i64 p2] 0), (9, HV.ptr 108009 v8 0), (11, HV.int .i64 x13), (31, slE eInt p1), (32, HV.int .i64 ((p1).length : Int)), (33, HV.int .i64 a9.1)], [(108009, v8, .arr 1 31 [HV.ar 108050 w10 eInt.k 0 ((a9.2).length)]), (108050, w10, .arr eInt.k 3 (eInt.E a9.2))]⟩) (le_q rfl rfl) ?_
   clear hK K
   refine AW.rgs rfl fun K hK => ?_
   refine bv rfl (v_loadF ty27 rfl (l_litA rfl (Nat.le_of_ble_eq_true rfl) rfl)) ?_
   refine mv rfl rfl ?_
   refine b_op rfl (o_call rfl rfl rfl rfl (ACallD.pure0 (w_graph_leaving p0 x13)) ?_)
   refine b_fin hK (s' := ⟨[(3, HV.fptr [HV.int .i64 p0.1, HV.int .i64 p0.2.1, slE eFromLabelTo p0.2.2] 0), (5, HV.fptr [HV.int .i64 p2] 0), (9, HV.ptr 108009 v8 0), (31, slE eInt p1), (32, HV.int .i64 ((p1).length : Int)), (33, HV.int .i64 a9.1), (39, HV.fn (.func 194) [] [HV.fptr [HV.int .i64 p0.1, HV.int .i64 p0.2.1, slE eFromLabelTo p0.2.2] 0, HV.fptr [HV.int .i64 x13] 0])], [(108009, v8, .arr 1 31 [HV.ar 108050 w10 eInt.k 0 ((a9.2).length)]), (108050, w10, .arr eInt.k 3 (eInt.E a9.2))]⟩) (le_q rfl rfl) ?_
   clear hK K
   refine AW.block ?_
   refine AW.to (to_le (s' := ⟨[(3, HV.fptr [HV.int .i64 p0.1, HV.int .i64 p0.2.1, slE eFromLabelTo p0.2.2] 0), (5, HV.fptr [HV.int .i64 p2] 0), (9, HV.ptr 108009 v8 0), (31, slE eInt p1), (32, HV.int .i64 ((p1).length : Int)), (33, HV.int .i64 a9.1), (39, HV.fn (.func 194) [] [HV.fptr [HV.int .i64 p0.1, HV.int .i64 p0.2.1, slE eFromLabelTo p0.2.2] 0, HV.fptr [HV.int .i64 x13] 0])], [(108009, v8, .arr 1 31 [HV.ar 108050 w10 eInt.k 0 ((a9.2).length)]), (108050, w10, .arr eInt.k 3 (eInt.E a9.2))]⟩) (le_q rfl rfl) ?_)
   obtain ⟨L15, h16, h⟩ := bS h
   refine AW.rangeY (c := .ret) 108900 (fun x => [HV.int .i64 x.1, HV.agg [HV.int .i64 x.2.1, HV.int .i64 x.2.2.1, HV.int .i64 x.2.2.2]]) h (by first | exact up_then | exact up_to) rfl (iy_graph_leaving h16) (S := (List Int)) (V := Nat) (fun a v => [(108009, v8, .arr 1 31 [HV.ar 108050 v eInt.k 0 ((a).length)]), (108050, v, .arr eInt.k 3 (eInt.E a))]) w10 (X := Unit) (W := Unit) (fun _ _ => []) (fun _ _ => rfl) (fun _ _ => rfl) rfl (fun _ => rfl) (fun a26 w27 h => ?_) (fun a28 w29 h => ?_) (fun Lo l22 v20 a17 x19 w18 st21 h => ?_)
   ·refine AW.rg rfl fun K hK => ?_
    refine bv rfl (v_bin rfl rfl b_add) ?_
    refine mv rfl rfl ?_
    refine b_nil (hK _ ?_)
    clear hK K
    exact to_le (s' := ⟨[(3, HV.fptr [HV.int .i64 p0.1, HV.int .i64 p0.2.1, slE eFromLabelTo p0.2.2] 0), (5, HV.fptr [HV.int .i64 p2] 0), (9, HV.ptr 108009 v8 0), (31, slE eInt p1), (32, HV.int .i64 ((p1).length : Int)), (33, HV.int .i64 (IntKind.wrap .i64 (a9.1 + 1)))], [(108009, v8, .arr 1 31 [HV.ar 108050 w27 eInt.k 0 ((a26).length)]), (108050, w27, .arr eInt.k 3 (eInt.E a26))]⟩) (AS.le_of ⟨rfl, rfl, rfl, rfl, rfl, rfl, trivial⟩ ⟨rfl, rfl, trivial⟩) ⟨(IntKind.wrap .i64 (a9.1 + 1), a26), w27, h, rfl⟩
   ·cases h
   refine AW.rg rfl fun K hK => ?_
   refine b_op rfl (o_alloc (fid := 108) (zs := [HV.int .i64 0, HV.int .i64 0, HV.int .i64 0]) 108013 rfl rfl ty128 rfl (fun v23 => ?_))
   refine b_op rfl (o_store (cs := [HV.int .i64 x19.2.1, HV.int .i64 x19.2.2.1, HV.int .i64 x19.2.2.2]) (zs := [HV.int .i64 x19.2.1, HV.int .i64 x19.2.2.1, HV.int .i64 x19.2.2.2]) rfl rfl rfl ty128 rfl rfl rfl rfl rfl ?_)
   refine b_nil (hK _ ?_)
   clear hK K
   refine ⟨rfl, rfl, ?_⟩
   refine AW.block ?_
   refine AW.rgs rfl fun K hK => ?_
   refine bv rfl (v_fieldAddrP fo128_1 rfl rfl) ?_
   refine bv rfl (v_loadP ty3 rfl rfl (l_lit rfl rfl)) ?_
   refine bv rfl (v_loadF ty3 rfl (l_lit rfl rfl)) ?_
   refine bv rfl (v_bin rfl rfl b_eql) ?_
   refine b_fin hK (s' := ⟨[(3, HV.fptr [HV.int .i64 p0.1, HV.int .i64 p0.2.1, slE eFromLabelTo p0.2.2] 0), (5, HV.fptr [HV.int .i64 p2] 0), (9, HV.ptr 108009 v8 0), (13, HV.ptr 108013 v23 0), (31, slE eInt p1), (32, HV.int .i64 ((p1).length : Int)), (33, HV.int .i64 a9.1), (41, HV.agg [HV.int .i64 x19.2.1, HV.int .i64 x19.2.2.1, HV.int .i64 x19.2.2.2]), (45, HV.bool (decide (x19.2.2.1 = p2)))], [(108900, v20, Lo .busy none), (108009, v8, .arr 1 31 [HV.ar 108050 w18 eInt.k 0 ((a17).length)]), (108050, w18, .arr eInt.k 3 (eInt.E a17)), (108013, v23, .arr 3 128 [HV.int .i64 x19.2.1, HV.int .i64 x19.2.2.1, HV.int .i64 x19.2.2.2])]⟩) (le_q rfl rfl) ?_
   clear hK K
   refine AW.cond rfl (fun hc => ?_) (fun hc => ?_)
   ·have hc := of_decide_eq_true hc
    have h := ifT hc h
    refine AW.rg rfl fun K hK => ?_
    refine bv rfl (v_loadP ty31 rfl rfl (l_lit rfl rfl)) ?_
    refine bv rfl (v_fieldAddrP fo128_2 rfl rfl) ?_
    refine bv rfl (v_loadP ty3 rfl rfl (l_lit rfl rfl)) ?_
    refine b_op rfl (o_bsl rfl rfl (as_of (cs := [HV.int .i64 x19.2.2.2]) ty31 ty3 rfl rfl rfl rfl rfl) ?_)
    obtain ⟨h25, h⟩ := ifN h
    refine b_op rfl (o_appE eInt (l := a17) (m := [x19.2.2.2]) rfl rfl ty31 ty31 ty3 rfl rfl rfl rfl rfl h25 (fun v24 => ?_))
    refine b_op rfl (o_store (cs := [HV.ar 108050 v24 eInt.k 0 ((a17 ++ [x19.2.2.2]).length)]) (zs := [HV.ar 108050 v24 eInt.k 0 ((a17 ++ [x19.2.2.2]).length)]) rfl rfl rfl ty31 rfl rfl rfl rfl rfl ?_)
    refine b_nil (hK _ ?_)
    clear hK K
    exact ⟨a17 ++ [x19.2.2.2], v24, h, (AS.le_of trivial ⟨rfl, rfl, rfl, trivial⟩)⟩
   have hc := of_decide_eq_false hc
   have h := ifF hc h
   refine AW.skip ?_
   exact ⟨a17, w18, h, (AS.le_of trivial ⟨rfl, rfl, rfl, trivial⟩)⟩
  have hc := of_decide_eq_false hc
  have h := ifF hc h
  refine AW.exit ?_
  exact to_le (s' := ⟨[(9, HV.ptr 108009 v8 0)], [(108009, v8, .arr 1 31 [HV.ar 108050 w10 eInt.k 0 ((a9.2).length)]), (108050, w10, .arr eInt.k 3 (eInt.E a9.2))]⟩) (AS.le_of ⟨rfl, trivial⟩ ⟨rfl, rfl, trivial⟩) ⟨a9.2, w10, h, rfl⟩
 refine AW.rg rfl fun K hK => ?_
 refine bv rfl (v_loadF ty3 rfl (l_lit rfl rfl)) ?_
 refine bv rfl (v_bin rfl rfl b_lss) ?_
 refine mv rfl rfl ?_
 by_cases hg34 : p2 < 0
 ·have h := ifT hg34 h
  refine b_F rfl rfl rfl rfl rfl (decide_eq_true hg34) ?_
  refine b_F rfl rfl rfl rfl rfl rfl ?_
  refine b_F rfl rfl rfl rfl rfl rfl ?_
  refine b_F rfl rfl rfl rfl rfl rfl ?_
  refine bv rfl (v_pickT rfl rfl rfl) ?_
  refine b_nil (hK _ ?_)
  clear hK K
  exact to_le (s' := ⟨[(1, slE eInt p1), (3, HV.fptr [HV.int .i64 p0.1, HV.int .i64 p0.2.1, slE eFromLabelTo p0.2.2] 0), (5, HV.fptr [HV.int .i64 p2] 0), (30, HV.bool true)], []⟩) (AS.le_of ⟨rfl, rfl, rfl, rfl, trivial⟩ trivial) ⟨true, (), h, rfl⟩
 have h := ifF hg34 h
 refine b_T rfl rfl rfl rfl (decide_eq_false hg34) (o_val rfl (v_loadF ty3 rfl (l_lit rfl rfl)) ?_)
 refine b_T rfl rfl rfl rfl rfl (o_val rfl (v_fieldAddrF fo27_0 rfl) ?_)
 refine b_T rfl rfl rfl rfl rfl (o_val rfl (v_loadF ty3 rfl (l_lit rfl rfl)) ?_)
 refine b_T rfl rfl rfl rfl rfl (o_val rfl (v_bin rfl rfl b_geq) ?_)
 refine bv rfl (v_pickF rfl rfl rfl) ?_
 refine b_nil (hK _ ?_)
 clear hK K
 exact to_le (s' := ⟨[(1, slE eInt p1), (3, HV.fptr [HV.int .i64 p0.1, HV.int .i64 p0.2.1, slE eFromLabelTo p0.2.2] 0), (5, HV.fptr [HV.int .i64 p2] 0), (30, HV.bool (decide (p0.1 ≤ p2)))], []⟩) (AS.le_of ⟨rfl, rfl, rfl, rfl, trivial⟩ trivial) ⟨decide (p0.1 ≤ p2), (), h, rfl⟩

end Go.AW
