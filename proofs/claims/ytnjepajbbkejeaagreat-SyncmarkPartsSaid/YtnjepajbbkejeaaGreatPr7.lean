/- SyncmarkParts: for every input the law's function returns true, and the input reads as it did. -/
import Derived.Test.YtnjepajbbkejeaaGreatPr6
import Derived.ChangeMaps5
import Derived.HandedShaped
import Derived.OpenShut
import Derived.ProofKit
import Derived.SliceStrings
import Derived.Test.YtnjepajbbkejeaaGreatRows
import Derived.WalkKit
import Derived.WideKeyArgs
namespace Go.AW
open Go Go.Proofs
set_option linter.unusedVariables false
set_option maxHeartbeats 1600000 in
set_option maxRecDepth 100000 in
theorem w_syncmark_Damaged {p0 : TLabelsStatesEdges} {p1 : List UInt8} {p2 : Int} {r : Int × Int} (h : m_syncmark_Damaged p0 p1 p2 = some r) : Pure Tryz.prog 18 [HV.agg [HV.int .i64 p0.1, HV.int .i64 p0.2.1, slE eFromLabelTo p0.2.2], HV.str p1, HV.int .i64 p2] (· = HV.tup [HV.int .i64 r.1, HV.int .i64 r.2]) := by
 unfold m_syncmark_Damaged at h
 refine Pure.of_body Tryz.func18 rfl rfl (Nat.le_of_ble_eq_true rfl) fun hf => ?_
 unfold Tryz.f18
 dsimp only [enumS, Nat.reduceAdd]
 refine AW.rgs rfl fun K hK => ?_
 refine b_op rfl (o_box rfl rfl rfl ?_)
 refine mv rfl rfl ?_
 refine mv rfl rfl ?_
 refine b_fin hK (s' := ⟨[(1, HV.str p1), (2, HV.int .i64 p2), (3, HV.fptr [HV.int .i64 p0.1, HV.int .i64 p0.2.1, slE eFromLabelTo p0.2.2] 0)], []⟩) (le_q rfl rfl) ?_
 clear hK K
 refine AW.seq ?_
 refine AW.rgs rfl fun K hK => ?_
 refine bv rfl (v_loadF ty24 rfl (l_litA rfl (Nat.le_of_ble_eq_true rfl) rfl)) ?_
 refine mv rfl rfl ?_
 obtain ⟨x1, h2, h⟩ := bS h
 refine b_op rfl (o_call rfl rfl rfl rfl (ACallD.pure0 (w_syncmark_check h2)) ?_)
 refine mv rfl rfl ?_
 refine b_fin hK (s' := ⟨[(1, HV.str p1), (2, HV.int .i64 p2), (3, HV.fptr [HV.int .i64 p0.1, HV.int .i64 p0.2.1, slE eFromLabelTo p0.2.2] 0), (8, HV.int .i64 x1)], []⟩) (le_q rfl rfl) ?_
 clear hK K
 refine AW.rgs rfl fun K hK => ?_
 refine mv rfl rfl ?_
 refine bv rfl (v_bin rfl rfl b_neq) ?_
 refine b_fin hK (s' := ⟨[(1, HV.str p1), (2, HV.int .i64 p2), (3, HV.fptr [HV.int .i64 p0.1, HV.int .i64 p0.2.1, slE eFromLabelTo p0.2.2] 0), (8, HV.int .i64 x1), (22, HV.bool (decide (x1 ≠ 0)))], []⟩) (le_q rfl rfl) ?_
 clear hK K
 refine AW.cond rfl (fun hc => ?_) (fun hc => ?_)
 ·have hc := of_decide_eq_true hc
  have h := ifT hc h
  refine AW.rgs rfl fun K hK => ?_
  refine mv rfl rfl ?_
  refine mv rfl rfl ?_
  refine mv rfl rfl ?_
  refine b_fin hK (s' := ⟨[(6, HV.int .i64 0), (7, HV.int .i64 x1)], []⟩) (le_q rfl rfl) ?_
  clear hK K
  refine AW.ret ?_
  have h := Option.some.inj h
  subst h
  exact ret_pure (hs := [HV.int .i64 0, HV.int .i64 x1]) (q := HV.tup [HV.int .i64 0, HV.int .i64 x1]) (.inr rfl) (resT rfl (resT rfl rfl)) rfl ⟨trivial, trivial, trivial⟩
 have hc := of_decide_eq_false hc
 have h := ifF hc h
 refine AW.skip ?_
 refine AW.seq ?_
 refine AW.seqJ h (S := Bool) (V := Unit) (fun a v => ⟨[(1, HV.str p1), (2, HV.int .i64 p2), (3, HV.fptr [HV.int .i64 p0.1, HV.int .i64 p0.2.1, slE eFromLabelTo p0.2.2] 0), (29, HV.bool a)], []⟩) (fun a3 w4 h => ?_) (fun k5 h => ?_)
 ·refine AW.cond rfl (fun hc => ?_) (fun hc => ?_)
  ·have h := ifT hc h
   refine AW.rgs rfl fun K hK => ?_
   refine mv rfl rfl ?_
   refine mv rfl rfl ?_
   refine b_fin hK (s' := ⟨[(6, HV.int .i64 0), (7, HV.int .i64 2)], []⟩) (le_q rfl rfl) ?_
   clear hK K
   refine AW.ret ?_
   have h := Option.some.inj h
   subst h
   exact ret_pure (hs := [HV.int .i64 0, HV.int .i64 2]) (q := HV.tup [HV.int .i64 0, HV.int .i64 2]) (.inr rfl) (resT rfl (resT rfl rfl)) rfl ⟨trivial, trivial, trivial⟩
  have h := ifF (bF' hc) h
  refine AW.skip ?_
  refine AW.rgs rfl fun K hK => ?_
  refine bv rfl (v_loadF ty24 rfl (l_litA rfl (Nat.le_of_ble_eq_true rfl) rfl)) ?_
  refine mv rfl rfl ?_
  obtain ⟨x6, h7, h⟩ := bS h
  refine b_op rfl (o_call rfl rfl rfl rfl (ACallD.pure0 (w_language_Words h7)) ?_)
  refine mv rfl rfl ?_
  refine bv rfl (v_extract rfl rfl) ?_
  refine bv rfl (v_extract rfl rfl) ?_
  refine mv rfl rfl ?_
  refine mv rfl rfl ?_
  refine b_fin hK (s' := ⟨[(1, HV.str p1), (2, HV.int .i64 p2), (9, slE eStr x6.1), (10, HV.int .i64 x6.2)], []⟩) (le_q rfl rfl) ?_
  clear hK K
  refine AW.seq ?_
  refine AW.rgs rfl fun K hK => ?_
  refine mv rfl rfl ?_
  refine bv rfl (v_bin rfl rfl b_neq) ?_
  refine b_fin hK (s' := ⟨[(1, HV.str p1), (2, HV.int .i64 p2), (9, slE eStr x6.1), (10, HV.int .i64 x6.2), (37, HV.bool (decide (x6.2 ≠ 0)))], []⟩) (le_q rfl rfl) ?_
  clear hK K
  refine AW.cond rfl (fun hc => ?_) (fun hc => ?_)
  ·have hc := of_decide_eq_true hc
   have h := ifT hc h
   refine AW.rgs rfl fun K hK => ?_
   refine mv rfl rfl ?_
   refine mv rfl rfl ?_
   refine mv rfl rfl ?_
   refine b_fin hK (s' := ⟨[(6, HV.int .i64 0), (7, HV.int .i64 x6.2)], []⟩) (le_q rfl rfl) ?_
   clear hK K
   refine AW.ret ?_
   have h := Option.some.inj h
   subst h
   exact ret_pure (hs := [HV.int .i64 0, HV.int .i64 x6.2]) (q := HV.tup [HV.int .i64 0, HV.int .i64 x6.2]) (.inr rfl) (resT rfl (resT rfl rfl)) rfl ⟨trivial, trivial, trivial⟩
  have hc := of_decide_eq_false hc
  have h := ifF hc h
  refine AW.skip ?_
  refine AW.rgs rfl fun K hK => ?_
  refine mv rfl rfl ?_
  refine b_fin hK (s' := ⟨[(1, HV.str p1), (2, HV.int .i64 p2), (9, slE eStr x6.1), (11, HV.int .i64 (-1))], []⟩) (le_q rfl rfl) ?_
  clear hK K
  refine AW.seq ?_
  refine AW.rgs rfl fun K hK => ?_
  refine mv rfl rfl ?_
  refine bv rfl (v_lenF rfl rfl ty27 rfl) ?_
  refine mv rfl rfl ?_
  refine b_fin hK (s' := ⟨[(1, HV.str p1), (2, HV.int .i64 p2), (11, HV.int .i64 (-1)), (39, slE eStr x6.1), (40, HV.int .i64 ((x6.1).length : Int)), (41, HV.int .i64 0)], []⟩) (le_q rfl rfl) ?_
  clear hK K
  refine AW.lpX h (by first | exact up_then | exact up_to) (S := Int × Int) (V := Unit) (fun a v => ⟨[(1, HV.str p1), (2, HV.int .i64 p2), (11, HV.int .i64 a.1), (39, slE eStr x6.1), (40, HV.int .i64 ((x6.1).length : Int)), (41, HV.int .i64 a.2)], []⟩) ?_ (X := Int) (W := Unit) (fun a v => ⟨[(11, HV.int .i64 a)], []⟩) (fun a42 w43 h => ?_) (fun a8 w9 st10 h => ?_)
  ·exact to_le (s' := ⟨[(1, HV.str p1), (2, HV.int .i64 p2), (11, HV.int .i64 (-1)), (39, slE eStr x6.1), (40, HV.int .i64 ((x6.1).length : Int)), (41, HV.int .i64 0)], []⟩) (AS.le_of ⟨rfl, rfl, rfl, rfl, rfl, rfl, trivial⟩ trivial) ⟨(), rfl⟩
  ·refine AW.seq ?_
   refine AW.rgs rfl fun K hK => ?_
   refine mv rfl rfl ?_
   refine bv rfl (v_bin rfl rfl b_lss) ?_
   refine b_fin hK (s' := ⟨[(11, HV.int .i64 a42), (85, HV.bool (decide (a42 < 0)))], []⟩) (le_q rfl rfl) ?_
   clear hK K
   refine AW.cond rfl (fun hc => ?_) (fun hc => ?_)
   ·have hc := of_decide_eq_true hc
    have h := ifT hc h
    refine AW.rgs rfl fun K hK => ?_
    refine mv rfl rfl ?_
    refine mv rfl rfl ?_
    refine b_fin hK (s' := ⟨[(6, HV.int .i64 0), (7, HV.int .i64 5)], []⟩) (le_q rfl rfl) ?_
    clear hK K
    refine AW.ret ?_
    have h := Option.some.inj h
    subst h
    exact ret_pure (hs := [HV.int .i64 0, HV.int .i64 5]) (q := HV.tup [HV.int .i64 0, HV.int .i64 5]) (.inr rfl) (resT rfl (resT rfl rfl)) rfl ⟨trivial, trivial, trivial⟩
   have hc := of_decide_eq_false hc
   have h := ifF hc h
   refine AW.skip ?_
   refine AW.rgs rfl fun K hK => ?_
   refine mv rfl rfl ?_
   refine mv rfl rfl ?_
   refine mv rfl rfl ?_
   refine b_fin hK (s' := ⟨[(6, HV.int .i64 a42), (7, HV.int .i64 0)], []⟩) (le_q rfl rfl) ?_
   clear hK K
   refine AW.ret ?_
   have h := Option.some.inj h
   subst h
   exact ret_pure (hs := [HV.int .i64 a42, HV.int .i64 0]) (q := HV.tup [HV.int .i64 a42, HV.int .i64 0]) (.inr rfl) (resT rfl (resT rfl rfl)) rfl ⟨trivial, trivial, trivial⟩
  refine AW.rgs rfl fun K hK => ?_
  refine bv rfl (v_bin rfl rfl b_lss) ?_
  refine b_fin hK (s' := ⟨[(1, HV.str p1), (2, HV.int .i64 p2), (11, HV.int .i64 a8.1), (39, slE eStr x6.1), (40, HV.int .i64 ((x6.1).length : Int)), (41, HV.int .i64 a8.2), (42, HV.bool (decide (a8.2 < ((x6.1).length : Int))))], []⟩) (le_q rfl rfl) ?_
  clear hK K
  refine AW.cseq rfl (fun hc => ?_) (fun hc => ?_)
  ·have hc := of_decide_eq_true hc
   have h := ifT hc h
   refine AW.skip ?_
   refine AW.seq (AW.block ?_)
   refine AW.rgs rfl fun K hK => ?_
   obtain ⟨x12, h13, h⟩ := bS h
   refine bv rfl (v_idxF ty27 es27 rfl rfl (idx_lt h13)) ?_
   refine bv rfl (v_loadF ty9 rfl (l_cell eStr h13 (o := 0) rfl rfl)) ?_
   refine mv rfl rfl ?_
   refine b_fin hK (s' := ⟨[(1, HV.str p1), (2, HV.int .i64 p2), (11, HV.int .i64 a8.1), (13, HV.str x12), (39, slE eStr x6.1), (40, HV.int .i64 ((x6.1).length : Int)), (41, HV.int .i64 a8.2)], []⟩) (le_q rfl rfl) ?_
   clear hK K
   refine AW.rgs rfl fun K hK => ?_
   refine mv rfl rfl ?_
   refine mv rfl rfl ?_
   obtain ⟨h14, h⟩ := ifN h
   refine bv rfl (v_bin rfl rfl (b_sadd h14)) ?_
   refine mv rfl rfl ?_
   obtain ⟨h15, h⟩ := ifN h
   refine bv rfl (v_bin rfl rfl (b_sadd h15)) ?_
   refine mv rfl rfl ?_
   refine b_fin hK (s' := ⟨[(1, HV.str p1), (2, HV.int .i64 p2), (11, HV.int .i64 a8.1), (14, HV.str ((p1 ++ x12) ++ p1)), (39, slE eStr x6.1), (40, HV.int .i64 ((x6.1).length : Int)), (41, HV.int .i64 a8.2)], []⟩) (le_q rfl rfl) ?_
   clear hK K
   refine AW.rgs rfl fun K hK => ?_
   refine mv rfl rfl ?_
   refine b_fin hK (s' := ⟨[(1, HV.str p1), (2, HV.int .i64 p2), (11, HV.int .i64 a8.1), (14, HV.str ((p1 ++ x12) ++ p1)), (15, HV.int .i64 1), (39, slE eStr x6.1), (40, HV.int .i64 ((x6.1).length : Int)), (41, HV.int .i64 a8.2)], []⟩) (le_q rfl rfl) ?_
   clear hK K
   refine AW.lpX h (by first | exact up_then | exact up_to) (S := Int × Int) (V := Unit) (fun a v => ⟨[(1, HV.str p1), (2, HV.int .i64 p2), (11, HV.int .i64 a.1), (14, HV.str ((p1 ++ x12) ++ p1)), (15, HV.int .i64 a.2), (39, slE eStr x6.1), (40, HV.int .i64 ((x6.1).length : Int)), (41, HV.int .i64 a8.2)], []⟩) ?_ (X := Int) (W := Unit) (fun a v => ⟨[(1, HV.str p1), (2, HV.int .i64 p2), (11, HV.int .i64 a), (39, slE eStr x6.1), (40, HV.int .i64 ((x6.1).length : Int)), (41, HV.int .i64 a8.2)], []⟩) (fun a40 w41 h => ?_) (fun a16 w17 st18 h => ?_)
   ·exact to_le (s' := ⟨[(1, HV.str p1), (2, HV.int .i64 p2), (11, HV.int .i64 a8.1), (14, HV.str ((p1 ++ x12) ++ p1)), (15, HV.int .i64 1), (39, slE eStr x6.1), (40, HV.int .i64 ((x6.1).length : Int)), (41, HV.int .i64 a8.2)], []⟩) (AS.le_of ⟨rfl, rfl, rfl, rfl, rfl, rfl, rfl, rfl, trivial⟩ trivial) ⟨(), rfl⟩
   ·refine AW.rg rfl fun K hK => ?_
    refine bv rfl (v_bin rfl rfl b_add) ?_
    refine mv rfl rfl ?_
    refine b_nil (hK _ ?_)
    clear hK K
    exact to_le (s' := ⟨[(1, HV.str p1), (2, HV.int .i64 p2), (11, HV.int .i64 a40), (39, slE eStr x6.1), (40, HV.int .i64 ((x6.1).length : Int)), (41, HV.int .i64 (IntKind.wrap .i64 (a8.2 + 1)))], []⟩) (AS.le_of ⟨rfl, rfl, rfl, rfl, rfl, rfl, trivial⟩ trivial) ⟨(a40, IntKind.wrap .i64 (a8.2 + 1)), (), h, rfl⟩
   refine AW.seq ?_
   refine AW.rgs rfl fun K hK => ?_
   refine mv rfl rfl ?_
   refine mv rfl rfl ?_
   refine mv rfl rfl ?_
   refine bv rfl (v_lenS rfl rfl ty9 rfl) ?_
   refine bv rfl (v_bin rfl rfl b_add) ?_
   refine bv rfl (v_bin rfl rfl b_lss) ?_
   refine b_fin hK (s' := ⟨[(1, HV.str p1), (2, HV.int .i64 p2), (11, HV.int .i64 a16.1), (14, HV.str ((p1 ++ x12) ++ p1)), (15, HV.int .i64 a16.2), (39, slE eStr x6.1), (40, HV.int .i64 ((x6.1).length : Int)), (41, HV.int .i64 a8.2), (55, HV.bool (decide (a16.2 < (IntKind.wrap .i64 (p2 + ((p1).length : Int))))))], []⟩) (le_q rfl rfl) ?_
   clear hK K
   refine AW.cond rfl (fun hc => ?_) (fun hc => ?_)
   ·have hc := of_decide_eq_true hc
    have h := ifT hc h
    refine AW.skip ?_
    refine AW.seqJ h (S := Int) (V := Unit) (fun a v => ⟨[(1, HV.str p1), (2, HV.int .i64 p2), (11, HV.int .i64 a), (14, HV.str ((p1 ++ x12) ++ p1)), (15, HV.int .i64 a16.2), (39, slE eStr x6.1), (40, HV.int .i64 ((x6.1).length : Int)), (41, HV.int .i64 a8.2)], []⟩) (fun a20 w21 h => ?_) (fun k22 h => ?_)
    ·refine AW.rg rfl fun K hK => ?_
     refine mv rfl rfl ?_
     refine bv rfl (v_bin rfl rfl b_add) ?_
     refine mv rfl rfl ?_
     refine b_nil (hK _ ?_)
     clear hK K
     exact to_le (s' := ⟨[(1, HV.str p1), (2, HV.int .i64 p2), (11, HV.int .i64 a20), (14, HV.str ((p1 ++ x12) ++ p1)), (15, HV.int .i64 (IntKind.wrap .i64 (a16.2 + 1))), (39, slE eStr x6.1), (40, HV.int .i64 ((x6.1).length : Int)), (41, HV.int .i64 a8.2)], []⟩) (AS.le_of ⟨rfl, rfl, rfl, rfl, rfl, rfl, rfl, rfl, trivial⟩ trivial) ⟨(a20, IntKind.wrap .i64 (a16.2 + 1)), (), h, rfl⟩
    refine AW.block ?_
    refine AW.rgs rfl fun K hK => ?_
    refine mv rfl rfl ?_
    refine b_fin hK (s' := ⟨[(1, HV.str p1), (2, HV.int .i64 p2), (11, HV.int .i64 a16.1), (14, HV.str ((p1 ++ x12) ++ p1)), (15, HV.int .i64 a16.2), (16, HV.int .i64 0), (39, slE eStr x6.1), (40, HV.int .i64 ((x6.1).length : Int)), (41, HV.int .i64 a8.2)], []⟩) (le_q rfl rfl) ?_
    clear hK K
    refine AW.seq ?_
    refine AW.rgs rfl fun K hK => ?_
    refine mv rfl rfl ?_
    refine bv rfl (v_lenS rfl rfl ty9 rfl) ?_
    refine mv rfl rfl ?_
    refine b_fin hK (s' := ⟨[(1, HV.str p1), (2, HV.int .i64 p2), (11, HV.int .i64 a16.1), (14, HV.str ((p1 ++ x12) ++ p1)), (15, HV.int .i64 a16.2), (16, HV.int .i64 0), (39, slE eStr x6.1), (40, HV.int .i64 ((x6.1).length : Int)), (41, HV.int .i64 a8.2), (59, HV.int .i64 ((p1).length : Int)), (60, HV.int .i64 0)], []⟩) (le_q rfl rfl) ?_
    clear hK K
    refine AW.lpX h (by first | exact up_then | exact up_to) (S := Int × Int) (V := Unit) (fun a v => ⟨[(1, HV.str p1), (2, HV.int .i64 p2), (11, HV.int .i64 a16.1), (14, HV.str ((p1 ++ x12) ++ p1)), (15, HV.int .i64 a16.2), (16, HV.int .i64 a.1), (39, slE eStr x6.1), (40, HV.int .i64 ((x6.1).length : Int)), (41, HV.int .i64 a8.2), (59, HV.int .i64 ((p1).length : Int)), (60, HV.int .i64 a.2)], []⟩) ?_ (X := Int) (W := Unit) (fun a v => ⟨[(1, HV.str p1), (2, HV.int .i64 p2), (11, HV.int .i64 a16.1), (14, HV.str ((p1 ++ x12) ++ p1)), (15, HV.int .i64 a16.2), (16, HV.int .i64 a), (39, slE eStr x6.1), (40, HV.int .i64 ((x6.1).length : Int)), (41, HV.int .i64 a8.2)], []⟩) (fun a34 w35 h => ?_) (fun a23 w24 st25 h => ?_)
    ·exact to_le (s' := ⟨[(1, HV.str p1), (2, HV.int .i64 p2), (11, HV.int .i64 a16.1), (14, HV.str ((p1 ++ x12) ++ p1)), (15, HV.int .i64 a16.2), (16, HV.int .i64 0), (39, slE eStr x6.1), (40, HV.int .i64 ((x6.1).length : Int)), (41, HV.int .i64 a8.2), (59, HV.int .i64 ((p1).length : Int)), (60, HV.int .i64 0)], []⟩) (AS.le_of ⟨rfl, rfl, rfl, rfl, rfl, rfl, rfl, rfl, rfl, rfl, rfl, trivial⟩ trivial) ⟨(), rfl⟩
    ·refine AW.seqJ h (S := Bool) (V := Unit) (fun a v => ⟨[(1, HV.str p1), (2, HV.int .i64 p2), (11, HV.int .i64 a16.1), (14, HV.str ((p1 ++ x12) ++ p1)), (15, HV.int .i64 a16.2), (16, HV.int .i64 a34), (39, slE eStr x6.1), (40, HV.int .i64 ((x6.1).length : Int)), (41, HV.int .i64 a8.2), (81, HV.bool a)], []⟩) (fun a36 w37 h => ?_) (fun k38 h => ?_)
     ·refine AW.cond rfl (fun hc => ?_) (fun hc => ?_)
      ·have h := ifT hc h
       refine AW.rg rfl fun K hK => ?_
       refine mv rfl rfl ?_
       refine mv rfl rfl ?_
       refine b_nil (hK _ ?_)
       clear hK K
       exact to_le (s' := ⟨[(1, HV.str p1), (2, HV.int .i64 p2), (11, HV.int .i64 a34), (14, HV.str ((p1 ++ x12) ++ p1)), (15, HV.int .i64 a16.2), (39, slE eStr x6.1), (40, HV.int .i64 ((x6.1).length : Int)), (41, HV.int .i64 a8.2)], []⟩) (AS.le_of ⟨rfl, rfl, rfl, rfl, rfl, rfl, rfl, rfl, trivial⟩ trivial) ⟨a34, (), h, rfl⟩
      have h := ifF (bF' hc) h
      refine AW.skip ?_
      exact to_le (s' := ⟨[(1, HV.str p1), (2, HV.int .i64 p2), (11, HV.int .i64 a16.1), (14, HV.str ((p1 ++ x12) ++ p1)), (15, HV.int .i64 a16.2), (39, slE eStr x6.1), (40, HV.int .i64 ((x6.1).length : Int)), (41, HV.int .i64 a8.2)], []⟩) (AS.le_of ⟨rfl, rfl, rfl, rfl, rfl, rfl, rfl, rfl, trivial⟩ trivial) ⟨a16.1, (), h, rfl⟩
     refine AW.rg rfl fun K hK => ?_
     refine mv rfl rfl ?_
     refine bv rfl (v_bin rfl rfl b_lss) ?_
     refine mv rfl rfl ?_
     by_cases hg39 : a16.1 < 0
     ·have h := ifT hg39 h
      refine b_F rfl rfl rfl rfl rfl (decide_eq_true hg39) ?_
      refine b_F rfl rfl rfl rfl rfl rfl ?_
      refine b_F rfl rfl rfl rfl rfl rfl ?_
      refine bv rfl (v_pickT rfl rfl rfl) ?_
      refine b_nil (hK _ ?_)
      clear hK K
      exact to_le (s' := ⟨[(1, HV.str p1), (2, HV.int .i64 p2), (11, HV.int .i64 a16.1), (14, HV.str ((p1 ++ x12) ++ p1)), (15, HV.int .i64 a16.2), (16, HV.int .i64 a34), (39, slE eStr x6.1), (40, HV.int .i64 ((x6.1).length : Int)), (41, HV.int .i64 a8.2), (81, HV.bool true)], []⟩) (AS.le_of ⟨rfl, rfl, rfl, rfl, rfl, rfl, rfl, rfl, rfl, rfl, trivial⟩ trivial) ⟨true, (), h, rfl⟩
     have h := ifF hg39 h
     refine b_T rfl rfl rfl rfl (decide_eq_false hg39) (o_val rfl (mv_val rfl rfl).2 ?_)
     refine b_T rfl rfl rfl rfl rfl (o_val rfl (mv_val rfl rfl).2 ?_)
     refine b_T rfl rfl rfl rfl rfl (o_val rfl (v_bin rfl rfl b_lss) ?_)
     refine bv rfl (v_pickF rfl rfl rfl) ?_
     refine b_nil (hK _ ?_)
     clear hK K
     exact to_le (s' := ⟨[(1, HV.str p1), (2, HV.int .i64 p2), (11, HV.int .i64 a16.1), (14, HV.str ((p1 ++ x12) ++ p1)), (15, HV.int .i64 a16.2), (16, HV.int .i64 a34), (39, slE eStr x6.1), (40, HV.int .i64 ((x6.1).length : Int)), (41, HV.int .i64 a8.2), (81, HV.bool (decide (a34 < a16.1)))], []⟩) (AS.le_of ⟨rfl, rfl, rfl, rfl, rfl, rfl, rfl, rfl, rfl, rfl, trivial⟩ trivial) ⟨decide (a34 < a16.1), (), h, rfl⟩
    refine AW.rgs rfl fun K hK => ?_
    refine bv rfl (v_bin rfl rfl b_lss) ?_
    refine b_fin hK (s' := ⟨[(1, HV.str p1), (2, HV.int .i64 p2), (11, HV.int .i64 a16.1), (14, HV.str ((p1 ++ x12) ++ p1)), (15, HV.int .i64 a16.2), (16, HV.int .i64 a23.1), (39, slE eStr x6.1), (40, HV.int .i64 ((x6.1).length : Int)), (41, HV.int .i64 a8.2), (59, HV.int .i64 ((p1).length : Int)), (60, HV.int .i64 a23.2), (61, HV.bool (decide (a23.2 < ((p1).length : Int))))], []⟩) (le_q rfl rfl) ?_
    clear hK K
    refine AW.cseq rfl (fun hc => ?_) (fun hc => ?_)
    ·have hc := of_decide_eq_true hc
     have h := ifT hc h
     refine AW.skip ?_
     refine AW.seqJ h (S := Int) (V := Unit) (fun a v => ⟨[(1, HV.str p1), (2, HV.int .i64 p2), (11, HV.int .i64 a16.1), (14, HV.str ((p1 ++ x12) ++ p1)), (15, HV.int .i64 a16.2), (16, HV.int .i64 a), (39, slE eStr x6.1), (40, HV.int .i64 ((x6.1).length : Int)), (41, HV.int .i64 a8.2), (59, HV.int .i64 ((p1).length : Int)), (60, HV.int .i64 a23.2)], []⟩) (fun a27 w28 h => ?_) (fun k29 h => ?_)
     ·refine AW.rg rfl fun K hK => ?_
      refine bv rfl (v_bin rfl rfl b_add) ?_
      refine mv rfl rfl ?_
      refine b_nil (hK _ ?_)
      clear hK K
      exact to_le (s' := ⟨[(1, HV.str p1), (2, HV.int .i64 p2), (11, HV.int .i64 a16.1), (14, HV.str ((p1 ++ x12) ++ p1)), (15, HV.int .i64 a16.2), (16, HV.int .i64 a27), (39, slE eStr x6.1), (40, HV.int .i64 ((x6.1).length : Int)), (41, HV.int .i64 a8.2), (59, HV.int .i64 ((p1).length : Int)), (60, HV.int .i64 (IntKind.wrap .i64 (a23.2 + 1)))], []⟩) (AS.le_of ⟨rfl, rfl, rfl, rfl, rfl, rfl, rfl, rfl, rfl, rfl, rfl, trivial⟩ trivial) ⟨(a27, IntKind.wrap .i64 (a23.2 + 1)), (), h, rfl⟩
     refine AW.block ?_
     refine AW.rgs rfl fun K hK => ?_
     refine mv rfl rfl ?_
     refine mv rfl rfl ?_
     refine b_fin hK (s' := ⟨[(1, HV.str p1), (2, HV.int .i64 p2), (11, HV.int .i64 a16.1), (14, HV.str ((p1 ++ x12) ++ p1)), (15, HV.int .i64 a16.2), (16, HV.int .i64 a23.1), (17, HV.int .i64 a23.2), (39, slE eStr x6.1), (40, HV.int .i64 ((x6.1).length : Int)), (41, HV.int .i64 a8.2), (59, HV.int .i64 ((p1).length : Int)), (60, HV.int .i64 a23.2)], []⟩) (le_q rfl rfl) ?_
     clear hK K
     refine AW.dgs 9 follows rfl rfl fun K hK => ?_
     refine sm rfl rfl ?_
     refine sm rfl rfl ?_
     refine sm rfl rfl ?_
     refine sv rfl (v_bin rfl rfl b_add) ?_
     obtain ⟨x30, h31, h⟩ := bS h
     refine sv rfl (v_idxS ty9 rfl rfl h31) ?_
     refine sm rfl rfl ?_
     refine sm rfl rfl ?_
     obtain ⟨x32, h33, h⟩ := bS h
     refine sv rfl (v_idxS ty9 rfl rfl h33) ?_
     refine sv rfl (v_bin rfl rfl b_neq) ?_
     refine s_nil ?_
     refine b_fin hK (s' := ⟨[(1, HV.str p1), (2, HV.int .i64 p2), (11, HV.int .i64 a16.1), (14, HV.str ((p1 ++ x12) ++ p1)), (15, HV.int .i64 a16.2), (16, HV.int .i64 a23.1), (39, slE eStr x6.1), (40, HV.int .i64 ((x6.1).length : Int)), (41, HV.int .i64 a8.2), (59, HV.int .i64 ((p1).length : Int)), (60, HV.int .i64 a23.2), (71, HV.bool (decide ((x30.toNat : Int) ≠ (x32.toNat : Int))))], []⟩) (le_q rfl rfl) ?_
     clear hK K
     refine AW.cond rfl (fun hc => ?_) (fun hc => ?_)
     ·have hc := of_decide_eq_true hc
      have h := ifT hc h
      refine AW.rg rfl fun K hK => ?_
      refine mv rfl rfl ?_
      refine bv rfl (v_bin rfl rfl b_add) ?_
      refine mv rfl rfl ?_
      refine b_nil (hK _ ?_)
      clear hK K
      exact to_le (s' := ⟨[(1, HV.str p1), (2, HV.int .i64 p2), (11, HV.int .i64 a16.1), (14, HV.str ((p1 ++ x12) ++ p1)), (15, HV.int .i64 a16.2), (16, HV.int .i64 (IntKind.wrap .i64 (a23.1 + 1))), (39, slE eStr x6.1), (40, HV.int .i64 ((x6.1).length : Int)), (41, HV.int .i64 a8.2), (59, HV.int .i64 ((p1).length : Int)), (60, HV.int .i64 a23.2)], []⟩) (AS.le_of ⟨rfl, rfl, rfl, rfl, rfl, rfl, rfl, rfl, rfl, rfl, rfl, trivial⟩ trivial) ⟨IntKind.wrap .i64 (a23.1 + 1), (), h, rfl⟩
     have hc := of_decide_eq_false hc
     have h := ifF hc h
     refine AW.skip ?_
     exact to_le (s' := ⟨[(1, HV.str p1), (2, HV.int .i64 p2), (11, HV.int .i64 a16.1), (14, HV.str ((p1 ++ x12) ++ p1)), (15, HV.int .i64 a16.2), (16, HV.int .i64 a23.1), (39, slE eStr x6.1), (40, HV.int .i64 ((x6.1).length : Int)), (41, HV.int .i64 a8.2), (59, HV.int .i64 ((p1).length : Int)), (60, HV.int .i64 a23.2)], []⟩) (AS.le_of ⟨rfl, rfl, rfl, rfl, rfl, rfl, rfl, rfl, rfl, rfl, rfl, trivial⟩ trivial) ⟨a23.1, (), h, rfl⟩
    have hc := of_decide_eq_false hc
    have h := ifF hc h
    refine AW.exit ?_
    exact to_le (s' := ⟨[(1, HV.str p1), (2, HV.int .i64 p2), (11, HV.int .i64 a16.1), (14, HV.str ((p1 ++ x12) ++ p1)), (15, HV.int .i64 a16.2), (16, HV.int .i64 a23.1), (39, slE eStr x6.1), (40, HV.int .i64 ((x6.1).length : Int)), (41, HV.int .i64 a8.2)], []⟩) (AS.le_of ⟨rfl, rfl, rfl, rfl, rfl, rfl, rfl, rfl, rfl, trivial⟩ trivial) ⟨a23.1, (), h, rfl⟩
   have hc := of_decide_eq_false hc
   have h := ifF hc h
   refine AW.exit ?_
   exact to_le (s' := ⟨[(1, HV.str p1), (2, HV.int .i64 p2), (11, HV.int .i64 a16.1), (39, slE eStr x6.1), (40, HV.int .i64 ((x6.1).length : Int)), (41, HV.int .i64 a8.2)], []⟩) (AS.le_of ⟨rfl, rfl, rfl, rfl, rfl, rfl, trivial⟩ trivial) ⟨a16.1, (), h, rfl⟩
  have hc := of_decide_eq_false hc
  have h := ifF hc h
  refine AW.exit ?_
  exact to_le (s' := ⟨[(11, HV.int .i64 a8.1)], []⟩) (AS.le_of ⟨rfl, trivial⟩ trivial) ⟨a8.1, (), h, rfl⟩
 refine AW.rg rfl fun K hK => ?_
 refine mv rfl rfl ?_
 refine bv rfl (v_bin rfl rfl b_lss) ?_
 refine mv rfl rfl ?_
 by_cases hg44 : p2 < 0
 ·have h := ifT hg44 h
  refine b_F rfl rfl rfl rfl rfl (decide_eq_true hg44) ?_
  refine b_F rfl rfl rfl rfl rfl rfl ?_
  refine bv rfl (v_pickT rfl rfl rfl) ?_
  refine b_nil (hK _ ?_)
  clear hK K
  exact to_le (s' := ⟨[(1, HV.str p1), (2, HV.int .i64 p2), (3, HV.fptr [HV.int .i64 p0.1, HV.int .i64 p0.2.1, slE eFromLabelTo p0.2.2] 0), (29, HV.bool true)], []⟩) (AS.le_of ⟨rfl, rfl, rfl, rfl, trivial⟩ trivial) ⟨true, (), h, rfl⟩
 have h := ifF hg44 h
 refine b_T rfl rfl rfl rfl (decide_eq_false hg44) (o_val rfl (mv_val rfl rfl).2 ?_)
 refine b_T rfl rfl rfl rfl rfl (o_val rfl (v_bin rfl rfl b_gtr) ?_)
 refine bv rfl (v_pickF rfl rfl rfl) ?_
 refine b_nil (hK _ ?_)
 clear hK K
 exact to_le (s' := ⟨[(1, HV.str p1), (2, HV.int .i64 p2), (3, HV.fptr [HV.int .i64 p0.1, HV.int .i64 p0.2.1, slE eFromLabelTo p0.2.2] 0), (29, HV.bool (decide (12 < p2)))], []⟩) (AS.le_of ⟨rfl, rfl, rfl, rfl, trivial⟩ trivial) ⟨decide (12 < p2), (), h, rfl⟩

set_option maxHeartbeats 1600000 in
set_option maxRecDepth 100000 in
theorem w_law54_SyncmarkParts {p0 : TLabelsStatesEdges} {p1 : List UInt8} {p2 : Int} {p3 : Int} {r : Bool} (h : m_law54_SyncmarkParts p0 p1 p2 p3 = some r) : Pure Tryz.prog 6 [HV.agg [HV.int .i64 p0.1, HV.int .i64 p0.2.1, slE eFromLabelTo p0.2.2], HV.str p1, HV.int .u8 p2, HV.int .u8 p3] (· = HV.bool r) := by
 unfold m_law54_SyncmarkParts at h
 refine Pure.of_body Tryz.func6 rfl rfl (Nat.le_of_ble_eq_true rfl) fun hf => ?_
 unfold Tryz.f6
 dsimp only [enumS, Nat.reduceAdd]
 refine AW.rgs rfl fun K hK => ?_
 refine b_op rfl (o_box rfl rfl rfl ?_)
 refine mv rfl rfl ?_
 refine b_fin hK (s' := ⟨[(1, HV.str p1), (2, HV.int .u8 p2), (3, HV.int .u8 p3), (4, HV.fptr [HV.int .i64 p0.1, HV.int .i64 p0.2.1, slE eFromLabelTo p0.2.2] 0)], []⟩) (le_q rfl rfl) ?_
 clear hK K
 refine AW.rgs rfl fun K hK => ?_
 refine mv rfl rfl ?_
 refine bv rfl (v_convI ty5 ty3 rfl) ?_
 refine bv rfl (v_bin rfl rfl (b_rem (by decide))) ?_
 refine mv rfl rfl ?_
 refine b_fin hK (s' := ⟨[(1, HV.str p1), (3, HV.int .u8 p3), (4, HV.fptr [HV.int .i64 p0.1, HV.int .i64 p0.2.1, slE eFromLabelTo p0.2.2] 0), (9, HV.int .i64 (Int.tmod (IntKind.wrap .i64 p2) 7))], []⟩) (le_q rfl rfl) ?_
 clear hK K
 refine AW.seq ?_
 refine AW.seqJ h (S := Bool) (V := Unit) (fun a v => ⟨[(1, HV.str p1), (3, HV.int .u8 p3), (4, HV.fptr [HV.int .i64 p0.1, HV.int .i64 p0.2.1, slE eFromLabelTo p0.2.2] 0), (9, HV.int .i64 (Int.tmod (IntKind.wrap .i64 p2) 7)), (32, HV.bool a)], []⟩) (fun a1 w2 h => ?_) (fun k3 h => ?_)
 ·refine AW.cond rfl (fun hc => ?_) (fun hc => ?_)
  ·have h := ifT hc h
   refine AW.rgs rfl fun K hK => ?_
   obtain ⟨x4, h5, h⟩ := bS h
   refine b_op rfl (o_call rfl rfl rfl rfl (ACallD.pure0 (w_law54_awake h5)) ?_)
   refine mv rfl rfl ?_
   refine b_fin hK (s' := ⟨[(8, HV.bool x4)], []⟩) (le_q rfl rfl) ?_
   clear hK K
   refine AW.ret ?_
   have h := Option.some.inj h
   subst h
   exact ret_pure (hs := [HV.bool x4]) (q := HV.bool x4) (.inr rfl) (resT rfl rfl) rfl trivial
  have h := ifF (bF' hc) h
  refine AW.skip ?_
  refine AW.rgs rfl fun K hK => ?_
  refine mv rfl rfl ?_
  refine bv rfl (v_convI ty5 ty3 rfl) ?_
  refine bv rfl (v_fieldAddrF fo24_2 rfl) ?_
  refine bv rfl (v_loadF ty22 rfl (l_lit rfl rfl)) ?_
  refine bv rfl (v_lenF rfl rfl ty22 rfl) ?_
  obtain ⟨h6, h⟩ := ifN h
  refine bv rfl (v_bin rfl rfl (b_rem h6)) ?_
  refine mv rfl rfl ?_
  refine b_fin hK (s' := ⟨[(1, HV.str p1), (4, HV.fptr [HV.int .i64 p0.1, HV.int .i64 p0.2.1, slE eFromLabelTo p0.2.2] 0), (9, HV.int .i64 (Int.tmod (IntKind.wrap .i64 p2) 7)), (10, HV.int .i64 (Int.tmod (IntKind.wrap .i64 p3) ((p0.2.2).length : Int)))], []⟩) (le_q rfl rfl) ?_
  clear hK K
  refine AW.rgs rfl fun K hK => ?_
  refine bv rfl (v_loadF ty24 rfl (l_litA rfl (Nat.le_of_ble_eq_true rfl) rfl)) ?_
  refine b_op rfl (o_alloc (fid := 6) (zs := [HV.int .i64 0, HV.int .i64 0, HV.v (.slice none 0 0)]) 6011 rfl rfl ty24 rfl (fun v7 => ?_))
  refine b_op rfl (o_store (cs := [HV.int .i64 p0.1, HV.int .i64 p0.2.1, slE eFromLabelTo p0.2.2]) (zs := [HV.int .i64 p0.1, HV.int .i64 p0.2.1, slE eFromLabelTo p0.2.2]) rfl rfl rfl ty24 rfl rfl rfl rfl rfl ?_)
  refine b_fin hK (s' := ⟨[(1, HV.str p1), (4, HV.fptr [HV.int .i64 p0.1, HV.int .i64 p0.2.1, slE eFromLabelTo p0.2.2] 0), (9, HV.int .i64 (Int.tmod (IntKind.wrap .i64 p2) 7)), (10, HV.int .i64 (Int.tmod (IntKind.wrap .i64 p3) ((p0.2.2).length : Int))), (11, HV.ptr 6011 v7 0)], [(6011, v7, .arr 3 24 [HV.int .i64 p0.1, HV.int .i64 p0.2.1, slE eFromLabelTo p0.2.2])]⟩) (le_q rfl rfl) ?_
  clear hK K
  refine AW.rgs rfl fun K hK => ?_
  refine bv rfl (v_fieldAddrF fo24_2 rfl) ?_
  refine bv rfl (v_loadF ty22 rfl (l_lit rfl rfl)) ?_
  obtain ⟨x8, h9, h⟩ := bS h
  refine b_op rfl (o_callA rfl rfl rfl rfl (c_cloneE 6043 h9 fun v10 => ?_) )
  refine mv rfl rfl ?_
  refine mv rfl rfl ?_
  refine bv rfl (v_bin rfl rfl b_add) ?_
  obtain ⟨h11, h⟩ := ifN h
  refine b_op rfl (o_callK (q := slE eFromLabelTo (x8.take (Int.tmod (IntKind.wrap .i64 p3) ((p0.2.2).length : Int)).toNat ++ x8.drop (IntKind.wrap .i64 ((Int.tmod (IntKind.wrap .i64 p3) ((p0.2.2).length : Int)) + 1)).toNat)) [(6011, v7, .arr 3 24 [HV.int .i64 p0.1, HV.int .i64 p0.2.1, slE eFromLabelTo p0.2.2])] rfl rfl rfl rfl (fun K hK => c_delE' (H' := [(6011, v7, .arr 3 24 [HV.int .i64 p0.1, HV.int .i64 p0.2.1, slE eFromLabelTo p0.2.2])]) (l := x8) h11 rfl rfl (leH_get ⟨rfl, trivial⟩) rfl hK) ?_)
  refine bv rfl (v_fieldAddrP fo24_2 rfl rfl) ?_
  refine b_op rfl (o_store (cs := [slE eFromLabelTo (x8.take (Int.tmod (IntKind.wrap .i64 p3) ((p0.2.2).length : Int)).toNat ++ x8.drop (IntKind.wrap .i64 ((Int.tmod (IntKind.wrap .i64 p3) ((p0.2.2).length : Int)) + 1)).toNat)]) (zs := [HV.int .i64 p0.1, HV.int .i64 p0.2.1, slE eFromLabelTo (x8.take (Int.tmod (IntKind.wrap .i64 p3) ((p0.2.2).length : Int)).toNat ++ x8.drop (IntKind.wrap .i64 ((Int.tmod (IntKind.wrap .i64 p3) ((p0.2.2).length : Int)) + 1)).toNat)]) rfl rfl rfl ty22 rfl rfl rfl rfl rfl ?_)
  refine b_fin hK (s' := ⟨[(1, HV.str p1), (4, HV.fptr [HV.int .i64 p0.1, HV.int .i64 p0.2.1, slE eFromLabelTo p0.2.2] 0), (9, HV.int .i64 (Int.tmod (IntKind.wrap .i64 p2) 7)), (11, HV.ptr 6011 v7 0)], [(6011, v7, .arr 3 24 [HV.int .i64 p0.1, HV.int .i64 p0.2.1, slE eFromLabelTo (x8.take (Int.tmod (IntKind.wrap .i64 p3) ((p0.2.2).length : Int)).toNat ++ x8.drop (IntKind.wrap .i64 ((Int.tmod (IntKind.wrap .i64 p3) ((p0.2.2).length : Int)) + 1)).toNat)])]⟩) (le_q rfl rfl) ?_
  clear hK K
  refine AW.rgs rfl fun K hK => ?_
  refine bv rfl (v_loadF ty24 rfl (l_litA rfl (Nat.le_of_ble_eq_true rfl) rfl)) ?_
  refine mv rfl rfl ?_
  refine mv rfl rfl ?_
  obtain ⟨x12, h13, h⟩ := bS h
  refine b_op rfl (o_call rfl rfl rfl rfl (ACallD.pure0 (w_syncmark_Valid h13)) ?_)
  refine mv rfl rfl ?_
  refine bv rfl (v_extract rfl rfl) ?_
  refine bv rfl (v_extract rfl rfl) ?_
  refine mv rfl rfl ?_
  refine mv rfl rfl ?_
  refine b_fin hK (s' := ⟨[(1, HV.str p1), (4, HV.fptr [HV.int .i64 p0.1, HV.int .i64 p0.2.1, slE eFromLabelTo p0.2.2] 0), (9, HV.int .i64 (Int.tmod (IntKind.wrap .i64 p2) 7)), (11, HV.ptr 6011 v7 0), (12, HV.bool x12.1), (13, HV.int .i64 x12.2)], [(6011, v7, .arr 3 24 [HV.int .i64 p0.1, HV.int .i64 p0.2.1, slE eFromLabelTo (x8.take (Int.tmod (IntKind.wrap .i64 p3) ((p0.2.2).length : Int)).toNat ++ x8.drop (IntKind.wrap .i64 ((Int.tmod (IntKind.wrap .i64 p3) ((p0.2.2).length : Int)) + 1)).toNat)])]⟩) (le_q rfl rfl) ?_
  clear hK K
  refine AW.rgs rfl fun K hK => ?_
  refine bv rfl (v_loadP ty24 rfl rfl (l_litA rfl (Nat.le_of_ble_eq_true rfl) rfl)) ?_
  refine mv rfl rfl ?_
  refine mv rfl rfl ?_
  obtain ⟨x14, h15, h⟩ := bS h
  refine b_op rfl (o_call rfl rfl rfl rfl (ACallD.pure0 (w_syncmark_Valid h15)) ?_)
  refine mv rfl rfl ?_
  refine bv rfl (v_extract rfl rfl) ?_
  refine bv rfl (v_extract rfl rfl) ?_
  refine mv rfl rfl ?_
  refine mv rfl rfl ?_
  refine b_fin hK (s' := ⟨[(1, HV.str p1), (4, HV.fptr [HV.int .i64 p0.1, HV.int .i64 p0.2.1, slE eFromLabelTo p0.2.2] 0), (9, HV.int .i64 (Int.tmod (IntKind.wrap .i64 p2) 7)), (11, HV.ptr 6011 v7 0), (12, HV.bool x12.1), (13, HV.int .i64 x12.2), (14, HV.bool x14.1), (15, HV.int .i64 x14.2)], [(6011, v7, .arr 3 24 [HV.int .i64 p0.1, HV.int .i64 p0.2.1, slE eFromLabelTo (x8.take (Int.tmod (IntKind.wrap .i64 p3) ((p0.2.2).length : Int)).toNat ++ x8.drop (IntKind.wrap .i64 ((Int.tmod (IntKind.wrap .i64 p3) ((p0.2.2).length : Int)) + 1)).toNat)])]⟩) (le_q rfl rfl) ?_
  clear hK K
  refine AW.rgs rfl fun K hK => ?_
  refine bv rfl (v_loadF ty24 rfl (l_litA rfl (Nat.le_of_ble_eq_true rfl) rfl)) ?_
  refine mv rfl rfl ?_
  refine mv rfl rfl ?_
  obtain ⟨x16, h17, h⟩ := bS h
  refine b_op rfl (o_call rfl rfl rfl rfl (ACallD.pure0 (w_syncmark_Damaged h17)) ?_)
  refine mv rfl rfl ?_
  refine bv rfl (v_extract rfl rfl) ?_
  refine bv rfl (v_extract rfl rfl) ?_
  refine mv rfl rfl ?_
  refine mv rfl rfl ?_
  refine b_fin hK (s' := ⟨[(1, HV.str p1), (9, HV.int .i64 (Int.tmod (IntKind.wrap .i64 p2) 7)), (11, HV.ptr 6011 v7 0), (12, HV.bool x12.1), (13, HV.int .i64 x12.2), (14, HV.bool x14.1), (15, HV.int .i64 x14.2), (16, HV.int .i64 x16.1), (17, HV.int .i64 x16.2)], [(6011, v7, .arr 3 24 [HV.int .i64 p0.1, HV.int .i64 p0.2.1, slE eFromLabelTo (x8.take (Int.tmod (IntKind.wrap .i64 p3) ((p0.2.2).length : Int)).toNat ++ x8.drop (IntKind.wrap .i64 ((Int.tmod (IntKind.wrap .i64 p3) ((p0.2.2).length : Int)) + 1)).toNat)])]⟩) (le_q rfl rfl) ?_
  clear hK K
  refine AW.rgs rfl fun K hK => ?_
  refine bv rfl (v_loadP ty24 rfl rfl (l_litA rfl (Nat.le_of_ble_eq_true rfl) rfl)) ?_
  refine mv rfl rfl ?_
  refine mv rfl rfl ?_
  obtain ⟨x18, h19, h⟩ := bS h
  refine b_op rfl (o_call rfl rfl rfl rfl (ACallD.pure0 (w_syncmark_Damaged h19)) ?_)
  refine mv rfl rfl ?_
  refine bv rfl (v_extract rfl rfl) ?_
  refine bv rfl (v_extract rfl rfl) ?_
  refine mv rfl rfl ?_
  refine mv rfl rfl ?_
  refine b_fin hK (s' := ⟨[(12, HV.bool x12.1), (13, HV.int .i64 x12.2), (14, HV.bool x14.1), (15, HV.int .i64 x14.2), (16, HV.int .i64 x16.1), (17, HV.int .i64 x16.2), (18, HV.int .i64 x18.1), (19, HV.int .i64 x18.2)], []⟩) (le_q rfl rfl) ?_
  clear hK K
  refine AW.seq ?_
  refine AW.seqJ h (S := Bool) (V := Unit) (fun a v => ⟨[(16, HV.int .i64 x16.1), (17, HV.int .i64 x16.2), (18, HV.int .i64 x18.1), (19, HV.int .i64 x18.2), (89, HV.bool a)], []⟩) (fun a20 w21 h => ?_) (fun k22 h => ?_)
  ·refine AW.cond rfl (fun hc => ?_) (fun hc => ?_)
   ·have h := ifT hc h
    refine AW.rgs rfl fun K hK => ?_
    refine mv rfl rfl ?_
    refine b_fin hK (s' := ⟨[(8, HV.bool false)], []⟩) (le_q rfl rfl) ?_
    clear hK K
    refine AW.ret ?_
    have h := Option.some.inj h
    subst h
    exact ret_pure (hs := [HV.bool false]) (q := HV.bool false) (.inr rfl) (resT rfl rfl) rfl trivial
   have h := ifF (bF' hc) h
   refine AW.skip ?_
   refine AW.seq ?_
   refine AW.seqJ h (S := Bool) (V := Unit) (fun a v => ⟨[(16, HV.int .i64 x16.1), (17, HV.int .i64 x16.2), (18, HV.int .i64 x18.1), (19, HV.int .i64 x18.2), (95, HV.bool a)], []⟩) (fun a23 w24 h => ?_) (fun k25 h => ?_)
   ·refine AW.cond rfl (fun hc => ?_) (fun hc => ?_)
    ·have h := ifT hc h
     refine AW.seqJ h (S := Bool) (V := Unit) (fun a v => ⟨[(8, HV.bool a)], []⟩) (fun a26 w27 h => ?_) (fun k28 h => ?_)
     ·refine AW.ret ?_
      have h := Option.some.inj h
      subst h
      exact ret_pure (hs := [HV.bool a26]) (q := HV.bool a26) (.inr rfl) (resT rfl rfl) rfl trivial
     refine AW.rg rfl fun K hK => ?_
     refine mv rfl rfl ?_
     refine bv rfl (v_bin rfl rfl b_eql) ?_
     refine mv rfl rfl ?_
     by_cases hg34 : x16.2 = 0
     ·have h := ifT hg34 h
      refine b_F rfl rfl rfl rfl rfl (decide_eq_true hg34) ?_
      refine b_F rfl rfl rfl rfl rfl rfl ?_
      refine b_F rfl rfl rfl rfl rfl rfl ?_
      refine bv rfl (v_pickT rfl rfl rfl) ?_
      refine mv rfl rfl ?_
      obtain ⟨x29, h30, h⟩ := bS h
      refine b_T rfl rfl rfl rfl rfl (o_call rfl rfl rfl rfl (ACallD.pure0 (w_law54_awake h30)) ?_)
      refine bv rfl (v_pickT rfl rfl rfl) ?_
      refine mv rfl rfl ?_
      refine b_nil (hK _ ?_)
      clear hK K
      exact to_le (s' := ⟨[(8, HV.bool x29)], []⟩) (AS.le_of ⟨rfl, trivial⟩ trivial) ⟨x29, (), h, rfl⟩
     have h := ifF hg34 h
     refine b_T rfl rfl rfl rfl (decide_eq_false hg34) (o_val rfl (mv_val rfl rfl).2 ?_)
     refine b_T rfl rfl rfl rfl rfl (o_val rfl (mv_val rfl rfl).2 ?_)
     refine b_T rfl rfl rfl rfl rfl (o_val rfl (v_bin rfl rfl b_eql) ?_)
     refine bv rfl (v_pickF rfl rfl rfl) ?_
     refine mv rfl rfl ?_
     by_cases hg33 : x18.2 = x16.2
     ·have h := ifT hg33 h
      obtain ⟨x31, h32, h⟩ := bS h
      refine b_T rfl rfl rfl rfl (decide_eq_true hg33) (o_call rfl rfl rfl rfl (ACallD.pure0 (w_law54_awake h32)) ?_)
      refine bv rfl (v_pickT rfl rfl rfl) ?_
      refine mv rfl rfl ?_
      refine b_nil (hK _ ?_)
      clear hK K
      exact to_le (s' := ⟨[(8, HV.bool x31)], []⟩) (AS.le_of ⟨rfl, trivial⟩ trivial) ⟨x31, (), h, rfl⟩
     have h := ifF hg33 h
     refine b_F rfl rfl rfl rfl rfl (decide_eq_false hg33) ?_
     refine bv rfl (v_pickF rfl rfl rfl) ?_
     refine mv rfl rfl ?_
     refine b_nil (hK _ ?_)
     clear hK K
     exact to_le (s' := ⟨[(8, HV.bool false)], []⟩) (AS.le_of ⟨rfl, trivial⟩ trivial) ⟨false, (), h, rfl⟩
    have h := ifF (bF' hc) h
    refine AW.skip ?_
    refine AW.seqJ h (S := Bool) (V := Unit) (fun a v => ⟨[(8, HV.bool a)], []⟩) (fun a35 w36 h => ?_) (fun k37 h => ?_)
    ·refine AW.ret ?_
     have h := Option.some.inj h
     subst h
     exact ret_pure (hs := [HV.bool a35]) (q := HV.bool a35) (.inr rfl) (resT rfl rfl) rfl trivial
    refine AW.rg rfl fun K hK => ?_
    refine mv rfl rfl ?_
    refine mv rfl rfl ?_
    refine bv rfl (v_bin rfl rfl b_geq) ?_
    refine mv rfl rfl ?_
    by_cases hg40 : x16.1 ≤ x18.1
    ·have h := ifT hg40 h
     obtain ⟨x38, h39, h⟩ := bS h
     refine b_T rfl rfl rfl rfl (decide_eq_true hg40) (o_call rfl rfl rfl rfl (ACallD.pure0 (w_law54_awake h39)) ?_)
     refine bv rfl (v_pickT rfl rfl rfl) ?_
     refine mv rfl rfl ?_
     refine b_nil (hK _ ?_)
     clear hK K
     exact to_le (s' := ⟨[(8, HV.bool x38)], []⟩) (AS.le_of ⟨rfl, trivial⟩ trivial) ⟨x38, (), h, rfl⟩
    have h := ifF hg40 h
    refine b_F rfl rfl rfl rfl rfl (decide_eq_false hg40) ?_
    refine bv rfl (v_pickF rfl rfl rfl) ?_
    refine mv rfl rfl ?_
    refine b_nil (hK _ ?_)
    clear hK K
    exact to_le (s' := ⟨[(8, HV.bool false)], []⟩) (AS.le_of ⟨rfl, trivial⟩ trivial) ⟨false, (), h, rfl⟩
   refine AW.rg rfl fun K hK => ?_
   refine mv rfl rfl ?_
   refine bv rfl (v_bin rfl rfl b_neq) ?_
   refine mv rfl rfl ?_
   by_cases hg41 : x16.2 ≠ 0
   ·have h := ifT hg41 h
    refine b_F rfl rfl rfl rfl rfl (decide_eq_true hg41) ?_
    refine b_F rfl rfl rfl rfl rfl rfl ?_
    refine bv rfl (v_pickT rfl rfl rfl) ?_
    refine b_nil (hK _ ?_)
    clear hK K
    exact to_le (s' := ⟨[(16, HV.int .i64 x16.1), (17, HV.int .i64 x16.2), (18, HV.int .i64 x18.1), (19, HV.int .i64 x18.2), (95, HV.bool true)], []⟩) (AS.le_of ⟨rfl, rfl, rfl, rfl, rfl, trivial⟩ trivial) ⟨true, (), h, rfl⟩
   have h := ifF hg41 h
   refine b_T rfl rfl rfl rfl (decide_eq_false hg41) (o_val rfl (mv_val rfl rfl).2 ?_)
   refine b_T rfl rfl rfl rfl rfl (o_val rfl (v_bin rfl rfl b_neq) ?_)
   refine bv rfl (v_pickF rfl rfl rfl) ?_
   refine b_nil (hK _ ?_)
   clear hK K
   exact to_le (s' := ⟨[(16, HV.int .i64 x16.1), (17, HV.int .i64 x16.2), (18, HV.int .i64 x18.1), (19, HV.int .i64 x18.2), (95, HV.bool (decide (x18.2 ≠ 0)))], []⟩) (AS.le_of ⟨rfl, rfl, rfl, rfl, rfl, trivial⟩ trivial) ⟨decide (x18.2 ≠ 0), (), h, rfl⟩
  refine AW.rg rfl fun K hK => ?_
  refine mv rfl rfl ?_
  refine bv rfl (v_bin rfl rfl b_neq) ?_
  refine mv rfl rfl ?_
  by_cases hg44 : x12.2 ≠ 0
  ·have h := ifT hg44 h
   refine b_F rfl rfl rfl rfl rfl (decide_eq_true hg44) ?_
   refine b_F rfl rfl rfl rfl rfl rfl ?_
   refine bv rfl (v_pickT rfl rfl rfl) ?_
   refine mv rfl rfl ?_
   refine b_F rfl rfl rfl rfl rfl rfl ?_
   refine b_F rfl rfl rfl rfl rfl rfl ?_
   refine b_U rfl rfl rfl rfl rfl ?_
   refine b_U rfl rfl rfl rfl rfl ?_
   refine b_F rfl rfl rfl rfl rfl rfl ?_
   refine bv rfl (v_pickT rfl rfl rfl) ?_
   refine b_nil (hK _ ?_)
   clear hK K
   exact to_le (s' := ⟨[(16, HV.int .i64 x16.1), (17, HV.int .i64 x16.2), (18, HV.int .i64 x18.1), (19, HV.int .i64 x18.2), (89, HV.bool true)], []⟩) (AS.le_of ⟨rfl, rfl, rfl, rfl, rfl, trivial⟩ trivial) ⟨true, (), h, rfl⟩
  have h := ifF hg44 h
  refine b_T rfl rfl rfl rfl (decide_eq_false hg44) (o_val rfl (mv_val rfl rfl).2 ?_)
  refine b_T rfl rfl rfl rfl rfl (o_val rfl (v_bin rfl rfl b_neq) ?_)
  refine bv rfl (v_pickF rfl rfl rfl) ?_
  refine mv rfl rfl ?_
  by_cases hg43 : x14.2 ≠ 0
  ·have h := ifT hg43 h
   refine b_F rfl rfl rfl rfl rfl (decide_eq_true hg43) ?_
   refine b_F rfl rfl rfl rfl rfl rfl ?_
   refine b_U rfl rfl rfl rfl rfl ?_
   refine b_U rfl rfl rfl rfl rfl ?_
   refine b_F rfl rfl rfl rfl rfl rfl ?_
   refine bv rfl (v_pickT rfl rfl rfl) ?_
   refine b_nil (hK _ ?_)
   clear hK K
   exact to_le (s' := ⟨[(16, HV.int .i64 x16.1), (17, HV.int .i64 x16.2), (18, HV.int .i64 x18.1), (19, HV.int .i64 x18.2), (89, HV.bool true)], []⟩) (AS.le_of ⟨rfl, rfl, rfl, rfl, rfl, trivial⟩ trivial) ⟨true, (), h, rfl⟩
  have h := ifF hg43 h
  refine b_T rfl rfl rfl rfl (decide_eq_false hg43) (o_val rfl (mv_val rfl rfl).2 ?_)
  refine b_T rfl rfl rfl rfl rfl (o_val rfl (mv_val rfl rfl).2 ?_)
  by_cases hg42 : x12.1 = true
  ·have h := ifT hg42 h
   refine b_T rfl rfl rfl rfl hg42 (o_val rfl (mv_val rfl rfl).2 ?_)
   refine b_T rfl rfl rfl rfl rfl (o_val rfl (v_not rfl) ?_)
   refine b_T rfl rfl rfl rfl rfl (o_val rfl (v_pickT rfl rfl rfl) ?_)
   refine bv rfl (v_pickF rfl rfl rfl) ?_
   refine b_nil (hK _ ?_)
   clear hK K
   exact to_le (s' := ⟨[(16, HV.int .i64 x16.1), (17, HV.int .i64 x16.2), (18, HV.int .i64 x18.1), (19, HV.int .i64 x18.2), (89, HV.bool (!x14.1))], []⟩) (AS.le_of ⟨rfl, rfl, rfl, rfl, rfl, trivial⟩ trivial) ⟨!x14.1, (), h, rfl⟩
  have h := ifF hg42 h
  refine b_F rfl rfl rfl rfl rfl (bF hg42) ?_
  refine b_F rfl rfl rfl rfl rfl rfl ?_
  refine b_T rfl rfl rfl rfl rfl (o_val rfl (v_pickF rfl rfl rfl) ?_)
  refine bv rfl (v_pickF rfl rfl rfl) ?_
  refine b_nil (hK _ ?_)
  clear hK K
  exact to_le (s' := ⟨[(16, HV.int .i64 x16.1), (17, HV.int .i64 x16.2), (18, HV.int .i64 x18.1), (19, HV.int .i64 x18.2), (89, HV.bool false)], []⟩) (AS.le_of ⟨rfl, rfl, rfl, rfl, rfl, trivial⟩ trivial) ⟨false, (), h, rfl⟩
 refine AW.rg rfl fun K hK => ?_
 refine bv rfl (v_loadF ty24 rfl (l_litA rfl (Nat.le_of_ble_eq_true rfl) rfl)) ?_
 refine mv rfl rfl ?_
 obtain ⟨x45, h46, h⟩ := bS h
 refine b_op rfl (o_call rfl rfl rfl rfl (ACallD.pure0 (w_law54_fine h46)) ?_)
 refine bv rfl (v_not rfl) ?_
 refine mv rfl rfl ?_
 by_cases hg47 : (!x45) = true
 ·have h := ifT hg47 h
  refine b_F rfl rfl rfl rfl rfl hg47 ?_
  refine b_F rfl rfl rfl rfl rfl rfl ?_
  refine b_F rfl rfl rfl rfl rfl rfl ?_
  refine b_F rfl rfl rfl rfl rfl rfl ?_
  refine bv rfl (v_pickT rfl rfl rfl) ?_
  refine b_nil (hK _ ?_)
  clear hK K
  exact to_le (s' := ⟨[(1, HV.str p1), (3, HV.int .u8 p3), (4, HV.fptr [HV.int .i64 p0.1, HV.int .i64 p0.2.1, slE eFromLabelTo p0.2.2] 0), (9, HV.int .i64 (Int.tmod (IntKind.wrap .i64 p2) 7)), (32, HV.bool true)], []⟩) (AS.le_of ⟨rfl, rfl, rfl, rfl, rfl, trivial⟩ trivial) ⟨true, (), h, rfl⟩
 have h := ifF hg47 h
 refine b_T rfl rfl rfl rfl (bF hg47) (o_val rfl (v_fieldAddrF fo24_2 rfl) ?_)
 refine b_T rfl rfl rfl rfl rfl (o_val rfl (v_loadF ty22 rfl (l_lit rfl rfl)) ?_)
 refine b_T rfl rfl rfl rfl rfl (o_val rfl (v_lenF rfl rfl ty22 rfl) ?_)
 refine b_T rfl rfl rfl rfl rfl (o_val rfl (v_bin rfl rfl b_eql) ?_)
 refine bv rfl (v_pickF rfl rfl rfl) ?_
 refine b_nil (hK _ ?_)
 clear hK K
 exact to_le (s' := ⟨[(1, HV.str p1), (3, HV.int .u8 p3), (4, HV.fptr [HV.int .i64 p0.1, HV.int .i64 p0.2.1, slE eFromLabelTo p0.2.2] 0), (9, HV.int .i64 (Int.tmod (IntKind.wrap .i64 p2) 7)), (32, HV.bool (decide (((p0.2.2).length : Int) = 0)))], []⟩) (AS.le_of ⟨rfl, rfl, rfl, rfl, rfl, trivial⟩ trivial) ⟨decide (((p0.2.2).length : Int) = 0), (), h, rfl⟩

end Go.AW



/- The laws of valid marks and of first bad words. -/
namespace Go.AW
open Go
set_option linter.unusedVariables false
set_option linter.unusedSimpArgs false
theorem maxB : 1000000 ≤ maxLen := by decide
theorem kmod {p : Int} (a0 : 0 ≤ p) (a1 : p ≤ 255) : ∃ k : Nat, k ≤ 6 ∧ Int.tmod (IntKind.wrap .i64 p) 7 = (k : Int) := by
  have h : 0 ≤ Int.tmod (IntKind.wrap .i64 p) 7 ∧ Int.tmod (IntKind.wrap .i64 p) 7 ≤ 6 := by
    rw [w64 (by omega) (by omega), Int.tmod_eq_emod_of_nonneg a0]; omega
  exact ⟨(Int.tmod (IntKind.wrap .i64 p) 7).toNat, by omega, by omega⟩
theorem pow_small {L : Nat} (h : L ≤ 3) {j : Nat} (hj : j ≤ 6) : L ^ j ≤ 4096 := by
  have h1 : L ^ j ≤ 3 ^ j := Nat.pow_le_pow_left h j
  have h2 : 3 ^ j ≤ 3 ^ 6 := Nat.pow_le_pow_right (by decide) hj
  omega
theorem Words54 {g : Gr} (hv : VG g) (h3 : g.1 ≤ 3) {k : Nat} (hk : k ≤ 6) : m_language_Words g (k : Int) = some ((allW (lets g) k).filter (accB g), 0) :=
  Words_ok hv (by omega) (by omega) fun j _ h2 => pow_small (by omega) (by omega)
theorem words_len {g : Gr} (hv : VG g) (h3 : g.1 ≤ 3) {k : Nat} (hk : k ≤ 6) : ((allW (lets g) k).filter (accB g)).length ≤ 4096 := by
  refine Nat.le_trans (List.length_filter_le _ _) ?_
  rw [allW_len, lets_len hv (by omega)]
  exact pow_small (by omega) hk
section
variable {g : Gr} {mark : List UInt8}
end
end Go.AW

/- The damage of a mark. -/
namespace Go.AW
open Go
set_option linter.unusedVariables false
set_option linter.unusedSimpArgs false
def hamC (mark W : List UInt8) (a i : Nat) : Nat := ((List.range i).filter fun j => decide (W.getD (a + j) 0 ≠ mark.getD j 0)).length
def hamW (mark W : List UInt8) (a : Nat) : Nat := hamC mark W a mark.length
theorem hamC_succ (mark W : List UInt8) (a i : Nat) : hamC mark W a (i + 1) = hamC mark W a i + if W.getD (a + i) 0 ≠ mark.getD i 0 then 1 else 0 := by
  unfold hamC
  rw [List.range_succ, List.filter_append, List.length_append, List.filter_cons]
  by_cases h : W.getD (a + i) 0 ≠ mark.getD i 0
  · rw [if_pos (decide_eq_true h), if_pos h]; rfl
  · rw [if_neg (by rw [decide_eq_true_eq]; exact h), if_neg h]; rfl
theorem hamC_le (mark W : List UInt8) (a i : Nat) : hamC mark W a i ≤ i := by
  unfold hamC
  have := List.length_filter_le (fun j => decide (W.getD (a + j) 0 ≠ mark.getD j 0)) (List.range i)
  rw [List.length_range] at this
  exact this
def updD (a d : Int) : Int := if a < 0 ∨ d < a then d else a
def minD (l : List Int) : Int := l.foldl updD (-1)
theorem minD_spec : ∀ (l : List Int) (a : Int), (∀ x ∈ l, 0 ≤ x) → (a < 0 ∧ l = [] ∧ l.foldl updD a = a) ∨ (0 ≤ l.foldl updD a ∧ (l.foldl updD a = a ∨ l.foldl updD a ∈ l) ∧ (0 ≤ a → l.foldl updD a ≤ a) ∧ ∀ x ∈ l, l.foldl updD a ≤ x)
  | [], a, _ => by
    by_cases h : a < 0
    · exact .inl ⟨h, rfl, rfl⟩
    · exact .inr ⟨by simpa using h, .inl rfl, fun _ => Int.le_refl _, fun _ h => by cases h⟩
  | x :: l, a, h => by
    have hx := h x (List.mem_cons_self ..)
    rw [List.foldl_cons]
    right
    have hu : 0 ≤ updD a x ∧ (updD a x = a ∨ updD a x = x) ∧ (0 ≤ a → updD a x ≤ a) ∧ updD a x ≤ x := by
      unfold updD
      split
      · exact ⟨hx, .inr rfl, fun _ => by omega, Int.le_refl _⟩
      · exact ⟨by omega, .inl rfl, fun _ => Int.le_refl _, by omega⟩
    rcases minD_spec l (updD a x) fun y hy => h y (List.mem_cons_of_mem _ hy) with ⟨h1, _⟩ | ⟨h1, h2, h3, h4⟩
    · omega
    · refine ⟨h1, ?_, fun h0 => by have := h3 hu.1; have := hu.2.2.1 h0; omega, fun y hy => ?_⟩
      · rcases h2 with h2 | h2
        · rcases hu.2.1 with e | e
          · exact .inl (h2.trans e)
          · exact .inr (by rw [h2, e]; exact List.mem_cons_self ..)
        · exact .inr (List.mem_cons_of_mem _ h2)
      · rcases List.mem_cons.1 hy with rfl | hy
        · have := h3 hu.1; have := hu.2.2.2; omega
        · exact h4 y hy
theorem minD_nil {l : List Int} (h : ∀ x ∈ l, 0 ≤ x) : minD l < 0 ↔ l = [] := by
  rcases minD_spec l (-1) h with ⟨_, h2, h3⟩ | ⟨h1, h2, _, _⟩
  · exact ⟨fun _ => h2, fun _ => by unfold minD; rw [h3]; decide⟩
  · constructor
    · intro h'; unfold minD at h'; omega
    · rintro rfl
      simp at h1
theorem minD_mem {l : List Int} (h : ∀ x ∈ l, 0 ≤ x) (hne : l ≠ []) : minD l ∈ l ∧ ∀ x ∈ l, minD l ≤ x := by
  rcases minD_spec l (-1) h with ⟨_, h2, _⟩ | ⟨h1, h2, _, h4⟩
  · exact absurd h2 hne
  · refine ⟨?_, h4⟩
    rcases h2 with h2 | h2
    · omega
    · exact h2
def dists (mark : List UInt8) (n : Nat) (l : List (List UInt8)) : List Int := l.flatMap fun u => (List.range (n + mark.length - 1)).map fun a => ((hamW mark (mark ++ u ++ mark) (a + 1) : Nat) : Int)
theorem dists_nn {mark : List UInt8} {n : Nat} {l : List (List UInt8)} : ∀ x ∈ dists mark n l, 0 ≤ x := by
  intro x hx
  obtain ⟨u, _, hx⟩ := List.mem_flatMap.1 hx
  obtain ⟨a, _, rfl⟩ := List.mem_map.1 hx
  exact Int.natCast_nonneg _
theorem flatMap_take {α β : Type} (f : α → List β) {l : List α} {i : Nat} (h : i < l.length) : (l.take (i + 1)).flatMap f = (l.take i).flatMap f ++ f l[i] := by
  rw [← List.take_append_getElem h, List.flatMap_append]
  simp
section
variable {g : Gr} {mark : List UInt8}
theorem Damaged_loop {mark : List UInt8} (h1 : mark.length ≤ 32) {n : Nat} (hn : n ≤ 12) {l : List (List UInt8)} (hl : ∀ u ∈ l, u.length = n) (hm : l.length ≤ 1000000) :
    (loopW (S := Int × Int) (X := Int) (fun a8 =>
          if a8.2 < ((l).length : Int) then
           (idx l a8.2).bind fun x12 =>
           if mark.length + x12.length ≤ maxLen then
            if (mark ++ x12).length + mark.length ≤ maxLen then
             (loopW (S := Int × Int) (X := Int) (fun a16 =>
                 if a16.2 < (IntKind.wrap .i64 ((n : Int) + ((mark).length : Int))) then
                  jp (fun (a20 : Int) =>
                    some (Stp.next (a20, IntKind.wrap .i64 (a16.2 + 1))))
                    fun k22 =>
                   (loopW (S := Int × Int) (X := Int) (fun a23 =>
                       if a23.2 < ((mark).length : Int) then
                        jp (fun (a27 : Int) =>
                          some (Stp.next (a27, IntKind.wrap .i64 (a23.2 + 1))))
                          fun k29 =>
                         (idx ((mark ++ x12) ++ mark) (IntKind.wrap .i64 (a16.2 + a23.2))).bind fun x30 =>
                         (idx mark a23.2).bind fun x32 =>
                         if (x30.toNat : Int) ≠ (x32.toNat : Int) then
                          k29 (IntKind.wrap .i64 (a23.1 + 1))
                         else
                          k29 a23.1
                       else
                        some (Stp.exit a23.1)) (0, 0)).bind fun a34 =>
                   jp (fun (a36 : Bool) =>
                     if a36 = true then
                      k22 a34
                     else
                      k22 a16.1)
                     fun k38 =>
                    if a16.1 < 0 then
                     k38 true
                    else
                     k38 (decide (a34 < a16.1))
                 else
                  some (Stp.exit a16.1)) (a8.1, 1)).bind fun a40 =>
             some (Stp.next (a40, IntKind.wrap .i64 (a8.2 + 1)))
            else none
           else none
          else
           some (Stp.exit a8.1)) ((-1), 0)) = some (minD (dists mark n l)) := by
  have hmx := maxB
  refine loop_is (fun i => (minD (dists mark n (l.take i)), (i : Int))) l.length _ (fun i hi => ?_) ?_ rfl
  · dsimp only
    have hu := hl _ (List.getElem_mem hi)
    rw [if_pos (lt_int hi), ix hi, Option.bind_some, if_pos (by omega), if_pos (by rw [List.length_append]; omega)]
    generalize hU : l[i] = u at hu
    have hW : (mark ++ u ++ mark).length = mark.length + n + mark.length := by rw [List.length_append, List.length_append, hu]
    have hst : ∀ a, dists mark n (l.take i) ++ (List.range a).map (fun a => ((hamW mark (mark ++ u ++ mark) (a + 1) : Nat) : Int)) = dists mark n (l.take i) ++ (List.range a).map (fun a => ((hamW mark (mark ++ u ++ mark) (a + 1) : Nat) : Int)) := fun _ => rfl
    refine bindL (loop_is (fun a => (minD (dists mark n (l.take i) ++ (List.range a).map (fun a => ((hamW mark (mark ++ u ++ mark) (a + 1) : Nat) : Int))), ((a + 1 : Nat) : Int))) (n + mark.length - 1) (minD (dists mark n (l.take (i + 1)))) (fun a ha => ?_) ?_ (by simp)) ?_
    · have hwn : IntKind.wrap .i64 ((n : Int) + (mark.length : Int)) = ((n + mark.length : Nat) : Int) := by rw [w64 (by omega) (by omega)]; omega
      unfold jp
      dsimp only
      rw [hwn, if_pos (by omega)]
      refine bindL (loop_is (fun j => (((hamC mark (mark ++ u ++ mark) (a + 1) j : Nat) : Int), (j : Int))) mark.length ((hamW mark (mark ++ u ++ mark) (a + 1) : Nat) : Int) (fun j hj => ?_) ?_ rfl) ?_
      · dsimp only
        have hle := hamC_le mark (mark ++ u ++ mark) (a + 1) j
        have hlt : a + 1 + j < (mark ++ u ++ mark).length := by omega
        have hw1 : IntKind.wrap .i64 (((a + 1 : Nat) : Int) + (j : Int)) = ((a + 1 + j : Nat) : Int) := by rw [w64 (by omega) (by omega)]; omega
        rw [if_pos (lt_int hj), hw1, ix hlt, Option.bind_some, ix hj, Option.bind_some, nx (n := mark.length) (i := j) (by omega) hj, hamC_succ]
        have e1 : (mark ++ u ++ mark).getD (a + 1 + j) 0 = (mark ++ u ++ mark)[a + 1 + j] := by rw [List.getD_eq_getElem?_getD, List.getElem?_eq_getElem hlt]; rfl
        have e2 : mark.getD j 0 = mark[j] := by rw [List.getD_eq_getElem?_getD, List.getElem?_eq_getElem hj]; rfl
        rw [e1, e2]
        by_cases hne : (mark ++ u ++ mark)[a + 1 + j] = mark[j]
        · rw [if_neg (fun h => h (by rw [hne])), if_neg (fun h => h hne)]
          rfl
        · rw [if_pos (fun h => hne (UInt8.toNat_inj.1 (by omega))), if_pos hne, nx (n := 1000) (by omega) (by omega)]
      · dsimp only
        rw [if_neg (not_lt_int _)]
        rfl
      · rw [nx (n := 1000) (by omega) (by omega), List.range_succ, List.map_append, ← List.append_assoc]
        have hstep : minD ((dists mark n (l.take i) ++ (List.range a).map (fun a => ((hamW mark (mark ++ u ++ mark) (a + 1) : Nat) : Int))) ++ [((hamW mark (mark ++ u ++ mark) (a + 1) : Nat) : Int)]) = updD (minD (dists mark n (l.take i) ++ (List.range a).map (fun a => ((hamW mark (mark ++ u ++ mark) (a + 1) : Nat) : Int)))) ((hamW mark (mark ++ u ++ mark) (a + 1) : Nat) : Int) := by
          unfold minD
          rw [List.foldl_append]
          rfl
        rw [show List.map (fun a => ((hamW mark (mark ++ u ++ mark) (a + 1) : Nat) : Int)) [a] = [((hamW mark (mark ++ u ++ mark) (a + 1) : Nat) : Int)] from rfl, hstep]
        generalize minD (dists mark n (l.take i) ++ (List.range a).map (fun a => ((hamW mark (mark ++ u ++ mark) (a + 1) : Nat) : Int))) = z
        unfold updD
        by_cases h0 : z < 0
        · rw [if_pos h0, if_pos rfl, if_pos (.inl h0)]
        · rw [if_neg h0]
          by_cases h2 : ((hamW mark (mark ++ u ++ mark) (a + 1) : Nat) : Int) < z
          · rw [if_pos (decide_eq_true h2), if_pos (.inr h2)]
          · rw [if_neg (by rw [decide_eq_true_eq]; exact h2), if_neg (by omega)]
    · dsimp only
      have hwn : IntKind.wrap .i64 ((n : Int) + (mark.length : Int)) = ((n + mark.length : Nat) : Int) := by rw [w64 (by omega) (by omega)]; omega
      rw [hwn, if_neg (by omega)]
      have : dists mark n (l.take (i + 1)) = dists mark n (l.take i) ++ (List.range (n + mark.length - 1)).map (fun a => ((hamW mark (mark ++ u ++ mark) (a + 1) : Nat) : Int)) := by
        unfold dists
        rw [flatMap_take _ hi, hU]
      rw [this]
    · rw [nx (n := l.length) (by omega) hi]
  · dsimp only
    rw [if_neg (not_lt_int _), List.take_length]
theorem Damaged_eq (h : MOk54 g mark) {n : Nat} (hn : n ≤ 12) {l : List (List UInt8)} (hw : m_language_Words g (n : Int) = some (l, 0)) (hl : ∀ u ∈ l, u.length = n) (hm : l.length ≤ 1000000) : m_syncmark_Damaged g mark (n : Int) = some (if dists mark n l = [] then (0, 5) else (minD (dists mark n l), 0)) := by
  obtain ⟨e, he, hz⟩ := check54_tot g mark
  unfold m_syncmark_Damaged
  rw [he, Option.bind_some, if_neg (by rw [hz.2 h]; decide)]
  have hL := Damaged_loop (mark := mark) h.2.2.2.1 hn hl hm
  unfold jp at hL ⊢
  dsimp only at hL ⊢
  rw [if_neg (by omega), if_neg (by rw [decide_eq_true_eq]; omega), hw, Option.bind_some, if_neg (by simp), hL, Option.bind_some]
  have := minD_nil (l := dists mark n l) dists_nn
  by_cases h0 : dists mark n l = []
  · rw [if_pos (this.2 h0), if_pos h0]
  · rw [if_neg (fun h' => h0 (this.1 h')), if_neg h0]
theorem words_length {g : Gr} {k : Nat} : ∀ u ∈ (allW (lets g) k).filter (accB g), u.length = k := fun u hu => (mem_allW.1 (List.mem_filter.1 hu).1).1
end
end Go.AW

/- The law of graphs with fewer edges. -/
namespace Go.AW
open Go
set_option linter.unusedVariables false
set_option linter.unusedSimpArgs false
theorem cmp3_trans {x y z : Ed} (h1 : cmp3 x y < 0) (h2 : cmp3 y z < 0) : cmp3 x z < 0 := by
  unfold cmp3 at *
  split at h1 <;> split at h2 <;> (repeat' split) <;> (try omega) <;> (repeat' (split at h1 <;> try omega)) <;> (repeat' (split at h2 <;> try omega))
section
variable {g : Gr}
def cutG (g : Gr) (i : Nat) : Gr := (g.1, g.2.1, g.2.2.take i ++ g.2.2.drop (i + 1))
theorem cutG_mem {i : Nat} {x : Ed} (h : x ∈ (cutG g i).2.2) : x ∈ g.2.2 := by
  rcases List.mem_append.1 h with h | h
  · exact List.mem_of_mem_take h
  · exact List.mem_of_mem_drop h
theorem cutG_get {i j : Nat} (hi : i < g.2.2.length) (hj : j < (cutG g i).2.2.length) : ∃ h : (if j < i then j else j + 1) < g.2.2.length, (cutG g i).2.2[j] = g.2.2[if j < i then j else j + 1] := by
  have hl : (cutG g i).2.2.length = g.2.2.length - 1 := by
    show (g.2.2.take i ++ g.2.2.drop (i + 1)).length = _
    rw [List.length_append, List.length_take, List.length_drop]; omega
  by_cases h : j < i
  · refine ⟨by rw [if_pos h]; omega, ?_⟩
    simp only [if_pos h]
    have h2 : (cutG g i).2.2[j]? = g.2.2[j]? := by
      show (g.2.2.take i ++ g.2.2.drop (i + 1))[j]? = _
      rw [List.getElem?_append_left (by rw [List.length_take]; omega), List.getElem?_take, if_pos h]
    rw [List.getElem?_eq_getElem hj, List.getElem?_eq_getElem (by omega)] at h2
    exact Option.some.inj h2
  · refine ⟨by rw [if_neg h]; omega, ?_⟩
    simp only [if_neg h]
    have hlt : (g.2.2.take i).length = i := by rw [List.length_take]; omega
    have h2 : (cutG g i).2.2[j]? = g.2.2[j + 1]? := by
      show (g.2.2.take i ++ g.2.2.drop (i + 1))[j]? = _
      rw [List.getElem?_append_right (by omega), hlt, List.getElem?_drop, show i + 1 + (j - i) = j + 1 by omega]
    rw [List.getElem?_eq_getElem hj, List.getElem?_eq_getElem (by omega)] at h2
    exact Option.some.inj h2
theorem cutG_ok (hv : VG g) {i : Nat} (hi : i < g.2.2.length) : VG (cutG g i) where
  l1 := hv.l1
  l2 := hv.l2
  s0 := hv.s0
  s1 := hv.s1
  el := by
    show (g.2.2.take i ++ g.2.2.drop (i + 1)).length ≤ _
    have := hv.el
    rw [List.length_append, List.length_take, List.length_drop]
    omega
  ed := fun x hx => hv.ed x (cutG_mem hx)
  ord := fun j hj => by
    obtain ⟨h1, e1⟩ := cutG_get hi (show j < _ by omega)
    obtain ⟨h2, e2⟩ := cutG_get hi hj
    rw [e1, e2]
    by_cases a : j + 1 < i
    · have h := hv.ord j (by omega)
      simp only [if_pos (show j < i by omega), if_pos a]
      exact h
    · by_cases b : j < i
      · have h := hv.ord j (by omega)
        have h' := hv.ord (j + 1) (by rw [if_neg a] at h2; exact h2)
        simp only [if_pos b, if_neg a]
        exact cmp3_trans h h'
      · have h := hv.ord (j + 1) (by rw [if_neg a] at h2; exact h2)
        simp only [if_neg b, if_neg a]
        exact h
theorem canR_cut (hv : VG g) {i : Nat} (hi : i < g.2.2.length) : ∀ (w : List UInt8) {s : Int}, 0 ≤ s → s < g.2.1 → canR (cutG g i) w s → canR g w s
  | [], s, h0, h1, _ => canR_nil h0 h1
  | c :: w, s, h0, h1, h => by
    obtain ⟨x, hx, e1, e2, e3⟩ := (canR_cons (g := cutG g i) h0 h1).1 h
    have hxg := cutG_mem hx
    obtain ⟨_, _, a1, a2, _⟩ := hv.ed x hxg
    exact (canR_cons h0 h1).2 ⟨x, hxg, e1, e2, canR_cut hv hi w a1 a2 e3⟩
theorem acc_cut (hv : VG g) {i : Nat} (hi : i < g.2.2.length) {w : List UInt8} (h : accB (cutG g i) w = true) : accB g w = true := by
  unfold accB at *
  rw [decide_eq_true_eq] at *
  rw [can_iff (cutG_ok hv hi) w (upto_ok (cutG g i))] at h
  rw [can_iff hv w (upto_ok g)]
  obtain ⟨s, hs, hc⟩ := h
  obtain ⟨s0, s1⟩ := mem_upto.1 hs
  exact ⟨s, mem_upto.2 ⟨s0, s1⟩, canR_cut hv hi w s0 s1 hc⟩
theorem words_cut (hv : VG g) {i : Nat} (hi : i < g.2.2.length) {k : Nat} : ∀ w ∈ (allW (lets (cutG g i)) k).filter (accB (cutG g i)), w ∈ (allW (lets g) k).filter (accB g) := fun w hw => by
  obtain ⟨h1, h2⟩ := List.mem_filter.1 hw
  exact List.mem_filter.2 ⟨h1, acc_cut hv hi h2⟩
theorem law54_parts (g : Gr) (mark : List UInt8) (p q : Int) (a0 : 0 ≤ p) (a1 : p ≤ 255) (b0 : 0 ≤ q) (b1 : q ≤ 255) : m_law54_SyncmarkParts g mark p q = some true := by
  obtain ⟨b, hb, hb2⟩ := fine54_tot g mark
  obtain ⟨k, hk, hkp⟩ := kmod a0 a1
  unfold m_law54_SyncmarkParts jp
  dsimp only
  rw [hb, Option.bind_some]
  cases b with
  | false => rw [if_pos (by decide), if_pos rfl]; rfl
  | true =>
    obtain ⟨hM, h3, h6, h8, h30⟩ := hb2 rfl
    have hv := hM.1
    rw [if_neg (by decide)]
    by_cases hE : (g.2.2.length : Int) = 0
    · rw [if_pos (decide_eq_true hE)]; rfl
    rw [if_neg (by rw [decide_eq_true_eq]; exact hE), if_pos hE]
    obtain ⟨i, hi, hiq⟩ : ∃ i : Nat, i < g.2.2.length ∧ Int.tmod (IntKind.wrap .i64 q) (g.2.2.length : Int) = (i : Int) := by
      rw [w64 (by omega) (by omega), Int.tmod_eq_emod_of_nonneg b0]
      have h1 := Int.emod_nonneg q hE
      have h2 := Int.emod_lt_of_pos q (show 0 < (g.2.2.length : Int) by omega)
      exact ⟨(q % (g.2.2.length : Int)).toNat, by omega, by omega⟩
    have hcl : m_slices_Clone_Lapi_Edge_api_Edge g.2.2 = some g.2.2 := by
      unfold m_slices_Clone_Lapi_Edge_api_Edge
      rw [if_pos (by omega)]
    rw [hcl, Option.bind_some, hiq, hkp, nx (n := g.2.2.length) (by omega) hi, if_pos ⟨Int.natCast_nonneg _, by omega, by omega⟩, Int.toNat_natCast, Int.toNat_natCast]
    rw [show (g.1, g.2.1, (g.2.2.take i ++ g.2.2.drop (i + 1))) = cutG g i from rfl]
    have hv2 := cutG_ok hv hi
    have hM2 : MOk54 (cutG g i) mark := ⟨hv2, hM.2.1, hM.2.2.1, hM.2.2.2.1, hM.2.2.2.2⟩
    have hg3 : (cutG g i).1 ≤ 3 := h3
    have hwl := words_len hv h3 hk
    have hwl2 := words_len hv2 hg3 hk
    have hD := Damaged_eq hM (n := k) (by omega) (Words54 hv h3 hk) words_length (by omega)
    have hD2 := Damaged_eq hM2 (n := k) (by omega) (Words54 hv2 hg3 hk) words_length (by omega)
    have hsub : ∀ x ∈ dists mark k ((allW (lets (cutG g i)) k).filter (accB (cutG g i))), x ∈ dists mark k ((allW (lets g) k).filter (accB g)) := fun x hx => by
      obtain ⟨u, hu, hx⟩ := List.mem_flatMap.1 hx
      exact List.mem_flatMap.2 ⟨u, words_cut hv hi u hu, hx⟩
    rw [Valid_eq hM (by omega), Valid_eq hM2 (by omega), hD, hD2, Option.bind_some, Option.bind_some, Option.bind_some, Option.bind_some]
    dsimp only
    rw [if_neg (by simp), if_neg (by simp)]
    have hval : ∀ r : Option Bool, (if decide (badsW g mark k = []) = true then (if (!decide (badsW (cutG g i) mark k = [])) = true then some false else r) else r) = r := fun r => by
      by_cases h1 : badsW g mark k = []
      · have h2 : badsW (cutG g i) mark k = [] := by
          refine List.eq_nil_iff_forall_not_mem.2 fun u hu => ?_
          obtain ⟨hu1, hu2⟩ := List.mem_filter.1 hu
          have : u ∈ badsW g mark k := List.mem_filter.2 ⟨words_cut hv hi u hu1, hu2⟩
          rw [h1] at this
          cases this
        rw [if_pos (decide_eq_true h1), decide_eq_true h2]
        rfl
      · rw [if_neg (by rw [decide_eq_true_eq]; exact h1)]
    refine (hval _).trans ?_
    by_cases n1 : dists mark k ((allW (lets g) k).filter (accB g)) = []
    · have n2 : dists mark k ((allW (lets (cutG g i)) k).filter (accB (cutG g i))) = [] := List.eq_nil_iff_forall_not_mem.2 fun x hx => by
        have := hsub x hx
        rw [n1] at this
        cases this
      rw [if_pos n1, if_pos n2]
      rfl
    · rw [if_neg n1]
      by_cases n2 : dists mark k ((allW (lets (cutG g i)) k).filter (accB (cutG g i))) = []
      · rw [if_pos n2]
        rfl
      · rw [if_neg n2]
        have m1 := (minD_mem dists_nn n1).2 _ (hsub _ (minD_mem dists_nn n2).1)
        dsimp only
        rw [if_neg (by simp), if_neg (by simp), if_pos m1]
        rfl
end
end Go.AW

namespace Go.AW
open Go Go.ChangeShapes Go.WideShapes Go.ChangeAt Go.RowKit

def Kept (W W' : World) : Prop := W'.os = W.os ∧ W'.output = W.output ∧ W.heap.size ≤ W'.heap.size ∧ ∀ b : Nat, b < W.heap.size → W'.heap[b]? = W.heap[b]?

theorem Kept.frame {W W' : World} (h : Kept W W') (may : MemPlace → Prop) : W.keptBut W' may := by
  refine ⟨h.1, h.2.1, fun i hi => ?_⟩
  rw [h.2.2.2 i hi]
  cases W.heap[i]? with
  | none => rfl
  | some o => cases o with
    | cells c t fr => exact ⟨rfl, rfl, rfl, fun _ _ => rfl⟩
    | map es clock => exact .inr ⟨rfl, rfl⟩
    | _ => rfl

theorem Kept.frozen {W W' : World} (h : Kept W W') (a : Addr) (ha : a.block < W.heap.size) : W'.frozen? a = W.frozen? a := by
  simp only [World.frozen?, h.2.2.2 _ ha]

def Mu.zero : Mu := { nx := 0, loc := fun _ => none, held := fun _ => False }

theorem SR.zero (W : World) : SR W Mu.zero [] :=
  ⟨(fun _ _ _ h => by cases h), (fun _ _ _ h => by cases h), (fun _ _ h => by cases h), (fun _ _ _ _ _ h => by cases h), (fun _ h => h.elim)⟩

theorem calls_of_pure {P : Program} {f : FuncId} {args : List HV} {vs : List Value} {W : World} (hp : Pure P f args (· = .bool true)) (hr : RepL W Mu.zero args vs) (hgl : GlOk W Mu.zero := by exact fun _ h => by cases h) :
    Calls P f vs.toArray W fun e W' => e = .returned (.bool true) ∧ Kept W W' := by
  refine (hp.2 Mu.zero W vs (SR.zero W) hr hgl).mono ?_
  rintro e W' ⟨v, r, H', μ', rfl, ⟨rfl, _, _⟩, hs, hv, E⟩
  have hv' : v = .bool true := hv
  subst hv'
  exact ⟨rfl, E.os, E.output, E.size, fun b hb => E.keep b hb fun ⟨_, _, hl⟩ => by cases hl⟩

theorem rep_string {W : World} {μ : Mu} (s : ByteArray) (h : s.size ≤ maxLen) : Rep W μ (.str s.data.toList) (.string s) := by
  refine ⟨by cases s; simp, ?_⟩
  have : s.data.toList.length = s.size := by simp
  omega

theorem post_of_kept {H : Type} {enc : TypeId × Value → H} {P : Program} {f : Func} {s : ChangeSpec} {apart fresh handsOn again : Bool} {W W' : World} {args : Array Value} {v : Value} {ds gs : List (DataW H)} {before pa pv : List MemPlace}
    (hW : DataW.Whole enc P f.params.toList s.vars apart W args.toList ds gs before)
    (hres : ∀ (b : Nat) (sp : Nat → Bool) (hd : Bool), DataW.TrodAll enc P W' b sp hd f.resultTypes.toList (v.resultList f.resultTypes.size) (s.fn H (ds ++ gs)).results [])
    (hargs : ∀ sp : Nat → Bool, (∀ p ∈ before, sp p.block = true) → DataW.TrodAll enc P W' 0 sp true f.params.toList args.toList (s.fn H (ds ++ gs)).args pa)
    (hvars : ∀ sp : Nat → Bool, (∀ p ∈ before, sp p.block = true) → DataW.TrodVars enc P W' sp s.vars (s.fn H (ds ++ gs)).vars pv)
    (hps : before = pa ++ pv) (hk : Kept W W')
    (hok : ∀ (j : Nat) (t : TypeId) (r : Value), f.resultTypes[j]? = some t → (v.resultList f.resultTypes.size)[j]? = some r → Value.okWide P W' .any 0 t r) :
    s.post enc P f apart fresh handsOn again W args v W' := by
  have hold : ∀ p ∈ before, (fun b => decide (b < W.heap.size)) p.block = true := fun p hp => by simpa using hW.lt p hp
  refine ⟨ds, gs, before, [], pa, pv, hW, hres _ _ _, hargs _ hold, hvars _ hold, World.keptBut_mono (fun p hp => ⟨hp, ?_⟩) (hk.frame (· ∈ before)), fun _ => ?_⟩
  · rw [hps, List.mem_append] at hp
    exact Or.inr hp
  · have hlt := hW.lt
    obtain ⟨_, _, _, _, _, hz, hn⟩ := hW
    refine ⟨hok, _, _, ([] ++ pa) ++ pv, ⟨[] ++ pa, pv, trodAll_append (hargs _ (fun _ _ => rfl)) (hres _ _ _), hvars _ (fun _ _ => rfl), rfl, ?_, ?_⟩, ?_⟩
    · intro b off hp
      have hp' : MemPlace.cell b off ∈ before := by rw [hps]; simpa using hp
      rw [hk.frozen _ (hlt _ hp')]
      exact hz b off hp'
    · intro ha
      have := hn ha
      rw [hps] at this
      simpa using this
    · intro p hp _
      rw [hps]
      simpa using hp
end Go.AW

/- Arguments: from what is read of them to what the layer says of them; and the law's end for any arguments. -/
namespace Go.AW
open Go Go.ChangeShapes Go.WideShapes Go.ChangeAt Go.RowKit

theorem rowAt_le {p : Program} {fits : TypeId → Bool} {d : Nat} {e : TypeId} {count off n : Nat} (h : rowAt p fits d e count off n = true) : off ≤ count * p.cellsOf e := by
  cases d with
  | zero => simp [rowAt] at h
  | succ d =>
    unfold rowAt at h
    simp only at h
    split at h
    · cases h
    · rename_i hs
      have hs' : 0 < p.cellsOf e := Nat.pos_of_ne_zero hs
      have hd := Nat.div_add_mod off (p.cellsOf e)
      rw [Nat.mul_comm] at hd
      simp only [Bool.or_eq_true, Bool.and_eq_true, beq_iff_eq, decide_eq_true_eq] at h
      rcases h with ⟨⟨h0, h1⟩, _⟩ | ⟨h1, _⟩
      · rw [← hd, h0, Nat.add_zero]
        exact Nat.mul_le_mul_right _ (by omega)
      · have hm := Nat.mod_lt off hs'
        have : (off / p.cellsOf e + 1) * p.cellsOf e ≤ count * p.cellsOf e := Nat.mul_le_mul_right _ h1
        rw [Nat.add_mul] at this
        omega

theorem liesAt_le {p : Program} {d : Nat} {e u : TypeId} {count off n : Nat} (h : liesAt p d e count off u n = true) : off ≤ count * p.cellsOf e := by
  induction d generalizing u n with
  | zero => simp [liesAt] at h
  | succ d ih =>
    unfold liesAt at h
    rw [Bool.or_eq_true] at h
    rcases h with h | h
    · exact rowAt_le h
    · split at h
      · exact ih h
      · cases h

theorem has_seg {P : Program} {W : World} {r : Reach} {base : Nat} {a : Addr} {e : TypeId} {cap : Nat} (h : W.has P r base a e cap) {vs : List Value} (hc : ∀ i (hi : i < vs.length), W.cell? (a.add i) = some vs[i]) :
    ∃ b off, a = ⟨b, off, none⟩ ∧ Seg W b off vs := by
  obtain ⟨_, hsp, row, cells, hsh, hl⟩ := h
  obtain ⟨b, off, spot⟩ := a
  dsimp only at hsp hsh hl
  subst hsp
  refine ⟨b, off, rfl, ?_⟩
  unfold World.shape? at hsh
  split at hsh
  · rename_i cur e' fr hb
    simp only [Option.some.injEq, Prod.mk.injEq] at hsh
    obtain ⟨rfl, rfl⟩ := hsh
    have hoff : off ≤ cur.size := Nat.le_trans (liesAt_le hl) (Nat.div_mul_le_self _ _)
    have hget : ∀ i (hi : i < vs.length), cur.toList[off + i]? = some vs[i] := fun i hi => by
      have := hc i hi
      rw [add_plain] at this
      unfold World.cell? at this
      rw [hb] at this
      simpa using this
    refine ⟨cur, e', fr, cur.toList.take off, cur.toList.drop (off + vs.length), hb, ?_, by simp [hoff]⟩
    have hvs : vs = (cur.toList.drop off).take vs.length := by
      apply List.ext_getElem?
      intro i
      rcases Nat.lt_or_ge i vs.length with hi | hi
      · rw [List.getElem?_take_of_lt hi, List.getElem?_drop, hget i hi, List.getElem?_eq_getElem hi]
      · rw [List.getElem?_eq_none hi, List.getElem?_eq_none (by simp; omega)]
    have : vs ++ cur.toList.drop (off + vs.length) = cur.toList.drop off := by
      conv => lhs; arg 1; rw [hvs]
      rw [← List.drop_drop]
      exact List.take_append_drop _ _
    rw [List.append_assoc, this, List.take_append_drop]
  · cases hsh

theorem nown (b : Nat) : ¬ Mu.zero.owns b := fun h => h.elim (fun ⟨_, _, h⟩ => by cases h) id

theorem open_num {H : Type} {enc : TypeId × Value → H} {P : Program} {W : World} {base : Nat} {t : TypeId} {k : IntKind} {v : Value} {d : DataW H} {ps : List MemPlace} (ht : P.underlying t = some (.int k))
    (hval : Value.okWide P W .any base t v) (h : DataW.Trod enc P W 0 (fun _ => true) true t v d ps) : ∃ n : Int, (Lit.int k n).wf = true ∧ Rep W Mu.zero (.int k n) v := by
  obtain ⟨n, rfl, _, _, hw⟩ := open_int ht hval h
  exact ⟨n, hw, rfl, hw⟩

theorem open_u8 {H : Type} {enc : TypeId × Value → H} {P : Program} {W : World} {base : Nat} {t : TypeId} {v : Value} {d : DataW H} {ps : List MemPlace} (ht : P.underlying t = some (.int .u8))
    (hval : Value.okWide P W .any base t v) (h : DataW.Trod enc P W 0 (fun _ => true) true t v d ps) : ∃ b : UInt8, Rep W Mu.zero (.int .u8 (b.toNat : Int)) v := by
  obtain ⟨n, hw, hr⟩ := open_num ht hval h
  have hw' : (0 : Int) ≤ n ∧ n ≤ 255 := by
    simp only [Lit.wf, Bool.and_eq_true, decide_eq_true_eq] at hw
    exact hw
  refine ⟨UInt8.ofNat n.toNat, ?_⟩
  have : ((UInt8.ofNat n.toNat).toNat : Int) = n := by
    rw [UInt8.toNat_ofNat']
    omega
  rw [this]
  exact hr

theorem trodAll_stays {H : Type} {enc : TypeId × Value → H} {P : Program} (hl : laidOutB P = true) {W W' : World} {sp : Nat → Bool} : ∀ {ts : List TypeId} {vs : List Value} {ds : List (DataW H)} {ps : List MemPlace},
    (ts.all fun t => P.readableRec t && decide (t < P.types.size)) = true → DataW.TrodAll enc P W 0 (fun _ => true) true ts vs ds ps → (∀ p ∈ ps, W.sameAt W' p) → (∀ p ∈ ps, sp p.block = true) → DataW.TrodAll enc P W' 0 sp true ts vs ds ps
  | [], vs, ds, ps, _, h, _, _ => by
    obtain ⟨rfl, rfl, rfl⟩ := trodAll_nil h
    exact trodAll_mk0
  | t :: ts, vs, ds, ps, ht, h, h1, h2 => by
    obtain ⟨v, vs', d, ds', p, q, rfl, rfl, rfl, h3, h4⟩ := trodAll_cons h
    simp only [List.all_cons, Bool.and_eq_true, decide_eq_true_eq] at ht
    exact trodAll_cons_mk (WideElems.Trod_stays hl ht.1.1 ht.1.2 h3 (fun x hx => h1 x (List.mem_append_left _ hx)) (fun x hx => h2 x (List.mem_append_left _ hx)))
      (trodAll_stays hl ht.2 h4 (fun x hx => h1 x (List.mem_append_right _ hx)) (fun x hx => h2 x (List.mem_append_right _ hx)))

theorem Kept.same {W W' : World} (h : Kept W W') (p : MemPlace) (hp : p.block < W.heap.size) : W.sameAt W' p := by
  cases p with
  | cell b off =>
    show W'.cell? ⟨b, off, none⟩ = W.cell? ⟨b, off, none⟩
    unfold World.cell?
    rw [h.2.2.2 b hp]
  | map b => exact h.2.2.2 b hp

theorem post_of_true {H : Type} {enc : TypeId × Value → H} {P : Program} {f : Func} {s : ChangeSpec} {apart fresh handsOn again : Bool} {W W' : World} {args : Array Value} {ds gs : List (DataW H)} {before : List MemPlace} {t : TypeId}
    (hl : laidOutB P = true) (hps : (f.params.toList.all fun t => P.readableRec t && decide (t < P.types.size)) = true) (hres : f.resultTypes = #[t]) (ht : P.underlying t = some .bool) (hv : s.vars = [])
    (hW : DataW.Whole enc P f.params.toList s.vars apart W args.toList ds gs before) (hk : Kept W W')
    (h1 : (s.fn H (ds ++ gs)).results = [.lit (.bool true)]) (h2 : (s.fn H (ds ++ gs)).args = ds) (h3 : (s.fn H (ds ++ gs)).vars = []) :
    s.post enc P f apart fresh handsOn again W args (.bool true) W' := by
  have hlt := hW.lt
  have hW' := hW
  obtain ⟨p, q, hA, hV, rfl, _, _⟩ := hW
  rw [hv] at hV
  obtain ⟨rfl, rfl⟩ := trodVars_none hV
  refine post_of_kept (pa := p) (pv := []) hW' (fun _ _ _ => ?_) (fun sp hsp => ?_) (fun _ _ => ?_) (by simp) hk (ok_one hres rfl (okWide_bool_mk ht _))
  · rw [hres, h1]
    exact trodAll_cons_mk (shut_bool ht _) trodAll_mk0
  · rw [h2]
    exact trodAll_stays hl hps hA (fun x hx => hk.same x (hlt x (by simpa using hx))) (fun x hx => hsp x (by simpa using hx))
  · rw [h3, hv]
    rfl
end Go.AW

/- Arguments that are graphs: what is read of them, and what the layer says of them. -/
namespace Go.AW
open Go Go.ChangeShapes Go.WideShapes Go.ChangeAt Go.RowKit

section
variable {H : Type} {enc : TypeId × Value → H} {P : Program} {W : World} {base : Nat}

theorem repL_app {μ : Mu} : ∀ {hs ks : List HV} {vs us : List Value}, RepL W μ hs vs → RepL W μ ks us → RepL W μ (hs ++ ks) (vs ++ us)
  | [], _, _, _, h, h' => by cases h; exact h'
  | _ :: _, _, _, _, ⟨x, xs, rfl, h1, h2⟩, h' => ⟨x, _, rfl, h1, repL_app h2 h'⟩

theorem add_adds (a : Addr) (i j : Nat) : (a.add i).add j = a.add (i + j) := by
  unfold Addr.add
  repeat' split
  all_goals simp_all [Nat.add_assoc]

theorem open_rows {α : Type} (c : EncL α) {fuel : Nat} {t e : TypeId} {cs : List Value} {x : DataW H × List MemPlace} (ht : P.underlying t = some (.slice e)) (hk : P.cellsOf e = c.k) (hone : ∀ x, ones (c.C x))
    (hel : ∀ n cs y, DataW.trod enc P W 0 (fun _ => true) true n e cs = some y → ∃ x : α, RepL W Mu.zero (c.C x) cs)
    (hhas : ∀ a len cap, cs = [.slice (some a) len cap] → W.has P .any base a e cap) (h : DataW.trod enc P W 0 (fun _ => true) true fuel t cs = some x) : ∃ l : List α, RepL W Mu.zero [slE c l] cs := by
  rcases DataW.trod_slice ht h with ⟨rfl, _⟩ | ⟨a, len, cap, elems, rest, n, _, rfl, _, _, hl, hm, hlen, hel', _, _⟩
  · refine ⟨[], _, _, rfl, ?_, rfl⟩
    show _ ∧ _
    exact ⟨(by rw [c.nil]; exact fun _ h => nomatch h), (by rw [c.nil]; simp), Nat.zero_le _, .inl ⟨rfl, rfl⟩⟩
  · have each : ∀ i, i < len → ∃ cs' x, W.cells? 0 (a.add (i * c.k)) c.k = some cs' ∧ RepL W Mu.zero (c.C x) cs' := fun i hi => by
      have h1 := hel' i hi
      rw [List.getElem?_eq_getElem (by omega), Option.bind_eq_some_iff, hk] at h1
      obtain ⟨cs', h2, h3⟩ := h1
      obtain ⟨x, hx⟩ := hel _ _ _ h3
      exact ⟨cs', x, h2, hx⟩
    have build : ∀ m, m ≤ len → ∃ (l : List α) (vs : List Value), l.length = m ∧ vs.length = m * c.k ∧ RepL W Mu.zero (c.E l) vs ∧ ∀ i (hi : i < vs.length), W.cell? (a.add i) = some vs[i] := by
      intro m
      induction m with
      | zero => exact fun _ => ⟨[], [], rfl, by simp, by rw [c.nil]; rfl, fun i hi => by simp at hi⟩
      | succ m ih =>
        intro hm
        obtain ⟨l, vs, h1, h2, h3, h4⟩ := ih (by omega)
        obtain ⟨cs', x, h5, h6⟩ := each m (by omega)
        obtain ⟨_, h7, h8⟩ := World.cells?_some h5
        refine ⟨l ++ [x], vs ++ cs', by simp [h1], by rw [List.length_append, h2, h7, Nat.succ_mul], by rw [c.append, c.one]; exact repL_app h3 h6, fun i hi => ?_⟩
        rcases Nat.lt_or_ge i vs.length with hi' | hi'
        · rw [List.getElem_append_left hi']; exact h4 i hi'
        · rw [List.getElem_append_right hi']
          rw [List.length_append] at hi
          have := h8 (i - vs.length) (by omega)
          rw [add_adds, h2, show m * c.k + (i - m * c.k) = i by omega] at this
          rw [this, List.getElem?_eq_getElem (by omega)]
          simp only [h2]
    obtain ⟨l, vs, h1, h2, h3, h4⟩ := build len (Nat.le_refl _)
    obtain ⟨b, off, rfl, hseg⟩ := has_seg (hhas _ _ _ rfl) h4
    refine ⟨l, _, _, rfl, ?_, rfl⟩
    show _ ∧ _
    refine ⟨fun d hd => ?_, c.len l, by omega, .inr ⟨b, off, cap, vs, by rw [h1], by omega, nown b, hseg, h3⟩⟩
    rw [c.hE] at hd
    obtain ⟨x, _, hdx⟩ := List.mem_flatMap.1 hd
    exact hone x d hdx

theorem open3 {t : TypeId} {f0 f1 f2 : Field} {fuel : Nat} {cs : List Value} {x : DataW H × List MemPlace} (ht : P.underlying t = some (.struct #[f0, f1, f2])) (o0 : f0.offset = 0) (o1 : f1.offset = 1) (o2 : f2.offset = 2) (c : P.cellsOf t = 3)
    (c0 : P.cellsOf f0.type = 1) (c1 : P.cellsOf f1.type = 1) (c2 : P.cellsOf f2.type = 1) (h : DataW.trod enc P W 0 (fun _ => true) true fuel t cs = some x) :
    ∃ v0 v1 v2 y0 y1 y2 n, cs = [v0, v1, v2] ∧ DataW.trod enc P W 0 (fun _ => true) true n f0.type [v0] = some y0 ∧ DataW.trod enc P W 0 (fun _ => true) true n f1.type [v1] = some y1 ∧ DataW.trod enc P W 0 (fun _ => true) true n f2.type [v2] = some y2 := by
  obtain ⟨xs, n, _, rfl, hl, hlen, hf⟩ := DataW.trod_struct ht h
  rw [c] at hl
  match cs, hl with
  | [v0, v1, v2], _ =>
    match xs, hlen with
    | [y0, y1, y2], _ =>
      refine ⟨v0, v1, v2, y0, y1, y2, n, rfl, ?_, ?_, ?_⟩
      · have := hf 0 f0 rfl; rw [o0, c0] at this; exact this
      · have := hf 1 f1 rfl; rw [o1, c1] at this; exact this
      · have := hf 2 f2 rfl; rw [o2, c2] at this; exact this

theorem rep_i64 {n : Int} {ti : TypeId} {m : Nat} {v : Value} {y : DataW H × List MemPlace} (hti : P.underlying ti = some (.int .i64)) (h : DataW.trod enc P W 0 (fun _ => true) true m ti [v] = some y) : ∃ n : Int, Rep W Mu.zero (.int .i64 n) v := by
  obtain ⟨n, hv, _, hw⟩ := DataW.trod_int hti h
  cases hv
  exact ⟨n, rfl, hw⟩

theorem open_graph {t ti ts te : TypeId} {f0 f1 f2 e0 e1 e2 : Field} {v : Value} {d : DataW H} {ps : List MemPlace} (ht : P.underlying t = some (.struct #[f0, f1, f2])) (o : f0.offset = 0 ∧ f1.offset = 1 ∧ f2.offset = 2) (y : f0.type = ti ∧ f1.type = ti ∧ f2.type = ts)
    (c : P.cellsOf t = 3) (ci : P.cellsOf ti = 1) (cs : P.cellsOf ts = 1) (ct : P.cellTypes P.depth t = some [ti, ti, ts]) (hti : P.underlying ti = some (.int .i64)) (hts : P.underlying ts = some (.slice te))
    (hte : P.underlying te = some (.struct #[e0, e1, e2])) (oe : e0.offset = 0 ∧ e1.offset = 1 ∧ e2.offset = 2) (ye : e0.type = ti ∧ e1.type = ti ∧ e2.type = ti) (ce : P.cellsOf te = 3)
    (hval : Value.okWide P W .any base t v) (h : DataW.Trod enc P W 0 (fun _ => true) true t v d ps) : ∃ g : TLabelsStatesEdges, Rep W Mu.zero (.agg [.int .i64 g.1, .int .i64 g.2.1, slE eFromLabelTo g.2.2]) v := by
  obtain ⟨y0, y1, y2⟩ := y
  obtain ⟨z0, z1, z2⟩ := ye
  simp only [Value.okWide, ht] at hval
  obtain ⟨arr, rfl, _, hrow⟩ := hval
  obtain ⟨fuel, hf⟩ := h
  obtain ⟨v0, v1, v2, a0, a1, a2, n, hcs, h0, h1, h2⟩ := open3 ht o.1 o.2.1 o.2.2 c (by rw [y0]; exact ci) (by rw [y1]; exact ci) (by rw [y2]; exact cs) hf
  have harr : arr = #[v0, v1, v2] := by
    have : arr.toList = [v0, v1, v2] := hcs
    cases arr
    simp_all
  subst harr
  rw [y0] at h0
  rw [y1] at h1
  rw [y2] at h2
  obtain ⟨l, r0⟩ := rep_i64 (n := 0) hti h0
  obtain ⟨s, r1⟩ := rep_i64 (n := 0) hti h1
  obtain ⟨es, _, _, r2, r2', r2''⟩ := open_rows (base := base) eFromLabelTo hts ce (fun x d hd => by
      have hd : d ∈ [HV.int .i64 x.1, HV.int .i64 x.2.1, HV.int .i64 x.2.2] := hd
      simp only [List.mem_cons, List.not_mem_nil, or_false] at hd
      rcases hd with rfl | rfl | rfl <;> rfl) (fun m cs' y hy => by
      obtain ⟨w0, w1, w2, b0, b1, b2, n', rfl, k0, k1, k2⟩ := open3 hte oe.1 oe.2.1 oe.2.2 ce (by rw [z0]; exact ci) (by rw [z1]; exact ci) (by rw [z2]; exact ci) hy
      rw [z0] at k0
      rw [z1] at k1
      rw [z2] at k2
      obtain ⟨p0, q0⟩ := rep_i64 (n := 0) hti k0
      obtain ⟨p1, q1⟩ := rep_i64 (n := 0) hti k1
      obtain ⟨p2, q2⟩ := rep_i64 (n := 0) hti k2
      exact ⟨(p0, p1, p2), _, _, rfl, q0, _, _, rfl, q1, _, _, rfl, q2, rfl⟩) (fun a len cap e => by
      cases e
      obtain ⟨tys, ht1, _, hcell⟩ := hrow
      rw [ct] at ht1
      cases ht1
      obtain ⟨u, hu, hok⟩ := hcell 2 (.slice (some a) len cap) rfl
      cases hu
      simp only [Cell.okWide, hts, Cell.ok] at hok
      exact hok.2.2) h2
  cases r2
  refine ⟨(l, s, es), ?_⟩
  show _ ∧ _
  refine ⟨fun d hd => ?_, _, rfl, _, _, rfl, r0, _, _, rfl, r1, _, _, rfl, r2', rfl⟩
  simp only [List.mem_cons, List.not_mem_nil, or_false] at hd
  rcases hd with rfl | rfl | rfl <;> rfl
end
end Go.AW

/- Arguments that are lists of numbers. -/
namespace Go.AW
open Go Go.ChangeShapes Go.WideShapes Go.ChangeAt Go.RowKit
section
variable {H : Type} {enc : TypeId × Value → H} {P : Program} {W : World} {base : Nat}
end
end Go.AW

/- Arguments that are lists of bytes. -/
namespace Go.AW
open Go Go.ChangeShapes Go.WideShapes Go.ChangeAt Go.RowKit
section
variable {H : Type} {enc : TypeId × Value → H} {P : Program} {W : World} {base : Nat}
end
end Go.AW

/- A parameter that is a struct of two lists of strings. -/
namespace Go.AW
open Go Go.ChangeShapes Go.WideShapes Go.ChangeAt Go.RowKit
section
variable {H : Type} {enc : TypeId × Value → H} {P : Program} {W : World} {base : Nat}
end
end Go.AW

namespace Go.Proofs.YtnjepajbbkejeaaGreat
open Go Go.AW Go.ChangeShapes Go.WideShapes Go.ChangeAt Go.RowKit Go.ChangeMaps
set_option linter.unusedVariables false

theorem ownM : ownKnob Tryz.prog.godebug = none := by kernel_rfl
theorem laidB : laidOutB Tryz.prog = true := by kernel_rfl

theorem wLaw (a0 : TLabelsStatesEdges) (a1 : List UInt8) (a2 : UInt8) (a3 : UInt8) : Pure Tryz.prog 6 [HV.agg [HV.int .i64 a0.1, HV.int .i64 a0.2.1, slE eFromLabelTo a0.2.2], .str a1, .int .u8 a2.toNat, .int .u8 a3.toNat] (· = .bool true) := w_law54_SyncmarkParts (law54_parts a0 a1 a2.toNat a3.toNat (Int.natCast_nonneg _) (by have := a2.toNat_lt; omega) (Int.natCast_nonneg _) (by have := a3.toNat_lt; omega))

set_option maxRecDepth 100000 in
theorem liftedL (os : Os) (started : os.Started) (H : Type) (enc : TypeId × Value → H) :
    ReturnsInHanded {} Tryz.checked os 6 .any (Rows.syncmarkPartsSpec.pre6 enc Tryz.prog Tryz.f6 Rows.syncmarkPartsRow.domain false) (Rows.syncmarkPartsSpec.post enc Tryz.prog Tryz.f6 false true false false) := by
  refine returnsInHanded_of_change_shaped (C := Tryz.checked) ownM started (by kernel_rfl) Tryz.func6
    (ChangeSpec.witness6 (enc := enc) (C := Tryz.checked) false ⟨#[], #[.agg #[.int .i64 0, .int .i64 0, .slice none 0 0], .string ⟨#[]⟩, .int .u8 0, .int .u8 0], []⟩ 8 (by kernel_rfl) (by kernel_rfl) (by kernel_rfl) (by kernel_rfl)) ?_
  intro W base args ds gs before hval0 hW hcnd _ hsh _
  have hval : ∀ (j : Nat) t v, Tryz.f6.params[j]? = some t → args[j]? = some v → Value.okWide Tryz.prog W .any base t v := hval0
  have hW' := hW
  obtain ⟨p, q, hA0, hV, rfl, hfz, hnd⟩ := hW
  have hA : DataW.TrodAll enc Tryz.prog W 0 (fun _ => true) true Tryz.f6.params.toList args.toList ds p := hA0
  rw [Tryz.params6] at hA hval
  obtain ⟨v0, vs0, d0, ds0, p0, q0, hargs, rfl, rfl, h0, r0⟩ := trodAll_cons hA
  obtain ⟨v1, vs1, d1, ds1, p1, q1, rfl, rfl, rfl, h1, r1⟩ := trodAll_cons r0
  obtain ⟨v2, vs2, d2, ds2, p2, q2, rfl, rfl, rfl, h2, r2⟩ := trodAll_cons r1
  obtain ⟨v3, vs3, d3, ds3, p3, q3, rfl, rfl, rfl, h3, r3⟩ := trodAll_cons r2
  obtain ⟨rfl, rfl, rfl⟩ := trodAll_nil r3
  obtain rfl : args = #[v0, v1, v2, v3] := by cases args; simp_all
  obtain ⟨rfl, rfl⟩ := trodVars_none hV
  obtain ⟨a0, hr0⟩ := open_graph Tryz.underlying24 ⟨rfl, rfl, rfl⟩ ⟨rfl, rfl, rfl⟩ (by kernel_rfl) (by kernel_rfl) (by kernel_rfl) (by kernel_rfl) Tryz.underlying3 Tryz.underlying22 Tryz.underlying44 ⟨rfl, rfl, rfl⟩ ⟨rfl, rfl, rfl⟩ (by kernel_rfl) (hval 0 24 v0 rfl rfl) h0
  obtain ⟨s1, rfl, _, _, l1⟩ := open_string Tryz.underlying9 (hval 1 9 v1 rfl rfl) h1
  obtain ⟨a2, hr2⟩ := open_u8 Tryz.underlying5 (hval 2 5 v2 rfl rfl) h2
  obtain ⟨a3, hr3⟩ := open_u8 Tryz.underlying5 (hval 3 5 v3 rfl rfl) h3
  have hgl : GlOk W Mu.zero := fun g hg => by
    obtain rfl : g = 0 := by simpa [gNos] using hg
    exact ⟨Tryz.index.s1_3 W hsh, fun ⟨_, _, h⟩ => by cases h⟩
  refine (calls_of_pure (hgl := hgl) (vs := [v0, .string s1, v2, v3]) (wLaw a0 s1.data.toList a2 a3) ⟨_, _, rfl, hr0, _, _, rfl, rep_string s1 l1, _, _, rfl, hr2, _, _, rfl, hr3, rfl⟩).mono fun e W' ⟨he, hk⟩ => ?_
  subst he
  exact ⟨_, rfl, post_of_true laidB (by kernel_rfl) rfl Tryz.underlying4 rfl hW' hk rfl rfl rfl⟩

theorem syncmarkPartsProved : Rows.SyncmarkPartsSaid :=
  OpenClaim.holds_of_wide 6 Tryz.f6 rfl rfl rfl rfl rfl rfl rfl ⟨rfl, rfl, rfl, rfl, rfl⟩ rfl rfl rfl rfl rfl (by kernel_rfl) Tryz.func6 (by kernel_rfl)
    (of_decide_eq_true (by kernel_rfl)) (by unfold Func.isWrapper; first | (rw [if_pos (by decide +kernel)]; kernel_rfl) | (rw [if_neg (by decide +kernel)]; exact ⟨rfl, rfl⟩))
    (fun os started H enc _ => liftedL os started H enc)
#print axioms syncmarkPartsProved
end Go.Proofs.YtnjepajbbkejeaaGreat
