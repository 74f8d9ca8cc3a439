/- MergingRates: for every input the law's function returns true, and the input reads as it did. -/
import Derived.Test.YtlddcjolelmpmaaGreatRa6
import Derived.ChangeMaps5
import Derived.OpenShut
import Derived.ProofKit
import Derived.SliceStrings
import Derived.Test.YtlddcjolelmpmaaGreatRows
import Derived.WalkKit
import Derived.WideKeyArgs
/- Models, printed by lk.py. -/
namespace Go.AW
open Go
set_option linter.unusedVariables false
noncomputable def m_ref31_Great (p0 : TWordsMerges) : Option (Bool) :=
 jp (fun (a1 : Bool) =>
   if a1 = true then
    some true
   else
    lpO (loopW (S := Int) (X := Ou (Unit) (Bool)) (fun a4 =>
        if a4 < ((p0.1).length : Int) then
         jp (fun (a8 : Bool) =>
           if a8 = true then
            some (Stp.exit (Ou.ret true))
           else
            some (Stp.next (IntKind.wrap .i64 (a4 + 1))))
           fun k10 =>
          (idx p0.1 a4).bind fun x11 =>
          if 8 < ((x11).length : Int) then
           (idx p0.1 a4).bind fun x13 =>
           if ((x13).length : Int) ≤ 16 then
            k10 true
           else
            (idx p0.1 a4).bind fun x15 =>
            k10 (decide (20 < ((x15).length : Int)))
          else
           (idx p0.1 a4).bind fun x18 =>
           k10 (decide (20 < ((x18).length : Int)))
        else
         some (Stp.exit (Ou.go ()))) 0) (fun a21 =>
        lpO (loopW (S := Int) (X := Ou (Unit) (Bool)) (fun a23 =>
            if a23 < ((p0.2).length : Int) then
             jp (fun (a27 : Bool) =>
               if a27 = true then
                some (Stp.exit (Ou.ret true))
               else
                some (Stp.next (IntKind.wrap .i64 (a23 + 1))))
               fun k29 =>
              (idx p0.2 a23).bind fun x30 =>
              if 8 < ((x30).length : Int) then
               (idx p0.2 a23).bind fun x32 =>
               if ((x32).length : Int) ≤ 16 then
                k29 true
               else
                (idx p0.2 a23).bind fun x34 =>
                k29 (decide (20 < ((x34).length : Int)))
              else
               (idx p0.2 a23).bind fun x37 =>
               k29 (decide (20 < ((x37).length : Int)))
            else
             some (Stp.exit (Ou.go ()))) 0) (fun a40 =>
            some false) some) some)
   fun k3 =>
  if 6 < ((p0.1).length : Int) then
   if ((p0.1).length : Int) ≤ 256 then
    k3 true
   else
    if 8 < ((p0.2).length : Int) then
     if ((p0.2).length : Int) ≤ 256 then
      k3 true
     else
      if 259 < ((p0.1).length : Int) then
       k3 true
      else
       k3 (decide (259 < ((p0.2).length : Int)))
    else
     if 259 < ((p0.1).length : Int) then
      k3 true
     else
      k3 (decide (259 < ((p0.2).length : Int)))
  else
   if 8 < ((p0.2).length : Int) then
    if ((p0.2).length : Int) ≤ 256 then
     k3 true
    else
     if 259 < ((p0.1).length : Int) then
      k3 true
     else
      k3 (decide (259 < ((p0.2).length : Int)))
   else
    if 259 < ((p0.1).length : Int) then
     k3 true
    else
     k3 (decide (259 < ((p0.2).length : Int)))

noncomputable def m_rational_canonical (p0 : TNumDen) : Option (TNumDen) :=
 (m_rational_lowest (p0.1.1, p0.1.2) (p0.2.1, p0.2.2)).bind fun x2 =>
 some x2

noncomputable def m_integer_multiply (p0 : List (Int)) (p1 : List (Int)) : Option ((List (Int))) :=
 jp (fun (a1 : Bool) =>
   if a1 = true then
    some []
   else
    if 0 ≤ (IntKind.wrap .i64 (((p0).length : Int) + ((p1).length : Int)) : Int) ∧ (IntKind.wrap .i64 (((p0).length : Int) + ((p1).length : Int)) : Int) ≤ IntKind.wrap .i64 (((p0).length : Int) + ((p1).length : Int)) ∧ (IntKind.wrap .i64 (((p0).length : Int) + ((p1).length : Int)) : Int) * 4 ≤ 281474976710656 then
     (loopW (S := Int × (List Int)) (X := (List Int)) (fun a6 =>
         if a6.1 < ((p0).length : Int) then
          (idx p0 a6.1).bind fun x10 =>
          (loopW (S := Int × Int × (List Int)) (X := (List Int) × Int) (fun a12 =>
              if a12.2.1 < ((p1).length : Int) then
               (idx p1 a12.2.1).bind fun x16 =>
               (idx a12.2.2 (IntKind.wrap .i64 (a6.1 + a12.2.1))).bind fun x18 =>
               (idx a12.2.2 (IntKind.wrap .i64 (a6.1 + a12.2.1))).bind fun x20 =>
               (idx a12.2.2 (IntKind.wrap .i64 (a6.1 + a12.2.1))).bind fun x22 =>
               some (Stp.next (Int.fdiv (IntKind.wrap .u64 ((IntKind.wrap .u64 ((IntKind.wrap .u64 ((IntKind.wrap .u64 x10) * (IntKind.wrap .u64 x16))) + (IntKind.wrap .u64 x20))) + a12.1)) (2 ^ (min (32 : Int).toNat (IntKind.bits .u64))), IntKind.wrap .i64 (a12.2.1 + 1), (a12.2.2).set (IntKind.wrap .i64 (a6.1 + a12.2.1)).toNat (IntKind.wrap .u32 (IntKind.wrap .u64 ((IntKind.wrap .u64 ((IntKind.wrap .u64 ((IntKind.wrap .u64 x10) * (IntKind.wrap .u64 x16))) + (IntKind.wrap .u64 x20))) + a12.1)))))
              else
               some (Stp.exit (a12.2.2, a12.1))) (0, 0, a6.2)).bind fun a24 =>
          (idx a24.1 (IntKind.wrap .i64 (a6.1 + ((p1).length : Int)))).bind fun x26 =>
          some (Stp.next (IntKind.wrap .i64 (a6.1 + 1), (a24.1).set (IntKind.wrap .i64 (a6.1 + ((p1).length : Int))).toNat (IntKind.wrap .u32 a24.2)))
         else
          some (Stp.exit a6.2)) (0, List.replicate (IntKind.wrap .i64 (((p0).length : Int) + ((p1).length : Int))).toNat (0 : Int))).bind fun a28 =>
     (m_integer_trim a28).bind fun x30 =>
     some x30
    else none)
   fun k3 =>
  if ((p0).length : Int) = 0 then
   k3 true
  else
   k3 (decide (((p1).length : Int) = 0))

noncomputable def m_integer_Mul (p0 : TNegMag) (p1 : TNegMag) : Option (TNegMag) :=
 (m_integer_digits p0).bind fun x2 =>
 (m_integer_digits p1).bind fun x4 =>
 (m_integer_multiply x2 x4).bind fun x6 =>
 (m_integer_number (!(p0.1 == p1.1)) x6).bind fun x8 =>
 some x8

noncomputable def m_rational_Compare (p0 : TNumDen) (p1 : TNumDen) : Option (Int) :=
 (m_rational_canonical p0).bind fun x3 =>
 (m_rational_canonical p1).bind fun x5 =>
 (m_integer_Mul (x3.1.1, x3.1.2) (x5.2.1, x5.2.2)).bind fun x7 =>
 (m_integer_Mul (x5.1.1, x5.1.2) (x3.2.1, x3.2.2)).bind fun x9 =>
 (m_integer_Compare x7 x9).bind fun x11 =>
 some x11

noncomputable def m_rational_Of (p0 : TNegMag) : Option (TNumDen) :=
 (m_integer_Of 1).bind fun x2 =>
 (m_rational_lowest p0 x2).bind fun x4 =>
 some x4

noncomputable def m_law31_MergingRates (p0 : TWordsMerges) : Option (Bool) :=
 (m_ref31_Great p0).bind fun x1 =>
 if x1 = true then
  (m_law31_awake).bind fun x3 =>
  some x3
 else
  (m_merging_Rate p0).bind fun x5 =>
  if x5.2 ≠ 0 then
   jp (fun (a8 : Bool) =>
     some a8)
     fun k10 =>
    if x5.1 = ((false, ([] : List UInt8)), (false, ([] : List UInt8))) then
     (m_law31_awake).bind fun x11 =>
     k10 x11
    else
     k10 false
  else
   jp (fun (a14 : Bool) =>
     if a14 = true then
      some false
     else
      (idx p0.1 0).bind fun x17 =>
      (idx p0.2 0).bind fun x19 =>
      lpO (loopW (S := Int) (X := Ou (Unit) (Bool)) (fun a21 =>
          if a21 < 9 then
           (m_rational_Ratio a21 (IntKind.wrap .i64 (((x17).length : Int) + ((x19).length : Int)))).bind fun x25 =>
           jp (fun (a28 : Bool) =>
             if a28 = true then
              jp (fun (a31 : Bool) =>
                some (Stp.exit (Ou.ret a31)))
                fun k33 =>
               if 0 ≤ a21 then
                if (IntKind.wrap .i64 (1 * 2 ^ (min (a21).toNat (IntKind.bits .i64)))) ≤ ((p0.1).length : Int) then
                 if 0 ≤ a21 then
                  if ((p0.1).length : Int) < (IntKind.wrap .i64 (2 * 2 ^ (min (a21).toNat (IntKind.bits .i64)))) then
                   (m_integer_Of 1).bind fun x36 =>
                   (m_rational_Of x36).bind fun x38 =>
                   (m_rational_Compare x5.1 x38).bind fun x40 =>
                   if x40 ≤ 0 then
                    (m_law31_awake).bind fun x42 =>
                    k33 x42
                   else
                    k33 false
                  else
                   k33 false
                 else none
                else
                 k33 false
               else none
             else
              some (Stp.next (IntKind.wrap .i64 (a21 + 1))))
             fun k30 =>
            if x25.2 = 0 then
             k30 (decide (x25.1 = x5.1))
            else
             k30 false
          else
           some (Stp.exit (Ou.go ()))) 0) (fun a48 =>
          some false) some)
     fun k16 =>
    if ((p0.1).length : Int) = 0 then
     k16 true
    else
     k16 (decide (((p0.2).length : Int) = 0))

end Go.AW

namespace Go.AW
open Go Go.Proofs
set_option linter.unusedVariables false
set_option maxHeartbeats 1600000 in
set_option maxRecDepth 100000 in
theorem w_ref31_Great {p0 : TWordsMerges} {r : Bool} (h : m_ref31_Great p0 = some r) : Pure Tryz.prog 18 [HV.agg [slE eStr p0.1, slE eStr p0.2]] (· = HV.bool r) := by
 unfold m_ref31_Great at h
 refine Pure.of_body Tryz.func18 rfl rfl (Nat.le_of_ble_eq_true rfl) fun hf => ?_
 unfold Tryz.f18
 dsimp only [enumS, Nat.reduceAdd]
 refine AW.rgs rfl fun K hK => ?_
 refine b_op rfl (o_box rfl rfl rfl ?_)
 refine mv rfl rfl ?_
 refine b_fin hK (s' := ⟨[(1, HV.fptr [slE eStr p0.1, slE eStr p0.2] 0)], []⟩) (le_q rfl rfl) ?_
 clear hK K
 refine AW.seq ?_
 refine AW.seqJ h (S := Bool) (V := Unit) (fun a v => ⟨[(1, HV.fptr [slE eStr p0.1, slE eStr p0.2] 0), (38, HV.bool a)], []⟩) (fun a1 w2 h => ?_) (fun k3 h => ?_)
 ·refine AW.cond rfl (fun hc => ?_) (fun hc => ?_)
  ·have h := ifT hc h
   refine AW.rgs rfl fun K hK => ?_
   refine mv rfl rfl ?_
   refine b_fin hK (s' := ⟨[(2, HV.bool true)], []⟩) (le_q rfl rfl) ?_
   clear hK K
   refine AW.ret ?_
   have h := Option.some.inj h
   subst h
   exact ret_pure (hs := [HV.bool true]) (q := HV.bool true) (.inr rfl) (resT rfl rfl) rfl trivial
  have h := ifF (bF' hc) h
  refine AW.skip ?_
  refine AW.seq ?_
  refine AW.rgs rfl fun K hK => ?_
  refine mv rfl rfl ?_
  refine b_fin hK (s' := ⟨[(1, HV.fptr [slE eStr p0.1, slE eStr p0.2] 0), (3, HV.int .i64 0)], []⟩) (le_q rfl rfl) ?_
  clear hK K
  refine AW.lpR h (by first | exact up_then | exact up_to) (S := Int) (V := Unit) (fun a v => ⟨[(1, HV.fptr [slE eStr p0.1, slE eStr p0.2] 0), (3, HV.int .i64 a)], []⟩) ?_ (X := Unit) (W := Unit) (fun a v => ⟨[(1, HV.fptr [slE eStr p0.1, slE eStr p0.2] 0)], []⟩) (fun a21 w22 h => ?_) (fun a4 w5 st6 h hr7=> ?_)
  ·exact to_le (s' := ⟨[(1, HV.fptr [slE eStr p0.1, slE eStr p0.2] 0), (3, HV.int .i64 0)], []⟩) (AS.le_of ⟨rfl, rfl, trivial⟩ trivial) ⟨(), rfl⟩
  ·refine AW.seq ?_
   refine AW.rgs rfl fun K hK => ?_
   refine mv rfl rfl ?_
   refine b_fin hK (s' := ⟨[(1, HV.fptr [slE eStr p0.1, slE eStr p0.2] 0), (4, HV.int .i64 0)], []⟩) (le_q rfl rfl) ?_
   clear hK K
   refine AW.lpR h (by first | exact up_then | exact up_to) (S := Int) (V := Unit) (fun a v => ⟨[(1, HV.fptr [slE eStr p0.1, slE eStr p0.2] 0), (4, HV.int .i64 a)], []⟩) ?_ (X := Unit) (W := Unit) (fun a v => ⟨[], []⟩) (fun a40 w41 h => ?_) (fun a23 w24 st25 h hr26=> ?_)
   ·exact to_le (s' := ⟨[(1, HV.fptr [slE eStr p0.1, slE eStr p0.2] 0), (4, HV.int .i64 0)], []⟩) (AS.le_of ⟨rfl, rfl, trivial⟩ trivial) ⟨(), rfl⟩
   ·refine AW.rgs rfl fun K hK => ?_
    refine mv rfl rfl ?_
    refine b_fin hK (s' := ⟨[(2, HV.bool false)], []⟩) (le_q rfl rfl) ?_
    clear hK K
    refine AW.ret ?_
    have h := Option.some.inj h
    subst h
    exact ret_pure (hs := [HV.bool false]) (q := HV.bool false) (.inr rfl) (resT rfl rfl) rfl trivial
   refine AW.seq ?_
   refine AW.rgs rfl fun K hK => ?_
   refine mv rfl rfl ?_
   refine bv rfl (v_fieldAddrF fo24_1 rfl) ?_
   refine bv rfl (v_loadF ty22 rfl (l_lit rfl rfl)) ?_
   refine bv rfl (v_lenF rfl rfl ty22 rfl) ?_
   refine bv rfl (v_bin rfl rfl b_lss) ?_
   refine b_fin hK (s' := ⟨[(1, HV.fptr [slE eStr p0.1, slE eStr p0.2] 0), (4, HV.int .i64 a23), (75, HV.bool (decide (a23 < ((p0.2).length : Int))))], []⟩) (le_q rfl rfl) ?_
   clear hK K
   refine AW.cond rfl (fun hc => ?_) (fun hc => ?_)
   ·have hc := of_decide_eq_true hc
    have h := ifT hc h
    refine AW.skip ?_
    refine AW.seq (AW.block ?_)
    refine AW.seqJ h (S := Bool) (V := Unit) (fun a v => ⟨[(1, HV.fptr [slE eStr p0.1, slE eStr p0.2] 0), (4, HV.int .i64 a23), (102, HV.bool a)], []⟩) (fun a27 w28 h => ?_) (fun k29 h => ?_)
    ·refine AW.cond rfl (fun hc => ?_) (fun hc => ?_)
     ·have h := ifT hc h
      refine AW.rgs rfl fun K hK => ?_
      refine mv rfl rfl ?_
      refine b_fin hK (s' := ⟨[(2, HV.bool true)], []⟩) (le_q rfl rfl) ?_
      clear hK K
      have h := hr26 _ h
      refine AW.ret ?_
      have h := Option.some.inj h
      subst h
      exact ret_pure (hs := [HV.bool true]) (q := HV.bool true) (.inr rfl) (resT rfl rfl) rfl trivial
     have h := ifF (bF' hc) h
     refine AW.skip ?_
     refine AW.rg rfl fun K hK => ?_
     refine mv rfl rfl ?_
     refine bv rfl (v_bin rfl rfl b_add) ?_
     refine mv rfl rfl ?_
     refine b_nil (hK _ ?_)
     clear hK K
     exact to_le (s' := ⟨[(1, HV.fptr [slE eStr p0.1, slE eStr p0.2] 0), (4, HV.int .i64 (IntKind.wrap .i64 (a23 + 1)))], []⟩) (AS.le_of ⟨rfl, rfl, trivial⟩ trivial) ⟨IntKind.wrap .i64 (a23 + 1), (), h, rfl⟩
    refine AW.rg rfl fun K hK => ?_
    refine bv rfl (v_fieldAddrF fo24_1 rfl) ?_
    refine bv rfl (v_loadF ty22 rfl (l_lit rfl rfl)) ?_
    refine mv rfl rfl ?_
    obtain ⟨x30, h31, h⟩ := bS h
    refine bv rfl (v_idxF ty22 es22 rfl rfl (idx_lt h31)) ?_
    refine bv rfl (v_loadF ty9 rfl (l_cell eStr h31 (o := 0) rfl rfl)) ?_
    refine bv rfl (v_lenS rfl rfl ty9 rfl) ?_
    refine bv rfl (v_bin rfl rfl b_gtr) ?_
    refine mv rfl rfl ?_
    by_cases hg39 : 8 < ((x30).length : Int)
    ·have h := ifT hg39 h
     refine b_T rfl rfl rfl rfl (decide_eq_true hg39) (o_val rfl (v_fieldAddrF fo24_1 rfl) ?_)
     refine b_T rfl rfl rfl rfl rfl (o_val rfl (v_loadF ty22 rfl (l_lit rfl rfl)) ?_)
     refine b_T rfl rfl rfl rfl rfl (o_val rfl (mv_val rfl rfl).2 ?_)
     obtain ⟨x32, h33, h⟩ := bS h
     refine b_T rfl rfl rfl rfl rfl (o_val rfl (v_idxF ty22 es22 rfl rfl (idx_lt h33)) ?_)
     refine b_T rfl rfl rfl rfl rfl (o_val rfl (v_loadF ty9 rfl (l_cell eStr h33 (o := 0) rfl rfl)) ?_)
     refine b_T rfl rfl rfl rfl rfl (o_val rfl (v_lenS rfl rfl ty9 rfl) ?_)
     refine b_T rfl rfl rfl rfl rfl (o_val rfl (v_bin rfl rfl b_leq) ?_)
     refine bv rfl (v_pickT rfl rfl rfl) ?_
     refine mv rfl rfl ?_
     by_cases hg36 : ((x32).length : Int) ≤ 16
     ·have h := ifT hg36 h
      refine b_F rfl rfl rfl rfl rfl (decide_eq_true hg36) ?_
      refine b_F rfl rfl rfl rfl rfl rfl ?_
      refine b_F rfl rfl rfl rfl rfl rfl ?_
      refine b_F rfl rfl rfl rfl rfl rfl ?_
      refine b_F rfl rfl rfl rfl rfl rfl ?_
      refine b_F rfl rfl rfl rfl rfl rfl ?_
      refine b_F rfl rfl rfl rfl rfl rfl ?_
      refine bv rfl (v_pickT rfl rfl rfl) ?_
      refine b_nil (hK _ ?_)
      clear hK K
      exact to_le (s' := ⟨[(1, HV.fptr [slE eStr p0.1, slE eStr p0.2] 0), (4, HV.int .i64 a23), (102, HV.bool true)], []⟩) (AS.le_of ⟨rfl, rfl, rfl, trivial⟩ trivial) ⟨true, (), h, rfl⟩
     have h := ifF hg36 h
     refine b_T rfl rfl rfl rfl (decide_eq_false hg36) (o_val rfl (v_fieldAddrF fo24_1 rfl) ?_)
     refine b_T rfl rfl rfl rfl rfl (o_val rfl (v_loadF ty22 rfl (l_lit rfl rfl)) ?_)
     refine b_T rfl rfl rfl rfl rfl (o_val rfl (mv_val rfl rfl).2 ?_)
     obtain ⟨x34, h35, h⟩ := bS h
     refine b_T rfl rfl rfl rfl rfl (o_val rfl (v_idxF ty22 es22 rfl rfl (idx_lt h35)) ?_)
     refine b_T rfl rfl rfl rfl rfl (o_val rfl (v_loadF ty9 rfl (l_cell eStr h35 (o := 0) rfl rfl)) ?_)
     refine b_T rfl rfl rfl rfl rfl (o_val rfl (v_lenS rfl rfl ty9 rfl) ?_)
     refine b_T rfl rfl rfl rfl rfl (o_val rfl (v_bin rfl rfl b_gtr) ?_)
     refine bv rfl (v_pickF rfl rfl rfl) ?_
     refine b_nil (hK _ ?_)
     clear hK K
     exact to_le (s' := ⟨[(1, HV.fptr [slE eStr p0.1, slE eStr p0.2] 0), (4, HV.int .i64 a23), (102, HV.bool (decide (20 < ((x34).length : Int))))], []⟩) (AS.le_of ⟨rfl, rfl, rfl, trivial⟩ trivial) ⟨decide (20 < ((x34).length : Int)), (), h, rfl⟩
    have h := ifF hg39 h
    refine b_F rfl rfl rfl rfl rfl (decide_eq_false hg39) ?_
    refine b_F rfl rfl rfl rfl rfl rfl ?_
    refine b_F rfl rfl rfl rfl rfl rfl ?_
    refine b_F rfl rfl rfl rfl rfl rfl ?_
    refine b_F rfl rfl rfl rfl rfl rfl ?_
    refine b_F rfl rfl rfl rfl rfl rfl ?_
    refine b_F rfl rfl rfl rfl rfl rfl ?_
    refine bv rfl (v_pickF rfl rfl rfl) ?_
    refine mv rfl rfl ?_
    refine b_T rfl rfl rfl rfl rfl (o_val rfl (v_fieldAddrF fo24_1 rfl) ?_)
    refine b_T rfl rfl rfl rfl rfl (o_val rfl (v_loadF ty22 rfl (l_lit rfl rfl)) ?_)
    refine b_T rfl rfl rfl rfl rfl (o_val rfl (mv_val rfl rfl).2 ?_)
    obtain ⟨x37, h38, h⟩ := bS h
    refine b_T rfl rfl rfl rfl rfl (o_val rfl (v_idxF ty22 es22 rfl rfl (idx_lt h38)) ?_)
    refine b_T rfl rfl rfl rfl rfl (o_val rfl (v_loadF ty9 rfl (l_cell eStr h38 (o := 0) rfl rfl)) ?_)
    refine b_T rfl rfl rfl rfl rfl (o_val rfl (v_lenS rfl rfl ty9 rfl) ?_)
    refine b_T rfl rfl rfl rfl rfl (o_val rfl (v_bin rfl rfl b_gtr) ?_)
    refine bv rfl (v_pickF rfl rfl rfl) ?_
    refine b_nil (hK _ ?_)
    clear hK K
    exact to_le (s' := ⟨[(1, HV.fptr [slE eStr p0.1, slE eStr p0.2] 0), (4, HV.int .i64 a23), (102, HV.bool (decide (20 < ((x37).length : Int))))], []⟩) (AS.le_of ⟨rfl, rfl, rfl, trivial⟩ trivial) ⟨decide (20 < ((x37).length : Int)), (), h, rfl⟩
   have hc := of_decide_eq_false hc
   have h := ifF hc h
   refine AW.exit ?_
   exact to_le (s' := ⟨[], []⟩) (AS.le_of trivial trivial) ⟨(), (), h, rfl⟩
  refine AW.seq ?_
  refine AW.rgs rfl fun K hK => ?_
  refine mv rfl rfl ?_
  refine bv rfl (v_fieldAddrF fo24_0 rfl) ?_
  refine bv rfl (v_loadF ty22 rfl (l_lit rfl rfl)) ?_
  refine bv rfl (v_lenF rfl rfl ty22 rfl) ?_
  refine bv rfl (v_bin rfl rfl b_lss) ?_
  refine b_fin hK (s' := ⟨[(1, HV.fptr [slE eStr p0.1, slE eStr p0.2] 0), (3, HV.int .i64 a4), (43, HV.bool (decide (a4 < ((p0.1).length : Int))))], []⟩) (le_q rfl rfl) ?_
  clear hK K
  refine AW.cond rfl (fun hc => ?_) (fun hc => ?_)
  ·have hc := of_decide_eq_true hc
   have h := ifT hc h
   refine AW.skip ?_
   refine AW.seq (AW.block ?_)
   refine AW.seqJ h (S := Bool) (V := Unit) (fun a v => ⟨[(1, HV.fptr [slE eStr p0.1, slE eStr p0.2] 0), (3, HV.int .i64 a4), (70, HV.bool a)], []⟩) (fun a8 w9 h => ?_) (fun k10 h => ?_)
   ·refine AW.cond rfl (fun hc => ?_) (fun hc => ?_)
    ·have h := ifT hc h
     refine AW.rgs rfl fun K hK => ?_
     refine mv rfl rfl ?_
     refine b_fin hK (s' := ⟨[(2, HV.bool true)], []⟩) (le_q rfl rfl) ?_
     clear hK K
     have h := hr7 _ h
     refine AW.ret ?_
     have h := Option.some.inj h
     subst h
     exact ret_pure (hs := [HV.bool true]) (q := HV.bool true) (.inr rfl) (resT rfl rfl) rfl trivial
    have h := ifF (bF' hc) h
    refine AW.skip ?_
    refine AW.rg rfl fun K hK => ?_
    refine mv rfl rfl ?_
    refine bv rfl (v_bin rfl rfl b_add) ?_
    refine mv rfl rfl ?_
    refine b_nil (hK _ ?_)
    clear hK K
    exact to_le (s' := ⟨[(1, HV.fptr [slE eStr p0.1, slE eStr p0.2] 0), (3, HV.int .i64 (IntKind.wrap .i64 (a4 + 1)))], []⟩) (AS.le_of ⟨rfl, rfl, trivial⟩ trivial) ⟨IntKind.wrap .i64 (a4 + 1), (), h, rfl⟩
   refine AW.rg rfl fun K hK => ?_
   refine bv rfl (v_fieldAddrF fo24_0 rfl) ?_
   refine bv rfl (v_loadF ty22 rfl (l_lit rfl rfl)) ?_
   refine mv rfl rfl ?_
   obtain ⟨x11, h12, h⟩ := bS h
   refine bv rfl (v_idxF ty22 es22 rfl rfl (idx_lt h12)) ?_
   refine bv rfl (v_loadF ty9 rfl (l_cell eStr h12 (o := 0) rfl rfl)) ?_
   refine bv rfl (v_lenS rfl rfl ty9 rfl) ?_
   refine bv rfl (v_bin rfl rfl b_gtr) ?_
   refine mv rfl rfl ?_
   by_cases hg20 : 8 < ((x11).length : Int)
   ·have h := ifT hg20 h
    refine b_T rfl rfl rfl rfl (decide_eq_true hg20) (o_val rfl (v_fieldAddrF fo24_0 rfl) ?_)
    refine b_T rfl rfl rfl rfl rfl (o_val rfl (v_loadF ty22 rfl (l_lit rfl rfl)) ?_)
    refine b_T rfl rfl rfl rfl rfl (o_val rfl (mv_val rfl rfl).2 ?_)
    obtain ⟨x13, h14, h⟩ := bS h
    refine b_T rfl rfl rfl rfl rfl (o_val rfl (v_idxF ty22 es22 rfl rfl (idx_lt h14)) ?_)
    refine b_T rfl rfl rfl rfl rfl (o_val rfl (v_loadF ty9 rfl (l_cell eStr h14 (o := 0) rfl rfl)) ?_)
    refine b_T rfl rfl rfl rfl rfl (o_val rfl (v_lenS rfl rfl ty9 rfl) ?_)
    refine b_T rfl rfl rfl rfl rfl (o_val rfl (v_bin rfl rfl b_leq) ?_)
    refine bv rfl (v_pickT rfl rfl rfl) ?_
    refine mv rfl rfl ?_
    by_cases hg17 : ((x13).length : Int) ≤ 16
    ·have h := ifT hg17 h
     refine b_F rfl rfl rfl rfl rfl (decide_eq_true hg17) ?_
     refine b_F rfl rfl rfl rfl rfl rfl ?_
     refine b_F rfl rfl rfl rfl rfl rfl ?_
     refine b_F rfl rfl rfl rfl rfl rfl ?_
     refine b_F rfl rfl rfl rfl rfl rfl ?_
     refine b_F rfl rfl rfl rfl rfl rfl ?_
     refine b_F rfl rfl rfl rfl rfl rfl ?_
     refine bv rfl (v_pickT rfl rfl rfl) ?_
     refine b_nil (hK _ ?_)
     clear hK K
     exact to_le (s' := ⟨[(1, HV.fptr [slE eStr p0.1, slE eStr p0.2] 0), (3, HV.int .i64 a4), (70, HV.bool true)], []⟩) (AS.le_of ⟨rfl, rfl, rfl, trivial⟩ trivial) ⟨true, (), h, rfl⟩
    have h := ifF hg17 h
    refine b_T rfl rfl rfl rfl (decide_eq_false hg17) (o_val rfl (v_fieldAddrF fo24_0 rfl) ?_)
    refine b_T rfl rfl rfl rfl rfl (o_val rfl (v_loadF ty22 rfl (l_lit rfl rfl)) ?_)
    refine b_T rfl rfl rfl rfl rfl (o_val rfl (mv_val rfl rfl).2 ?_)
    obtain ⟨x15, h16, h⟩ := bS h
    refine b_T rfl rfl rfl rfl rfl (o_val rfl (v_idxF ty22 es22 rfl rfl (idx_lt h16)) ?_)
    refine b_T rfl rfl rfl rfl rfl (o_val rfl (v_loadF ty9 rfl (l_cell eStr h16 (o := 0) rfl rfl)) ?_)
    refine b_T rfl rfl rfl rfl rfl (o_val rfl (v_lenS rfl rfl ty9 rfl) ?_)
    refine b_T rfl rfl rfl rfl rfl (o_val rfl (v_bin rfl rfl b_gtr) ?_)
    refine bv rfl (v_pickF rfl rfl rfl) ?_
    refine b_nil (hK _ ?_)
    clear hK K
    exact to_le (s' := ⟨[(1, HV.fptr [slE eStr p0.1, slE eStr p0.2] 0), (3, HV.int .i64 a4), (70, HV.bool (decide (20 < ((x15).length : Int))))], []⟩) (AS.le_of ⟨rfl, rfl, rfl, trivial⟩ trivial) ⟨decide (20 < ((x15).length : Int)), (), h, rfl⟩
   have h := ifF hg20 h
   refine b_F rfl rfl rfl rfl rfl (decide_eq_false hg20) ?_
   refine b_F rfl rfl rfl rfl rfl rfl ?_
   refine b_F rfl rfl rfl rfl rfl rfl ?_
   refine b_F rfl rfl rfl rfl rfl rfl ?_
   refine b_F rfl rfl rfl rfl rfl rfl ?_
   refine b_F rfl rfl rfl rfl rfl rfl ?_
   refine b_F rfl rfl rfl rfl rfl rfl ?_
   refine bv rfl (v_pickF rfl rfl rfl) ?_
   refine mv rfl rfl ?_
   refine b_T rfl rfl rfl rfl rfl (o_val rfl (v_fieldAddrF fo24_0 rfl) ?_)
   refine b_T rfl rfl rfl rfl rfl (o_val rfl (v_loadF ty22 rfl (l_lit rfl rfl)) ?_)
   refine b_T rfl rfl rfl rfl rfl (o_val rfl (mv_val rfl rfl).2 ?_)
   obtain ⟨x18, h19, h⟩ := bS h
   refine b_T rfl rfl rfl rfl rfl (o_val rfl (v_idxF ty22 es22 rfl rfl (idx_lt h19)) ?_)
   refine b_T rfl rfl rfl rfl rfl (o_val rfl (v_loadF ty9 rfl (l_cell eStr h19 (o := 0) rfl rfl)) ?_)
   refine b_T rfl rfl rfl rfl rfl (o_val rfl (v_lenS rfl rfl ty9 rfl) ?_)
   refine b_T rfl rfl rfl rfl rfl (o_val rfl (v_bin rfl rfl b_gtr) ?_)
   refine bv rfl (v_pickF rfl rfl rfl) ?_
   refine b_nil (hK _ ?_)
   clear hK K
   exact to_le (s' := ⟨[(1, HV.fptr [slE eStr p0.1, slE eStr p0.2] 0), (3, HV.int .i64 a4), (70, HV.bool (decide (20 < ((x18).length : Int))))], []⟩) (AS.le_of ⟨rfl, rfl, rfl, trivial⟩ trivial) ⟨decide (20 < ((x18).length : Int)), (), h, rfl⟩
  have hc := of_decide_eq_false hc
  have h := ifF hc h
  refine AW.exit ?_
  exact to_le (s' := ⟨[(1, HV.fptr [slE eStr p0.1, slE eStr p0.2] 0)], []⟩) (AS.le_of ⟨rfl, trivial⟩ trivial) ⟨(), (), h, rfl⟩
 refine AW.rg rfl fun K hK => ?_
 refine bv rfl (v_fieldAddrF fo24_0 rfl) ?_
 refine bv rfl (v_loadF ty22 rfl (l_lit rfl rfl)) ?_
 refine bv rfl (v_lenF rfl rfl ty22 rfl) ?_
 refine bv rfl (v_bin rfl rfl b_gtr) ?_
 refine mv rfl rfl ?_
 by_cases hg51 : 6 < ((p0.1).length : Int)
 ·have h := ifT hg51 h
  refine b_T rfl rfl rfl rfl (decide_eq_true hg51) (o_val rfl (v_fieldAddrF fo24_0 rfl) ?_)
  refine b_T rfl rfl rfl rfl rfl (o_val rfl (v_loadF ty22 rfl (l_lit rfl rfl)) ?_)
  refine b_T rfl rfl rfl rfl rfl (o_val rfl (v_lenF rfl rfl ty22 rfl) ?_)
  refine b_T rfl rfl rfl rfl rfl (o_val rfl (v_bin rfl rfl b_leq) ?_)
  refine bv rfl (v_pickT rfl rfl rfl) ?_
  refine mv rfl rfl ?_
  by_cases hg46 : ((p0.1).length : Int) ≤ 256
  ·have h := ifT hg46 h
   refine b_F rfl rfl rfl rfl rfl (decide_eq_true hg46) ?_
   refine b_F rfl rfl rfl rfl rfl rfl ?_
   refine b_F rfl rfl rfl rfl rfl rfl ?_
   refine b_F rfl rfl rfl rfl rfl rfl ?_
   refine b_F rfl rfl rfl rfl rfl rfl ?_
   refine b_U rfl rfl rfl rfl rfl ?_
   refine b_U rfl rfl rfl rfl rfl ?_
   refine b_U rfl rfl rfl rfl rfl ?_
   refine b_U rfl rfl rfl rfl rfl ?_
   refine b_F rfl rfl rfl rfl rfl rfl ?_
   refine bv rfl (v_pickT rfl rfl rfl) ?_
   refine mv rfl rfl ?_
   refine b_F rfl rfl rfl rfl rfl rfl ?_
   refine b_F rfl rfl rfl rfl rfl rfl ?_
   refine b_F rfl rfl rfl rfl rfl rfl ?_
   refine b_F rfl rfl rfl rfl rfl rfl ?_
   refine bv rfl (v_pickT rfl rfl rfl) ?_
   refine mv rfl rfl ?_
   refine b_F rfl rfl rfl rfl rfl rfl ?_
   refine b_F rfl rfl rfl rfl rfl rfl ?_
   refine b_F rfl rfl rfl rfl rfl rfl ?_
   refine b_F rfl rfl rfl rfl rfl rfl ?_
   refine bv rfl (v_pickT rfl rfl rfl) ?_
   refine b_nil (hK _ ?_)
   clear hK K
   exact to_le (s' := ⟨[(1, HV.fptr [slE eStr p0.1, slE eStr p0.2] 0), (38, HV.bool true)], []⟩) (AS.le_of ⟨rfl, rfl, trivial⟩ trivial) ⟨true, (), h, rfl⟩
  have h := ifF hg46 h
  refine b_T rfl rfl rfl rfl (decide_eq_false hg46) (o_val rfl (v_fieldAddrF fo24_1 rfl) ?_)
  refine b_T rfl rfl rfl rfl rfl (o_val rfl (v_loadF ty22 rfl (l_lit rfl rfl)) ?_)
  refine b_T rfl rfl rfl rfl rfl (o_val rfl (v_lenF rfl rfl ty22 rfl) ?_)
  refine b_T rfl rfl rfl rfl rfl (o_val rfl (v_bin rfl rfl b_gtr) ?_)
  refine b_T rfl rfl rfl rfl rfl (o_val rfl (mv_val rfl rfl).2 ?_)
  by_cases hg45 : 8 < ((p0.2).length : Int)
  ·have h := ifT hg45 h
   refine b_T rfl rfl rfl rfl (decide_eq_true hg45) (o_val rfl (v_fieldAddrF fo24_1 rfl) ?_)
   refine b_T rfl rfl rfl rfl rfl (o_val rfl (v_loadF ty22 rfl (l_lit rfl rfl)) ?_)
   refine b_T rfl rfl rfl rfl rfl (o_val rfl (v_lenF rfl rfl ty22 rfl) ?_)
   refine b_T rfl rfl rfl rfl rfl (o_val rfl (v_bin rfl rfl b_leq) ?_)
   refine b_T rfl rfl rfl rfl rfl (o_val rfl (v_pickT rfl rfl rfl) ?_)
   refine bv rfl (v_pickF rfl rfl rfl) ?_
   refine mv rfl rfl ?_
   by_cases hg43 : ((p0.2).length : Int) ≤ 256
   ·have h := ifT hg43 h
    refine b_F rfl rfl rfl rfl rfl (decide_eq_true hg43) ?_
    refine b_F rfl rfl rfl rfl rfl rfl ?_
    refine b_F rfl rfl rfl rfl rfl rfl ?_
    refine b_F rfl rfl rfl rfl rfl rfl ?_
    refine bv rfl (v_pickT rfl rfl rfl) ?_
    refine mv rfl rfl ?_
    refine b_F rfl rfl rfl rfl rfl rfl ?_
    refine b_F rfl rfl rfl rfl rfl rfl ?_
    refine b_F rfl rfl rfl rfl rfl rfl ?_
    refine b_F rfl rfl rfl rfl rfl rfl ?_
    refine bv rfl (v_pickT rfl rfl rfl) ?_
    refine b_nil (hK _ ?_)
    clear hK K
    exact to_le (s' := ⟨[(1, HV.fptr [slE eStr p0.1, slE eStr p0.2] 0), (38, HV.bool true)], []⟩) (AS.le_of ⟨rfl, rfl, trivial⟩ trivial) ⟨true, (), h, rfl⟩
   have h := ifF hg43 h
   refine b_T rfl rfl rfl rfl (decide_eq_false hg43) (o_val rfl (v_fieldAddrF fo24_0 rfl) ?_)
   refine b_T rfl rfl rfl rfl rfl (o_val rfl (v_loadF ty22 rfl (l_lit rfl rfl)) ?_)
   refine b_T rfl rfl rfl rfl rfl (o_val rfl (v_lenF rfl rfl ty22 rfl) ?_)
   refine b_T rfl rfl rfl rfl rfl (o_val rfl (v_bin rfl rfl b_gtr) ?_)
   refine bv rfl (v_pickF rfl rfl rfl) ?_
   refine mv rfl rfl ?_
   by_cases hg42 : 259 < ((p0.1).length : Int)
   ·have h := ifT hg42 h
    refine b_F rfl rfl rfl rfl rfl (decide_eq_true hg42) ?_
    refine b_F rfl rfl rfl rfl rfl rfl ?_
    refine b_F rfl rfl rfl rfl rfl rfl ?_
    refine b_F rfl rfl rfl rfl rfl rfl ?_
    refine bv rfl (v_pickT rfl rfl rfl) ?_
    refine b_nil (hK _ ?_)
    clear hK K
    exact to_le (s' := ⟨[(1, HV.fptr [slE eStr p0.1, slE eStr p0.2] 0), (38, HV.bool true)], []⟩) (AS.le_of ⟨rfl, rfl, trivial⟩ trivial) ⟨true, (), h, rfl⟩
   have h := ifF hg42 h
   refine b_T rfl rfl rfl rfl (decide_eq_false hg42) (o_val rfl (v_fieldAddrF fo24_1 rfl) ?_)
   refine b_T rfl rfl rfl rfl rfl (o_val rfl (v_loadF ty22 rfl (l_lit rfl rfl)) ?_)
   refine b_T rfl rfl rfl rfl rfl (o_val rfl (v_lenF rfl rfl ty22 rfl) ?_)
   refine b_T rfl rfl rfl rfl rfl (o_val rfl (v_bin rfl rfl b_gtr) ?_)
   refine bv rfl (v_pickF rfl rfl rfl) ?_
   refine b_nil (hK _ ?_)
   clear hK K
   exact to_le (s' := ⟨[(1, HV.fptr [slE eStr p0.1, slE eStr p0.2] 0), (38, HV.bool (decide (259 < ((p0.2).length : Int))))], []⟩) (AS.le_of ⟨rfl, rfl, trivial⟩ trivial) ⟨decide (259 < ((p0.2).length : Int)), (), h, rfl⟩
  have h := ifF hg45 h
  refine b_F rfl rfl rfl rfl rfl (decide_eq_false hg45) ?_
  refine b_F rfl rfl rfl rfl rfl rfl ?_
  refine b_F rfl rfl rfl rfl rfl rfl ?_
  refine b_F rfl rfl rfl rfl rfl rfl ?_
  refine b_T rfl rfl rfl rfl rfl (o_val rfl (v_pickF rfl rfl rfl) ?_)
  refine bv rfl (v_pickF rfl rfl rfl) ?_
  refine mv rfl rfl ?_
  refine b_T rfl rfl rfl rfl rfl (o_val rfl (v_fieldAddrF fo24_0 rfl) ?_)
  refine b_T rfl rfl rfl rfl rfl (o_val rfl (v_loadF ty22 rfl (l_lit rfl rfl)) ?_)
  refine b_T rfl rfl rfl rfl rfl (o_val rfl (v_lenF rfl rfl ty22 rfl) ?_)
  refine b_T rfl rfl rfl rfl rfl (o_val rfl (v_bin rfl rfl b_gtr) ?_)
  refine bv rfl (v_pickF rfl rfl rfl) ?_
  refine mv rfl rfl ?_
  by_cases hg44 : 259 < ((p0.1).length : Int)
  ·have h := ifT hg44 h
   refine b_F rfl rfl rfl rfl rfl (decide_eq_true hg44) ?_
   refine b_F rfl rfl rfl rfl rfl rfl ?_
   refine b_F rfl rfl rfl rfl rfl rfl ?_
   refine b_F rfl rfl rfl rfl rfl rfl ?_
   refine bv rfl (v_pickT rfl rfl rfl) ?_
   refine b_nil (hK _ ?_)
   clear hK K
   exact to_le (s' := ⟨[(1, HV.fptr [slE eStr p0.1, slE eStr p0.2] 0), (38, HV.bool true)], []⟩) (AS.le_of ⟨rfl, rfl, trivial⟩ trivial) ⟨true, (), h, rfl⟩
  have h := ifF hg44 h
  refine b_T rfl rfl rfl rfl (decide_eq_false hg44) (o_val rfl (v_fieldAddrF fo24_1 rfl) ?_)
  refine b_T rfl rfl rfl rfl rfl (o_val rfl (v_loadF ty22 rfl (l_lit rfl rfl)) ?_)
  refine b_T rfl rfl rfl rfl rfl (o_val rfl (v_lenF rfl rfl ty22 rfl) ?_)
  refine b_T rfl rfl rfl rfl rfl (o_val rfl (v_bin rfl rfl b_gtr) ?_)
  refine bv rfl (v_pickF rfl rfl rfl) ?_
  refine b_nil (hK _ ?_)
  clear hK K
  exact to_le (s' := ⟨[(1, HV.fptr [slE eStr p0.1, slE eStr p0.2] 0), (38, HV.bool (decide (259 < ((p0.2).length : Int))))], []⟩) (AS.le_of ⟨rfl, rfl, trivial⟩ trivial) ⟨decide (259 < ((p0.2).length : Int)), (), h, rfl⟩
 have h := ifF hg51 h
 refine b_F rfl rfl rfl rfl rfl (decide_eq_false hg51) ?_
 refine b_F rfl rfl rfl rfl rfl rfl ?_
 refine b_F rfl rfl rfl rfl rfl rfl ?_
 refine b_F rfl rfl rfl rfl rfl rfl ?_
 refine bv rfl (v_pickF rfl rfl rfl) ?_
 refine mv rfl rfl ?_
 refine b_T rfl rfl rfl rfl rfl (o_val rfl (v_fieldAddrF fo24_1 rfl) ?_)
 refine b_T rfl rfl rfl rfl rfl (o_val rfl (v_loadF ty22 rfl (l_lit rfl rfl)) ?_)
 refine b_T rfl rfl rfl rfl rfl (o_val rfl (v_lenF rfl rfl ty22 rfl) ?_)
 refine b_T rfl rfl rfl rfl rfl (o_val rfl (v_bin rfl rfl b_gtr) ?_)
 refine b_T rfl rfl rfl rfl rfl (o_val rfl (mv_val rfl rfl).2 ?_)
 by_cases hg50 : 8 < ((p0.2).length : Int)
 ·have h := ifT hg50 h
  refine b_T rfl rfl rfl rfl (decide_eq_true hg50) (o_val rfl (v_fieldAddrF fo24_1 rfl) ?_)
  refine b_T rfl rfl rfl rfl rfl (o_val rfl (v_loadF ty22 rfl (l_lit rfl rfl)) ?_)
  refine b_T rfl rfl rfl rfl rfl (o_val rfl (v_lenF rfl rfl ty22 rfl) ?_)
  refine b_T rfl rfl rfl rfl rfl (o_val rfl (v_bin rfl rfl b_leq) ?_)
  refine b_T rfl rfl rfl rfl rfl (o_val rfl (v_pickT rfl rfl rfl) ?_)
  refine bv rfl (v_pickF rfl rfl rfl) ?_
  refine mv rfl rfl ?_
  by_cases hg48 : ((p0.2).length : Int) ≤ 256
  ·have h := ifT hg48 h
   refine b_F rfl rfl rfl rfl rfl (decide_eq_true hg48) ?_
   refine b_F rfl rfl rfl rfl rfl rfl ?_
   refine b_F rfl rfl rfl rfl rfl rfl ?_
   refine b_F rfl rfl rfl rfl rfl rfl ?_
   refine bv rfl (v_pickT rfl rfl rfl) ?_
   refine mv rfl rfl ?_
   refine b_F rfl rfl rfl rfl rfl rfl ?_
   refine b_F rfl rfl rfl rfl rfl rfl ?_
   refine b_F rfl rfl rfl rfl rfl rfl ?_
   refine b_F rfl rfl rfl rfl rfl rfl ?_
   refine bv rfl (v_pickT rfl rfl rfl) ?_
   refine b_nil (hK _ ?_)
   clear hK K
   exact to_le (s' := ⟨[(1, HV.fptr [slE eStr p0.1, slE eStr p0.2] 0), (38, HV.bool true)], []⟩) (AS.le_of ⟨rfl, rfl, trivial⟩ trivial) ⟨true, (), h, rfl⟩
  have h := ifF hg48 h
  refine b_T rfl rfl rfl rfl (decide_eq_false hg48) (o_val rfl (v_fieldAddrF fo24_0 rfl) ?_)
  refine b_T rfl rfl rfl rfl rfl (o_val rfl (v_loadF ty22 rfl (l_lit rfl rfl)) ?_)
  refine b_T rfl rfl rfl rfl rfl (o_val rfl (v_lenF rfl rfl ty22 rfl) ?_)
  refine b_T rfl rfl rfl rfl rfl (o_val rfl (v_bin rfl rfl b_gtr) ?_)
  refine bv rfl (v_pickF rfl rfl rfl) ?_
  refine mv rfl rfl ?_
  by_cases hg47 : 259 < ((p0.1).length : Int)
  ·have h := ifT hg47 h
   refine b_F rfl rfl rfl rfl rfl (decide_eq_true hg47) ?_
   refine b_F rfl rfl rfl rfl rfl rfl ?_
   refine b_F rfl rfl rfl rfl rfl rfl ?_
   refine b_F rfl rfl rfl rfl rfl rfl ?_
   refine bv rfl (v_pickT rfl rfl rfl) ?_
   refine b_nil (hK _ ?_)
   clear hK K
   exact to_le (s' := ⟨[(1, HV.fptr [slE eStr p0.1, slE eStr p0.2] 0), (38, HV.bool true)], []⟩) (AS.le_of ⟨rfl, rfl, trivial⟩ trivial) ⟨true, (), h, rfl⟩
  have h := ifF hg47 h
  refine b_T rfl rfl rfl rfl (decide_eq_false hg47) (o_val rfl (v_fieldAddrF fo24_1 rfl) ?_)
  refine b_T rfl rfl rfl rfl rfl (o_val rfl (v_loadF ty22 rfl (l_lit rfl rfl)) ?_)
  refine b_T rfl rfl rfl rfl rfl (o_val rfl (v_lenF rfl rfl ty22 rfl) ?_)
  refine b_T rfl rfl rfl rfl rfl (o_val rfl (v_bin rfl rfl b_gtr) ?_)
  refine bv rfl (v_pickF rfl rfl rfl) ?_
  refine b_nil (hK _ ?_)
  clear hK K
  exact to_le (s' := ⟨[(1, HV.fptr [slE eStr p0.1, slE eStr p0.2] 0), (38, HV.bool (decide (259 < ((p0.2).length : Int))))], []⟩) (AS.le_of ⟨rfl, rfl, trivial⟩ trivial) ⟨decide (259 < ((p0.2).length : Int)), (), h, rfl⟩
 have h := ifF hg50 h
 refine b_F rfl rfl rfl rfl rfl (decide_eq_false hg50) ?_
 refine b_F rfl rfl rfl rfl rfl rfl ?_
 refine b_F rfl rfl rfl rfl rfl rfl ?_
 refine b_F rfl rfl rfl rfl rfl rfl ?_
 refine b_T rfl rfl rfl rfl rfl (o_val rfl (v_pickF rfl rfl rfl) ?_)
 refine bv rfl (v_pickF rfl rfl rfl) ?_
 refine mv rfl rfl ?_
 refine b_T rfl rfl rfl rfl rfl (o_val rfl (v_fieldAddrF fo24_0 rfl) ?_)
 refine b_T rfl rfl rfl rfl rfl (o_val rfl (v_loadF ty22 rfl (l_lit rfl rfl)) ?_)
 refine b_T rfl rfl rfl rfl rfl (o_val rfl (v_lenF rfl rfl ty22 rfl) ?_)
 refine b_T rfl rfl rfl rfl rfl (o_val rfl (v_bin rfl rfl b_gtr) ?_)
 refine bv rfl (v_pickF rfl rfl rfl) ?_
 refine mv rfl rfl ?_
 by_cases hg49 : 259 < ((p0.1).length : Int)
 ·have h := ifT hg49 h
  refine b_F rfl rfl rfl rfl rfl (decide_eq_true hg49) ?_
  refine b_F rfl rfl rfl rfl rfl rfl ?_
  refine b_F rfl rfl rfl rfl rfl rfl ?_
  refine b_F rfl rfl rfl rfl rfl rfl ?_
  refine bv rfl (v_pickT rfl rfl rfl) ?_
  refine b_nil (hK _ ?_)
  clear hK K
  exact to_le (s' := ⟨[(1, HV.fptr [slE eStr p0.1, slE eStr p0.2] 0), (38, HV.bool true)], []⟩) (AS.le_of ⟨rfl, rfl, trivial⟩ trivial) ⟨true, (), h, rfl⟩
 have h := ifF hg49 h
 refine b_T rfl rfl rfl rfl (decide_eq_false hg49) (o_val rfl (v_fieldAddrF fo24_1 rfl) ?_)
 refine b_T rfl rfl rfl rfl rfl (o_val rfl (v_loadF ty22 rfl (l_lit rfl rfl)) ?_)
 refine b_T rfl rfl rfl rfl rfl (o_val rfl (v_lenF rfl rfl ty22 rfl) ?_)
 refine b_T rfl rfl rfl rfl rfl (o_val rfl (v_bin rfl rfl b_gtr) ?_)
 refine bv rfl (v_pickF rfl rfl rfl) ?_
 refine b_nil (hK _ ?_)
 clear hK K
 exact to_le (s' := ⟨[(1, HV.fptr [slE eStr p0.1, slE eStr p0.2] 0), (38, HV.bool (decide (259 < ((p0.2).length : Int))))], []⟩) (AS.le_of ⟨rfl, rfl, trivial⟩ trivial) ⟨decide (259 < ((p0.2).length : Int)), (), h, rfl⟩

set_option maxHeartbeats 1600000 in
set_option maxRecDepth 100000 in
theorem w_rational_canonical {p0 : TNumDen} {r : TNumDen} (h : m_rational_canonical p0 = some r) : Pure Tryz.prog 67 [HV.agg [HV.bool p0.1.1, HV.str p0.1.2, HV.bool p0.2.1, HV.str p0.2.2]] (· = HV.agg [HV.bool r.1.1, HV.str r.1.2, HV.bool r.2.1, HV.str r.2.2]) := by
 unfold m_rational_canonical at h
 refine Pure.of_body Tryz.func67 rfl rfl (Nat.le_of_ble_eq_true rfl) fun hf => ?_
 unfold Tryz.f67
 dsimp only [enumS, Nat.reduceAdd]
 refine AW.rgs rfl fun K hK => ?_
 refine b_op rfl (o_box rfl rfl rfl ?_)
 refine b_op rfl (o_alloc (fid := 67) (zs := [HV.bool false, HV.str ([] : List UInt8), HV.bool false, HV.str ([] : List UInt8)]) 67002 rfl rfl ty44 rfl (fun v1 => ?_))
 refine b_fin hK (s' := ⟨[(1, HV.fptr [HV.bool p0.1.1, HV.str p0.1.2, HV.bool p0.2.1, HV.str p0.2.2] 0), (2, HV.ptr 67002 v1 0)], [(67002, v1, .arr 4 44 [HV.bool false, HV.str ([] : List UInt8), HV.bool false, HV.str ([] : List UInt8)])]⟩) (le_q rfl rfl) ?_
 clear hK K
 refine AW.rgs rfl fun K hK => ?_
 refine bv rfl (v_fieldAddrF fo44_0 rfl) ?_
 refine bv rfl (v_loadF ty42 rfl (l_litA rfl (Nat.le_of_ble_eq_true rfl) rfl)) ?_
 refine bv rfl (v_fieldAddrF fo44_1 rfl) ?_
 refine bv rfl (v_loadF ty42 rfl (l_litA rfl (Nat.le_of_ble_eq_true rfl) rfl)) ?_
 obtain ⟨x2, h3, h⟩ := bS h
 refine b_op rfl (o_call rfl rfl rfl rfl (ACallD.pure0 (w_rational_lowest h3)) ?_)
 refine b_op rfl (o_store (cs := [HV.bool x2.1.1, HV.str x2.1.2, HV.bool x2.2.1, HV.str x2.2.2]) (zs := [HV.bool x2.1.1, HV.str x2.1.2, HV.bool x2.2.1, HV.str x2.2.2]) rfl rfl rfl ty44 rfl rfl rfl rfl rfl ?_)
 refine b_fin hK (s' := ⟨[(2, HV.ptr 67002 v1 0)], [(67002, v1, .arr 4 44 [HV.bool x2.1.1, HV.str x2.1.2, HV.bool x2.2.1, HV.str x2.2.2])]⟩) (le_q rfl rfl) ?_
 clear hK K
 refine AW.ret ?_
 have h := Option.some.inj h
 subst h
 exact ret_pure (hs := [HV.agg [HV.bool x2.1.1, HV.str x2.1.2, HV.bool x2.2.1, HV.str x2.2.2]]) (q := HV.agg [HV.bool x2.1.1, HV.str x2.1.2, HV.bool x2.2.1, HV.str x2.2.2]) (.inr rfl) (resP ty44 rfl rfl (l_litA rfl (Nat.le_of_ble_eq_true rfl) rfl) rfl) rfl ⟨trivial, trivial, trivial, trivial, trivial⟩

set_option maxHeartbeats 1600000 in
set_option maxRecDepth 100000 in
theorem w_integer_multiply {p0 : List (Int)} {p1 : List (Int)} {r : (List (Int))} (h : m_integer_multiply p0 p1 = some r) : Pure Tryz.prog 119 [slE (encM (HV.int .u32)) p0, slE (encM (HV.int .u32)) p1] (· = slE (encM (HV.int .u32)) r) := by
 unfold m_integer_multiply at h
 refine Pure.of_body Tryz.func119 rfl rfl (Nat.le_of_ble_eq_true rfl) fun hf => ?_
 unfold Tryz.f119
 dsimp only [enumS, Nat.reduceAdd]
 refine AW.rgs rfl fun K hK => ?_
 refine mv rfl rfl ?_
 refine b_fin hK (s' := ⟨[(0, slE (encM (HV.int .u32)) p0), (1, slE (encM (HV.int .u32)) p1)], []⟩) (le_q rfl rfl) ?_
 clear hK K
 refine AW.seq ?_
 refine AW.seqJ h (S := Bool) (V := Unit) (fun a v => ⟨[(0, slE (encM (HV.int .u32)) p0), (1, slE (encM (HV.int .u32)) p1), (19, HV.bool a)], []⟩) (fun a1 w2 h => ?_) (fun k3 h => ?_)
 ·refine AW.cond rfl (fun hc => ?_) (fun hc => ?_)
  ·have h := ifT hc h
   refine AW.rgs rfl fun K hK => ?_
   refine mv rfl rfl ?_
   refine b_fin hK (s' := ⟨[(4, HV.v (.slice none 0 0))], []⟩) (le_q rfl rfl) ?_
   clear hK K
   refine AW.to (to_weak ⟨[(4, slE (encM (HV.int .u32)) ([] : List Int))], []⟩ ⟨⟨_, rfl, .nil _⟩, trivial⟩ trivial ?_)
   refine AW.ret ?_
   have h := Option.some.inj h
   subst h
   exact ret_pure (hs := [slE (encM (HV.int .u32)) ([] : List Int)]) (q := slE (encM (HV.int .u32)) ([] : List Int)) (.inr rfl) (resT rfl rfl) rfl (clean_slE fun _ _ => ⟨trivial, trivial⟩)
  have h := ifF (bF' hc) h
  refine AW.skip ?_
  refine AW.rgs rfl fun K hK => ?_
  refine mv rfl rfl ?_
  refine bv rfl (v_lenF rfl rfl ty107 rfl) ?_
  refine mv rfl rfl ?_
  refine bv rfl (v_lenF rfl rfl ty107 rfl) ?_
  refine bv rfl (v_bin rfl rfl b_add) ?_
  obtain ⟨h5, h⟩ := ifN h
  refine b_op rfl (o_makeE (fid := 119) (encM (HV.int .u32)) (0 : Int) 119025 rfl rfl ty107 rfl rfl ty105 rfl rfl h5 (fun v4 => ?_))
  refine mv rfl rfl ?_
  refine b_fin hK (s' := ⟨[(0, slE (encM (HV.int .u32)) p0), (1, slE (encM (HV.int .u32)) p1), (5, HV.ar 119025 v4 (encM (HV.int .u32)).k 0 ((List.replicate (IntKind.wrap .i64 (((p0).length : Int) + ((p1).length : Int))).toNat (0 : Int)).length))], [(119025, v4, .arr (encM (HV.int .u32)).k 105 ((encM (HV.int .u32)).E (List.replicate (IntKind.wrap .i64 (((p0).length : Int) + ((p1).length : Int))).toNat (0 : Int))))]⟩) (le_q rfl rfl) ?_
  clear hK K
  refine AW.seq ?_
  refine AW.rgs rfl fun K hK => ?_
  refine mv rfl rfl ?_
  refine bv rfl (v_lenF rfl rfl ty107 rfl) ?_
  refine mv rfl rfl ?_
  refine b_fin hK (s' := ⟨[(1, slE (encM (HV.int .u32)) p1), (5, HV.ar 119025 v4 (encM (HV.int .u32)).k 0 ((List.replicate (IntKind.wrap .i64 (((p0).length : Int) + ((p1).length : Int))).toNat (0 : Int)).length)), (26, slE (encM (HV.int .u32)) p0), (27, HV.int .i64 ((p0).length : Int)), (28, HV.int .i64 0)], [(119025, v4, .arr (encM (HV.int .u32)).k 105 ((encM (HV.int .u32)).E (List.replicate (IntKind.wrap .i64 (((p0).length : Int) + ((p1).length : Int))).toNat (0 : Int))))]⟩) (le_q rfl rfl) ?_
  clear hK K
  refine AW.lpX h (by first | exact up_then | exact up_to) (S := Int × (List Int)) (V := Unit) (fun a v => ⟨[(1, slE (encM (HV.int .u32)) p1), (5, HV.ar 119025 v4 (encM (HV.int .u32)).k 0 ((a.2).length)), (26, slE (encM (HV.int .u32)) p0), (27, HV.int .i64 ((p0).length : Int)), (28, HV.int .i64 a.1)], [(119025, v4, .arr (encM (HV.int .u32)).k 105 ((encM (HV.int .u32)).E a.2))]⟩) ?_ (X := (List Int)) (W := Unit) (fun a v => ⟨[(5, HV.ar 119025 v4 (encM (HV.int .u32)).k 0 ((a).length))], [(119025, v4, .arr (encM (HV.int .u32)).k 105 ((encM (HV.int .u32)).E a))]⟩) (fun a28 w29 h => ?_) (fun a6 w7 st8 h => ?_)
  ·exact to_le (s' := ⟨[(1, slE (encM (HV.int .u32)) p1), (5, HV.ar 119025 v4 (encM (HV.int .u32)).k 0 ((List.replicate (IntKind.wrap .i64 (((p0).length : Int) + ((p1).length : Int))).toNat (0 : Int)).length)), (26, slE (encM (HV.int .u32)) p0), (27, HV.int .i64 ((p0).length : Int)), (28, HV.int .i64 0)], [(119025, v4, .arr (encM (HV.int .u32)).k 105 ((encM (HV.int .u32)).E (List.replicate (IntKind.wrap .i64 (((p0).length : Int) + ((p1).length : Int))).toNat (0 : Int))))]⟩) (AS.le_of ⟨rfl, rfl, rfl, rfl, rfl, trivial⟩ ⟨rfl, trivial⟩) ⟨(), rfl⟩
  ·refine AW.to (to_frz 2 [(119025, v4, .arr (encM (HV.int .u32)).k 105 ((encM (HV.int .u32)).E a28))] ⟨[(5, slE (encM (HV.int .u32)) a28)], []⟩ ⟨⟨_, rfl, frz_slE (encM (HV.int .u32)) (l := a28) rfl fun _ _ => rfl⟩, trivial⟩ trivial ⟨rfl, trivial⟩ ⟨rfl, trivial⟩ ?_)
   refine AW.rgs rfl fun K hK => ?_
   refine mv rfl rfl ?_
   obtain ⟨x30, h31, h⟩ := bS h
   refine b_op rfl (o_call rfl rfl rfl rfl (ACallD.pure0 (w_integer_trim h31)) ?_)
   refine mv rfl rfl ?_
   refine b_fin hK (s' := ⟨[(4, slE (encM (HV.int .u32)) x30)], []⟩) (le_q rfl rfl) ?_
   clear hK K
   refine AW.ret ?_
   have h := Option.some.inj h
   subst h
   exact ret_pure (hs := [slE (encM (HV.int .u32)) x30]) (q := slE (encM (HV.int .u32)) x30) (.inr rfl) (resT rfl rfl) rfl (clean_slE fun _ _ => ⟨trivial, trivial⟩)
  refine AW.rgs rfl fun K hK => ?_
  refine bv rfl (v_bin rfl rfl b_lss) ?_
  refine b_fin hK (s' := ⟨[(1, slE (encM (HV.int .u32)) p1), (5, HV.ar 119025 v4 (encM (HV.int .u32)).k 0 ((a6.2).length)), (26, slE (encM (HV.int .u32)) p0), (27, HV.int .i64 ((p0).length : Int)), (28, HV.int .i64 a6.1), (29, HV.bool (decide (a6.1 < ((p0).length : Int))))], [(119025, v4, .arr (encM (HV.int .u32)).k 105 ((encM (HV.int .u32)).E a6.2))]⟩) (le_q rfl rfl) ?_
  clear hK K
  refine AW.cseq rfl (fun hc => ?_) (fun hc => ?_)
  ·have hc := of_decide_eq_true hc
   have h := ifT hc h
   refine AW.skip ?_
   refine AW.seq (AW.block ?_)
   refine AW.rgs rfl fun K hK => ?_
   refine mv rfl rfl ?_
   obtain ⟨x10, h11, h⟩ := bS h
   refine bv rfl (v_idxF ty107 es107 rfl rfl (idx_lt h11)) ?_
   refine bv rfl (v_loadF ty105 rfl (l_cell (encM (HV.int .u32)) h11 (o := 0) rfl rfl)) ?_
   refine mv rfl rfl ?_
   refine mv rfl rfl ?_
   refine b_fin hK (s' := ⟨[(1, slE (encM (HV.int .u32)) p1), (5, HV.ar 119025 v4 (encM (HV.int .u32)).k 0 ((a6.2).length)), (6, HV.int .i64 a6.1), (7, HV.int .u32 x10), (26, slE (encM (HV.int .u32)) p0), (27, HV.int .i64 ((p0).length : Int)), (28, HV.int .i64 a6.1)], [(119025, v4, .arr (encM (HV.int .u32)).k 105 ((encM (HV.int .u32)).E a6.2))]⟩) (le_q rfl rfl) ?_
   clear hK K
   refine AW.rgs rfl fun K hK => ?_
   refine mv rfl rfl ?_
   refine b_fin hK (s' := ⟨[(1, slE (encM (HV.int .u32)) p1), (5, HV.ar 119025 v4 (encM (HV.int .u32)).k 0 ((a6.2).length)), (6, HV.int .i64 a6.1), (7, HV.int .u32 x10), (8, HV.int .u64 0), (26, slE (encM (HV.int .u32)) p0), (27, HV.int .i64 ((p0).length : Int)), (28, HV.int .i64 a6.1)], [(119025, v4, .arr (encM (HV.int .u32)).k 105 ((encM (HV.int .u32)).E a6.2))]⟩) (le_q rfl rfl) ?_
   clear hK K
   refine AW.seq ?_
   refine AW.rgs rfl fun K hK => ?_
   refine mv rfl rfl ?_
   refine bv rfl (v_lenF rfl rfl ty107 rfl) ?_
   refine mv rfl rfl ?_
   refine b_fin hK (s' := ⟨[(1, slE (encM (HV.int .u32)) p1), (5, HV.ar 119025 v4 (encM (HV.int .u32)).k 0 ((a6.2).length)), (6, HV.int .i64 a6.1), (7, HV.int .u32 x10), (8, HV.int .u64 0), (26, slE (encM (HV.int .u32)) p0), (27, HV.int .i64 ((p0).length : Int)), (28, HV.int .i64 a6.1), (33, slE (encM (HV.int .u32)) p1), (34, HV.int .i64 ((p1).length : Int)), (35, HV.int .i64 0)], [(119025, v4, .arr (encM (HV.int .u32)).k 105 ((encM (HV.int .u32)).E a6.2))]⟩) (le_q rfl rfl) ?_
   clear hK K
   refine AW.lpX h (by first | exact up_then | exact up_to) (S := Int × Int × (List Int)) (V := Unit) (fun a v => ⟨[(1, slE (encM (HV.int .u32)) p1), (5, HV.ar 119025 v4 (encM (HV.int .u32)).k 0 ((a.2.2).length)), (6, HV.int .i64 a6.1), (7, HV.int .u32 x10), (8, HV.int .u64 a.1), (26, slE (encM (HV.int .u32)) p0), (27, HV.int .i64 ((p0).length : Int)), (28, HV.int .i64 a6.1), (33, slE (encM (HV.int .u32)) p1), (34, HV.int .i64 ((p1).length : Int)), (35, HV.int .i64 a.2.1)], [(119025, v4, .arr (encM (HV.int .u32)).k 105 ((encM (HV.int .u32)).E a.2.2))]⟩) ?_ (X := (List Int) × Int) (W := Unit) (fun a v => ⟨[(1, slE (encM (HV.int .u32)) p1), (5, HV.ar 119025 v4 (encM (HV.int .u32)).k 0 ((a.1).length)), (6, HV.int .i64 a6.1), (8, HV.int .u64 a.2), (26, slE (encM (HV.int .u32)) p0), (27, HV.int .i64 ((p0).length : Int)), (28, HV.int .i64 a6.1)], [(119025, v4, .arr (encM (HV.int .u32)).k 105 ((encM (HV.int .u32)).E a.1))]⟩) (fun a24 w25 h => ?_) (fun a12 w13 st14 h => ?_)
   ·exact to_le (s' := ⟨[(1, slE (encM (HV.int .u32)) p1), (5, HV.ar 119025 v4 (encM (HV.int .u32)).k 0 ((a6.2).length)), (6, HV.int .i64 a6.1), (7, HV.int .u32 x10), (8, HV.int .u64 0), (26, slE (encM (HV.int .u32)) p0), (27, HV.int .i64 ((p0).length : Int)), (28, HV.int .i64 a6.1), (33, slE (encM (HV.int .u32)) p1), (34, HV.int .i64 ((p1).length : Int)), (35, HV.int .i64 0)], [(119025, v4, .arr (encM (HV.int .u32)).k 105 ((encM (HV.int .u32)).E a6.2))]⟩) (AS.le_of ⟨rfl, rfl, rfl, rfl, rfl, rfl, rfl, rfl, rfl, rfl, rfl, trivial⟩ ⟨rfl, trivial⟩) ⟨(), rfl⟩
   ·refine AW.rg rfl fun K hK => ?_
    refine mv rfl rfl ?_
    refine mv rfl rfl ?_
    refine mv rfl rfl ?_
    refine bv rfl (v_lenF rfl rfl ty107 rfl) ?_
    refine bv rfl (v_bin rfl rfl b_add) ?_
    refine mv rfl rfl ?_
    refine bv rfl (v_convI ty103 ty105 rfl) ?_
    obtain ⟨x26, h27, h⟩ := bS h
    refine bv rfl (v_idxA ty107 es107 rfl rfl (idx_lt h27) rfl) ?_
    refine b_op rfl (o_storeE (encM (HV.int .u32)) (l := a24.1) (j := (IntKind.wrap .i64 (a6.1 + ((p1).length : Int)))) (v := IntKind.wrap .u32 a24.2) rfl rfl rfl ty105 rfl rfl rfl (idx_lt h27) ?_)
    refine b_fin hK (s' := ⟨[(1, slE (encM (HV.int .u32)) p1), (5, HV.ar 119025 v4 (encM (HV.int .u32)).k 0 (((a24.1).set (IntKind.wrap .i64 (a6.1 + ((p1).length : Int))).toNat (IntKind.wrap .u32 a24.2)).length)), (26, slE (encM (HV.int .u32)) p0), (27, HV.int .i64 ((p0).length : Int)), (28, HV.int .i64 a6.1)], [(119025, v4, .arr (encM (HV.int .u32)).k 105 ((encM (HV.int .u32)).E ((a24.1).set (IntKind.wrap .i64 (a6.1 + ((p1).length : Int))).toNat (IntKind.wrap .u32 a24.2))))]⟩) (AS.le_of ⟨rfl, arl (by first | rfl | simp only [List.length_set, sortI_len, sortS_len]), rfl, rfl, rfl, trivial⟩ ⟨rfl, trivial⟩) ?_
    clear hK K
    refine AW.rg rfl fun K hK => ?_
    refine bv rfl (v_bin rfl rfl b_add) ?_
    refine mv rfl rfl ?_
    refine b_nil (hK _ ?_)
    clear hK K
    exact to_le (s' := ⟨[(1, slE (encM (HV.int .u32)) p1), (5, HV.ar 119025 v4 (encM (HV.int .u32)).k 0 (((a24.1).set (IntKind.wrap .i64 (a6.1 + ((p1).length : Int))).toNat (IntKind.wrap .u32 a24.2)).length)), (26, slE (encM (HV.int .u32)) p0), (27, HV.int .i64 ((p0).length : Int)), (28, HV.int .i64 (IntKind.wrap .i64 (a6.1 + 1)))], [(119025, v4, .arr (encM (HV.int .u32)).k 105 ((encM (HV.int .u32)).E ((a24.1).set (IntKind.wrap .i64 (a6.1 + ((p1).length : Int))).toNat (IntKind.wrap .u32 a24.2))))]⟩) (AS.le_of ⟨rfl, rfl, rfl, rfl, rfl, trivial⟩ ⟨rfl, trivial⟩) ⟨(IntKind.wrap .i64 (a6.1 + 1), (a24.1).set (IntKind.wrap .i64 (a6.1 + ((p1).length : Int))).toNat (IntKind.wrap .u32 a24.2)), (), h, rfl⟩
   refine AW.rgs rfl fun K hK => ?_
   refine bv rfl (v_bin rfl rfl b_lss) ?_
   refine b_fin hK (s' := ⟨[(1, slE (encM (HV.int .u32)) p1), (5, HV.ar 119025 v4 (encM (HV.int .u32)).k 0 ((a12.2.2).length)), (6, HV.int .i64 a6.1), (7, HV.int .u32 x10), (8, HV.int .u64 a12.1), (26, slE (encM (HV.int .u32)) p0), (27, HV.int .i64 ((p0).length : Int)), (28, HV.int .i64 a6.1), (33, slE (encM (HV.int .u32)) p1), (34, HV.int .i64 ((p1).length : Int)), (35, HV.int .i64 a12.2.1), (36, HV.bool (decide (a12.2.1 < ((p1).length : Int))))], [(119025, v4, .arr (encM (HV.int .u32)).k 105 ((encM (HV.int .u32)).E a12.2.2))]⟩) (le_q rfl rfl) ?_
   clear hK K
   refine AW.cseq rfl (fun hc => ?_) (fun hc => ?_)
   ·have hc := of_decide_eq_true hc
    have h := ifT hc h
    refine AW.skip ?_
    refine AW.seq (AW.block ?_)
    refine AW.rgs rfl fun K hK => ?_
    refine mv rfl rfl ?_
    obtain ⟨x16, h17, h⟩ := bS h
    refine bv rfl (v_idxF ty107 es107 rfl rfl (idx_lt h17)) ?_
    refine bv rfl (v_loadF ty105 rfl (l_cell (encM (HV.int .u32)) h17 (o := 0) rfl rfl)) ?_
    refine mv rfl rfl ?_
    refine mv rfl rfl ?_
    refine b_fin hK (s' := ⟨[(1, slE (encM (HV.int .u32)) p1), (5, HV.ar 119025 v4 (encM (HV.int .u32)).k 0 ((a12.2.2).length)), (6, HV.int .i64 a6.1), (7, HV.int .u32 x10), (8, HV.int .u64 a12.1), (9, HV.int .i64 a12.2.1), (10, HV.int .u32 x16), (26, slE (encM (HV.int .u32)) p0), (27, HV.int .i64 ((p0).length : Int)), (28, HV.int .i64 a6.1), (33, slE (encM (HV.int .u32)) p1), (34, HV.int .i64 ((p1).length : Int)), (35, HV.int .i64 a12.2.1)], [(119025, v4, .arr (encM (HV.int .u32)).k 105 ((encM (HV.int .u32)).E a12.2.2))]⟩) (le_q rfl rfl) ?_
    clear hK K
    refine AW.rgs rfl fun K hK => ?_
    refine mv rfl rfl ?_
    refine bv rfl (v_convI ty105 ty103 rfl) ?_
    refine mv rfl rfl ?_
    refine bv rfl (v_convI ty105 ty103 rfl) ?_
    refine bv rfl (v_bin rfl rfl b_mul) ?_
    refine mv rfl rfl ?_
    refine mv rfl rfl ?_
    refine mv rfl rfl ?_
    refine bv rfl (v_bin rfl rfl b_add) ?_
    obtain ⟨x18, h19, h⟩ := bS h
    refine bv rfl (v_idxA ty107 es107 rfl rfl (idx_lt h19) rfl) ?_
    obtain ⟨x20, h21, h⟩ := bS h
    refine bv rfl (v_loadP ty105 rfl rfl (l_cell (encM (HV.int .u32)) h21 (o := 0) rfl rfl)) ?_
    refine bv rfl (v_convI ty105 ty103 rfl) ?_
    refine bv rfl (v_bin rfl rfl b_add) ?_
    refine mv rfl rfl ?_
    refine bv rfl (v_bin rfl rfl b_add) ?_
    refine mv rfl rfl ?_
    refine b_fin hK (s' := ⟨[(1, slE (encM (HV.int .u32)) p1), (5, HV.ar 119025 v4 (encM (HV.int .u32)).k 0 ((a12.2.2).length)), (6, HV.int .i64 a6.1), (7, HV.int .u32 x10), (9, HV.int .i64 a12.2.1), (11, HV.int .u64 (IntKind.wrap .u64 ((IntKind.wrap .u64 ((IntKind.wrap .u64 ((IntKind.wrap .u64 x10) * (IntKind.wrap .u64 x16))) + (IntKind.wrap .u64 x20))) + a12.1))), (26, slE (encM (HV.int .u32)) p0), (27, HV.int .i64 ((p0).length : Int)), (28, HV.int .i64 a6.1), (33, slE (encM (HV.int .u32)) p1), (34, HV.int .i64 ((p1).length : Int)), (35, HV.int .i64 a12.2.1)], [(119025, v4, .arr (encM (HV.int .u32)).k 105 ((encM (HV.int .u32)).E a12.2.2))]⟩) (le_q rfl rfl) ?_
    clear hK K
    refine AW.rg rfl fun K hK => ?_
    refine mv rfl rfl ?_
    refine mv rfl rfl ?_
    refine mv rfl rfl ?_
    refine bv rfl (v_bin rfl rfl b_add) ?_
    refine mv rfl rfl ?_
    refine bv rfl (v_convI ty103 ty105 rfl) ?_
    refine mv rfl rfl ?_
    refine bv rfl (v_bin rfl rfl (b_shr (by decide))) ?_
    obtain ⟨x22, h23, h⟩ := bS h
    refine bv rfl (v_idxA ty107 es107 rfl rfl (idx_lt h23) rfl) ?_
    refine b_op rfl (o_storeE (encM (HV.int .u32)) (l := a12.2.2) (j := (IntKind.wrap .i64 (a6.1 + a12.2.1))) (v := IntKind.wrap .u32 (IntKind.wrap .u64 ((IntKind.wrap .u64 ((IntKind.wrap .u64 ((IntKind.wrap .u64 x10) * (IntKind.wrap .u64 x16))) + (IntKind.wrap .u64 x20))) + a12.1))) rfl rfl rfl ty105 rfl rfl rfl (idx_lt h23) ?_)
    refine mv rfl rfl ?_
    refine b_fin hK (s' := ⟨[(1, slE (encM (HV.int .u32)) p1), (5, HV.ar 119025 v4 (encM (HV.int .u32)).k 0 (((a12.2.2).set (IntKind.wrap .i64 (a6.1 + a12.2.1)).toNat (IntKind.wrap .u32 (IntKind.wrap .u64 ((IntKind.wrap .u64 ((IntKind.wrap .u64 ((IntKind.wrap .u64 x10) * (IntKind.wrap .u64 x16))) + (IntKind.wrap .u64 x20))) + a12.1)))).length)), (6, HV.int .i64 a6.1), (7, HV.int .u32 x10), (8, HV.int .u64 (Int.fdiv (IntKind.wrap .u64 ((IntKind.wrap .u64 ((IntKind.wrap .u64 ((IntKind.wrap .u64 x10) * (IntKind.wrap .u64 x16))) + (IntKind.wrap .u64 x20))) + a12.1)) (2 ^ (min (32 : Int).toNat (IntKind.bits .u64))))), (26, slE (encM (HV.int .u32)) p0), (27, HV.int .i64 ((p0).length : Int)), (28, HV.int .i64 a6.1), (33, slE (encM (HV.int .u32)) p1), (34, HV.int .i64 ((p1).length : Int)), (35, HV.int .i64 a12.2.1)], [(119025, v4, .arr (encM (HV.int .u32)).k 105 ((encM (HV.int .u32)).E ((a12.2.2).set (IntKind.wrap .i64 (a6.1 + a12.2.1)).toNat (IntKind.wrap .u32 (IntKind.wrap .u64 ((IntKind.wrap .u64 ((IntKind.wrap .u64 ((IntKind.wrap .u64 x10) * (IntKind.wrap .u64 x16))) + (IntKind.wrap .u64 x20))) + a12.1))))))]⟩) (AS.le_of ⟨rfl, arl (by first | rfl | simp only [List.length_set, sortI_len, sortS_len]), rfl, rfl, rfl, rfl, rfl, rfl, rfl, rfl, rfl, trivial⟩ ⟨rfl, trivial⟩) ?_
    clear hK K
    refine AW.rg rfl fun K hK => ?_
    refine bv rfl (v_bin rfl rfl b_add) ?_
    refine mv rfl rfl ?_
    refine b_nil (hK _ ?_)
    clear hK K
    exact to_le (s' := ⟨[(1, slE (encM (HV.int .u32)) p1), (5, HV.ar 119025 v4 (encM (HV.int .u32)).k 0 (((a12.2.2).set (IntKind.wrap .i64 (a6.1 + a12.2.1)).toNat (IntKind.wrap .u32 (IntKind.wrap .u64 ((IntKind.wrap .u64 ((IntKind.wrap .u64 ((IntKind.wrap .u64 x10) * (IntKind.wrap .u64 x16))) + (IntKind.wrap .u64 x20))) + a12.1)))).length)), (6, HV.int .i64 a6.1), (7, HV.int .u32 x10), (8, HV.int .u64 (Int.fdiv (IntKind.wrap .u64 ((IntKind.wrap .u64 ((IntKind.wrap .u64 ((IntKind.wrap .u64 x10) * (IntKind.wrap .u64 x16))) + (IntKind.wrap .u64 x20))) + a12.1)) (2 ^ (min (32 : Int).toNat (IntKind.bits .u64))))), (26, slE (encM (HV.int .u32)) p0), (27, HV.int .i64 ((p0).length : Int)), (28, HV.int .i64 a6.1), (33, slE (encM (HV.int .u32)) p1), (34, HV.int .i64 ((p1).length : Int)), (35, HV.int .i64 (IntKind.wrap .i64 (a12.2.1 + 1)))], [(119025, v4, .arr (encM (HV.int .u32)).k 105 ((encM (HV.int .u32)).E ((a12.2.2).set (IntKind.wrap .i64 (a6.1 + a12.2.1)).toNat (IntKind.wrap .u32 (IntKind.wrap .u64 ((IntKind.wrap .u64 ((IntKind.wrap .u64 ((IntKind.wrap .u64 x10) * (IntKind.wrap .u64 x16))) + (IntKind.wrap .u64 x20))) + a12.1))))))]⟩) (AS.le_of ⟨rfl, rfl, rfl, rfl, rfl, rfl, rfl, rfl, rfl, rfl, rfl, trivial⟩ ⟨rfl, trivial⟩) ⟨(Int.fdiv (IntKind.wrap .u64 ((IntKind.wrap .u64 ((IntKind.wrap .u64 ((IntKind.wrap .u64 x10) * (IntKind.wrap .u64 x16))) + (IntKind.wrap .u64 x20))) + a12.1)) (2 ^ (min (32 : Int).toNat (IntKind.bits .u64))), IntKind.wrap .i64 (a12.2.1 + 1), (a12.2.2).set (IntKind.wrap .i64 (a6.1 + a12.2.1)).toNat (IntKind.wrap .u32 (IntKind.wrap .u64 ((IntKind.wrap .u64 ((IntKind.wrap .u64 ((IntKind.wrap .u64 x10) * (IntKind.wrap .u64 x16))) + (IntKind.wrap .u64 x20))) + a12.1)))), (), h, rfl⟩
   have hc := of_decide_eq_false hc
   have h := ifF hc h
   refine AW.exit ?_
   exact to_le (s' := ⟨[(1, slE (encM (HV.int .u32)) p1), (5, HV.ar 119025 v4 (encM (HV.int .u32)).k 0 ((a12.2.2).length)), (6, HV.int .i64 a6.1), (8, HV.int .u64 a12.1), (26, slE (encM (HV.int .u32)) p0), (27, HV.int .i64 ((p0).length : Int)), (28, HV.int .i64 a6.1)], [(119025, v4, .arr (encM (HV.int .u32)).k 105 ((encM (HV.int .u32)).E a12.2.2))]⟩) (AS.le_of ⟨rfl, rfl, rfl, rfl, rfl, rfl, rfl, trivial⟩ ⟨rfl, trivial⟩) ⟨(a12.2.2, a12.1), (), h, rfl⟩
  have hc := of_decide_eq_false hc
  have h := ifF hc h
  refine AW.exit ?_
  exact to_le (s' := ⟨[(5, HV.ar 119025 v4 (encM (HV.int .u32)).k 0 ((a6.2).length))], [(119025, v4, .arr (encM (HV.int .u32)).k 105 ((encM (HV.int .u32)).E a6.2))]⟩) (AS.le_of ⟨rfl, trivial⟩ ⟨rfl, trivial⟩) ⟨a6.2, (), h, rfl⟩
 refine AW.rg rfl fun K hK => ?_
 refine mv rfl rfl ?_
 refine bv rfl (v_lenF rfl rfl ty107 rfl) ?_
 refine bv rfl (v_bin rfl rfl b_eql) ?_
 refine mv rfl rfl ?_
 by_cases hg32 : ((p0).length : Int) = 0
 ·have h := ifT hg32 h
  refine b_F rfl rfl rfl rfl rfl (decide_eq_true hg32) ?_
  refine b_F rfl rfl rfl rfl rfl rfl ?_
  refine b_F rfl rfl rfl rfl rfl rfl ?_
  refine bv rfl (v_pickT rfl rfl rfl) ?_
  refine b_nil (hK _ ?_)
  clear hK K
  exact to_le (s' := ⟨[(0, slE (encM (HV.int .u32)) p0), (1, slE (encM (HV.int .u32)) p1), (19, HV.bool true)], []⟩) (AS.le_of ⟨rfl, rfl, rfl, trivial⟩ trivial) ⟨true, (), h, rfl⟩
 have h := ifF hg32 h
 refine b_T rfl rfl rfl rfl (decide_eq_false hg32) (o_val rfl (mv_val rfl rfl).2 ?_)
 refine b_T rfl rfl rfl rfl rfl (o_val rfl (v_lenF rfl rfl ty107 rfl) ?_)
 refine b_T rfl rfl rfl rfl rfl (o_val rfl (v_bin rfl rfl b_eql) ?_)
 refine bv rfl (v_pickF rfl rfl rfl) ?_
 refine b_nil (hK _ ?_)
 clear hK K
 exact to_le (s' := ⟨[(0, slE (encM (HV.int .u32)) p0), (1, slE (encM (HV.int .u32)) p1), (19, HV.bool (decide (((p1).length : Int) = 0)))], []⟩) (AS.le_of ⟨rfl, rfl, rfl, trivial⟩ trivial) ⟨decide (((p1).length : Int) = 0), (), h, rfl⟩

set_option maxHeartbeats 1600000 in
set_option maxRecDepth 100000 in
theorem w_integer_Mul {p0 : TNegMag} {p1 : TNegMag} {r : TNegMag} (h : m_integer_Mul p0 p1 = some r) : Pure Tryz.prog 69 [HV.agg [HV.bool p0.1, HV.str p0.2], HV.agg [HV.bool p1.1, HV.str p1.2]] (· = HV.agg [HV.bool r.1, HV.str r.2]) := by
 unfold m_integer_Mul at h
 refine Pure.of_body Tryz.func69 rfl rfl (Nat.le_of_ble_eq_true rfl) fun hf => ?_
 unfold Tryz.f69
 dsimp only [enumS, Nat.reduceAdd]
 refine AW.rgs rfl fun K hK => ?_
 refine b_op rfl (o_box rfl rfl rfl ?_)
 refine b_op rfl (o_box rfl rfl rfl ?_)
 refine b_op rfl (o_alloc (fid := 69) (zs := [HV.bool false, HV.str ([] : List UInt8)]) 69004 rfl rfl ty42 rfl (fun v1 => ?_))
 refine b_fin hK (s' := ⟨[(2, HV.fptr [HV.bool p0.1, HV.str p0.2] 0), (3, HV.fptr [HV.bool p1.1, HV.str p1.2] 0), (4, HV.ptr 69004 v1 0)], [(69004, v1, .arr 2 42 [HV.bool false, HV.str ([] : List UInt8)])]⟩) (le_q rfl rfl) ?_
 clear hK K
 refine AW.dgs 11 follows rfl rfl fun K hK => ?_
 refine sv rfl (v_fieldAddrF fo42_0 rfl) ?_
 refine sv rfl (v_loadF ty4 rfl (l_lit rfl rfl)) ?_
 refine sv rfl (v_fieldAddrF fo42_0 rfl) ?_
 refine sv rfl (v_loadF ty4 rfl (l_lit rfl rfl)) ?_
 refine sv rfl (v_bin rfl rfl (b_neB ty4)) ?_
 refine sv rfl (v_loadF ty42 rfl (l_litA rfl (Nat.le_of_ble_eq_true rfl) rfl)) ?_
 obtain ⟨x2, h3, h⟩ := bS h
 refine s_op rfl rfl (ops_call rfl rfl rfl rfl (ACallD.pure0 (w_integer_digits h3)) ?_)
 refine sv rfl (v_loadF ty42 rfl (l_litA rfl (Nat.le_of_ble_eq_true rfl) rfl)) ?_
 obtain ⟨x4, h5, h⟩ := bS h
 refine s_op rfl rfl (ops_call rfl rfl rfl rfl (ACallD.pure0 (w_integer_digits h5)) ?_)
 obtain ⟨x6, h7, h⟩ := bS h
 refine s_op rfl rfl (ops_call rfl rfl rfl rfl (ACallD.pure0 (w_integer_multiply h7)) ?_)
 obtain ⟨x8, h9, h⟩ := bS h
 refine s_op rfl rfl (ops_call rfl rfl rfl rfl (ACallD.pure0 (w_integer_number h9)) ?_)
 refine s_nil ?_
 refine b_op rfl (o_store (cs := [HV.bool x8.1, HV.str x8.2]) (zs := [HV.bool x8.1, HV.str x8.2]) rfl rfl rfl ty42 rfl rfl rfl rfl rfl ?_)
 refine b_fin hK (s' := ⟨[(4, HV.ptr 69004 v1 0)], [(69004, v1, .arr 2 42 [HV.bool x8.1, HV.str x8.2])]⟩) (le_q rfl rfl) ?_
 clear hK K
 refine AW.ret ?_
 have h := Option.some.inj h
 subst h
 exact ret_pure (hs := [HV.agg [HV.bool x8.1, HV.str x8.2]]) (q := HV.agg [HV.bool x8.1, HV.str x8.2]) (.inr rfl) (resP ty42 rfl rfl (l_litA rfl (Nat.le_of_ble_eq_true rfl) rfl) rfl) rfl ⟨trivial, trivial, trivial⟩

set_option maxHeartbeats 1600000 in
set_option maxRecDepth 100000 in
theorem w_rational_Compare {p0 : TNumDen} {p1 : TNumDen} {r : Int} (h : m_rational_Compare p0 p1 = some r) : Pure Tryz.prog 21 [HV.agg [HV.bool p0.1.1, HV.str p0.1.2, HV.bool p0.2.1, HV.str p0.2.2], HV.agg [HV.bool p1.1.1, HV.str p1.1.2, HV.bool p1.2.1, HV.str p1.2.2]] (· = HV.int .i64 r) := by
 unfold m_rational_Compare at h
 refine Pure.of_body Tryz.func21 rfl rfl (Nat.le_of_ble_eq_true rfl) fun hf => ?_
 unfold Tryz.f21
 dsimp only [enumS, Nat.reduceAdd]
 refine AW.rgs rfl fun K hK => ?_
 refine b_op rfl (o_boxM (fid := 21) 21002 rfl rfl rfl rfl (fun v1 => ?_))
 refine b_op rfl (o_boxM (fid := 21) 21003 rfl rfl rfl rfl (fun v2 => ?_))
 refine mv rfl rfl ?_
 refine b_fin hK (s' := ⟨[(2, HV.ptr 21002 v1 0), (3, HV.ptr 21003 v2 0)], [(21002, v1, .arr 4 44 [HV.bool p0.1.1, HV.str p0.1.2, HV.bool p0.2.1, HV.str p0.2.2]), (21003, v2, .arr 4 44 [HV.bool p1.1.1, HV.str p1.1.2, HV.bool p1.2.1, HV.str p1.2.2])]⟩) (le_q rfl rfl) ?_
 clear hK K
 refine AW.dgs 4 follows rfl rfl fun K hK => ?_
 refine sv rfl (v_loadP ty44 rfl rfl (l_litA rfl (Nat.le_of_ble_eq_true rfl) rfl)) ?_
 obtain ⟨x3, h4, h⟩ := bS h
 refine s_op rfl rfl (ops_call rfl rfl rfl rfl (ACallD.pure0 (w_rational_canonical h4)) ?_)
 refine sv rfl (v_loadP ty44 rfl rfl (l_litA rfl (Nat.le_of_ble_eq_true rfl) rfl)) ?_
 obtain ⟨x5, h6, h⟩ := bS h
 refine s_op rfl rfl (ops_call rfl rfl rfl rfl (ACallD.pure0 (w_rational_canonical h6)) ?_)
 refine s_nil ?_
 refine b_op rfl (o_store (cs := [HV.bool x3.1.1, HV.str x3.1.2, HV.bool x3.2.1, HV.str x3.2.2]) (zs := [HV.bool x3.1.1, HV.str x3.1.2, HV.bool x3.2.1, HV.str x3.2.2]) rfl rfl rfl ty44 rfl rfl rfl rfl rfl ?_)
 refine b_op rfl (o_store (cs := [HV.bool x5.1.1, HV.str x5.1.2, HV.bool x5.2.1, HV.str x5.2.2]) (zs := [HV.bool x5.1.1, HV.str x5.1.2, HV.bool x5.2.1, HV.str x5.2.2]) rfl rfl rfl ty44 rfl rfl rfl rfl rfl ?_)
 refine b_fin hK (s' := ⟨[(2, HV.ptr 21002 v1 0), (3, HV.ptr 21003 v2 0)], [(21002, v1, .arr 4 44 [HV.bool x3.1.1, HV.str x3.1.2, HV.bool x3.2.1, HV.str x3.2.2]), (21003, v2, .arr 4 44 [HV.bool x5.1.1, HV.str x5.1.2, HV.bool x5.2.1, HV.str x5.2.2])]⟩) (le_q rfl rfl) ?_
 clear hK K
 refine AW.dgs 12 follows rfl rfl fun K hK => ?_
 refine sv rfl (v_fieldAddrP fo44_0 rfl rfl) ?_
 refine sv rfl (v_loadP ty42 rfl rfl (l_litA rfl (Nat.le_of_ble_eq_true rfl) rfl)) ?_
 refine sv rfl (v_fieldAddrP fo44_1 rfl rfl) ?_
 refine sv rfl (v_loadP ty42 rfl rfl (l_litA rfl (Nat.le_of_ble_eq_true rfl) rfl)) ?_
 obtain ⟨x7, h8, h⟩ := bS h
 refine s_op rfl rfl (ops_call rfl rfl rfl rfl (ACallD.pure0 (w_integer_Mul h8)) ?_)
 refine sv rfl (v_fieldAddrP fo44_0 rfl rfl) ?_
 refine sv rfl (v_loadP ty42 rfl rfl (l_litA rfl (Nat.le_of_ble_eq_true rfl) rfl)) ?_
 refine sv rfl (v_fieldAddrP fo44_1 rfl rfl) ?_
 refine sv rfl (v_loadP ty42 rfl rfl (l_litA rfl (Nat.le_of_ble_eq_true rfl) rfl)) ?_
 obtain ⟨x9, h10, h⟩ := bS h
 refine s_op rfl rfl (ops_call rfl rfl rfl rfl (ACallD.pure0 (w_integer_Mul h10)) ?_)
 obtain ⟨x11, h12, h⟩ := bS h
 refine s_op rfl rfl (ops_call rfl rfl rfl rfl (ACallD.pure0 (w_integer_Compare h12)) ?_)
 refine sm rfl rfl ?_
 refine s_nil ?_
 refine b_fin hK (s' := ⟨[(4, HV.int .i64 x11)], []⟩) (le_q rfl rfl) ?_
 clear hK K
 refine AW.ret ?_
 have h := Option.some.inj h
 subst h
 exact ret_pure (hs := [HV.int .i64 x11]) (q := HV.int .i64 x11) (.inr rfl) (resT rfl rfl) rfl trivial

set_option maxHeartbeats 1600000 in
set_option maxRecDepth 100000 in
theorem w_rational_Of {p0 : TNegMag} {r : TNumDen} (h : m_rational_Of p0 = some r) : Pure Tryz.prog 22 [HV.agg [HV.bool p0.1, HV.str p0.2]] (· = HV.agg [HV.bool r.1.1, HV.str r.1.2, HV.bool r.2.1, HV.str r.2.2]) := by
 unfold m_rational_Of at h
 refine Pure.of_body Tryz.func22 rfl rfl (Nat.le_of_ble_eq_true rfl) fun hf => ?_
 unfold Tryz.f22
 dsimp only [enumS, Nat.reduceAdd]
 refine AW.rgs rfl fun K hK => ?_
 refine b_op rfl (o_box rfl rfl rfl ?_)
 refine b_op rfl (o_alloc (fid := 22) (zs := [HV.bool false, HV.str ([] : List UInt8), HV.bool false, HV.str ([] : List UInt8)]) 22002 rfl rfl ty44 rfl (fun v1 => ?_))
 refine b_fin hK (s' := ⟨[(1, HV.fptr [HV.bool p0.1, HV.str p0.2] 0), (2, HV.ptr 22002 v1 0)], [(22002, v1, .arr 4 44 [HV.bool false, HV.str ([] : List UInt8), HV.bool false, HV.str ([] : List UInt8)])]⟩) (le_q rfl rfl) ?_
 clear hK K
 refine AW.dgs 3 follows rfl rfl fun K hK => ?_
 refine sv rfl (v_loadF ty42 rfl (l_litA rfl (Nat.le_of_ble_eq_true rfl) rfl)) ?_
 obtain ⟨x2, h3, h⟩ := bS h
 refine s_op rfl rfl (ops_call rfl rfl rfl rfl (ACallD.pure0 (w_integer_Of h3)) ?_)
 obtain ⟨x4, h5, h⟩ := bS h
 refine s_op rfl rfl (ops_call rfl rfl rfl rfl (ACallD.pure0 (w_rational_lowest h5)) ?_)
 refine s_nil ?_
 refine b_op rfl (o_store (cs := [HV.bool x4.1.1, HV.str x4.1.2, HV.bool x4.2.1, HV.str x4.2.2]) (zs := [HV.bool x4.1.1, HV.str x4.1.2, HV.bool x4.2.1, HV.str x4.2.2]) rfl rfl rfl ty44 rfl rfl rfl rfl rfl ?_)
 refine b_fin hK (s' := ⟨[(2, HV.ptr 22002 v1 0)], [(22002, v1, .arr 4 44 [HV.bool x4.1.1, HV.str x4.1.2, HV.bool x4.2.1, HV.str x4.2.2])]⟩) (le_q rfl rfl) ?_
 clear hK K
 refine AW.ret ?_
 have h := Option.some.inj h
 subst h
 exact ret_pure (hs := [HV.agg [HV.bool x4.1.1, HV.str x4.1.2, HV.bool x4.2.1, HV.str x4.2.2]]) (q := HV.agg [HV.bool x4.1.1, HV.str x4.1.2, HV.bool x4.2.1, HV.str x4.2.2]) (.inr rfl) (resP ty44 rfl rfl (l_litA rfl (Nat.le_of_ble_eq_true rfl) rfl) rfl) rfl ⟨trivial, trivial, trivial, trivial, trivial⟩

end Go.AW

namespace Go.AW
open Go Go.Proofs
set_option linter.unusedVariables false
set_option maxHeartbeats 1600000 in
set_option maxRecDepth 100000 in
theorem w_law31_MergingRates {p0 : TWordsMerges} {r : Bool} (h : m_law31_MergingRates p0 = some r) : Pure Tryz.prog 4 [HV.agg [slE eStr p0.1, slE eStr p0.2]] (· = HV.bool r) := by
 unfold m_law31_MergingRates at h
 refine Pure.of_body Tryz.func4 rfl rfl (Nat.le_of_ble_eq_true rfl) fun hf => ?_
 unfold Tryz.f4
 dsimp only [enumS, Nat.reduceAdd]
 refine AW.rgs rfl fun K hK => ?_
 refine b_op rfl (o_box rfl rfl rfl ?_)
 refine mv rfl rfl ?_
 refine b_fin hK (s' := ⟨[(1, HV.fptr [slE eStr p0.1, slE eStr p0.2] 0)], []⟩) (le_q rfl rfl) ?_
 clear hK K
 refine AW.seq ?_
 refine AW.rgs rfl fun K hK => ?_
 refine bv rfl (v_loadF ty24 rfl (l_litA rfl (Nat.le_of_ble_eq_true rfl) rfl)) ?_
 obtain ⟨x1, h2, h⟩ := bS h
 refine b_op rfl (o_call rfl rfl rfl rfl (ACallD.pure0 (w_ref31_Great h2)) ?_)
 refine b_fin hK (s' := ⟨[(1, HV.fptr [slE eStr p0.1, slE eStr p0.2] 0), (10, HV.bool x1)], []⟩) (le_q rfl rfl) ?_
 clear hK K
 refine AW.cond rfl (fun hc => ?_) (fun hc => ?_)
 ·have h := ifT hc h
  refine AW.rgs rfl fun K hK => ?_
  obtain ⟨x3, h4, h⟩ := bS h
  refine b_op rfl (o_call rfl rfl rfl rfl (ACallD.pure0 (w_law31_awake h4)) ?_)
  refine mv rfl rfl ?_
  refine b_fin hK (s' := ⟨[(2, HV.bool x3)], []⟩) (le_q rfl rfl) ?_
  clear hK K
  refine AW.ret ?_
  have h := Option.some.inj h
  subst h
  exact ret_pure (hs := [HV.bool x3]) (q := HV.bool x3) (.inr rfl) (resT rfl rfl) rfl trivial
 have h := ifF (bF' hc) h
 refine AW.skip ?_
 refine AW.rgs rfl fun K hK => ?_
 refine bv rfl (v_loadF ty24 rfl (l_litA rfl (Nat.le_of_ble_eq_true rfl) rfl)) ?_
 obtain ⟨x5, h6, h⟩ := bS h
 refine b_op rfl (o_call rfl rfl rfl rfl (ACallD.pure0 (w_merging_Rate h6)) ?_)
 refine mv rfl rfl ?_
 refine bv rfl (v_extract rfl rfl) ?_
 refine bv rfl (v_extract rfl rfl) ?_
 refine b_op rfl (o_alloc (fid := 4) (zs := [HV.bool false, HV.str ([] : List UInt8), HV.bool false, HV.str ([] : List UInt8)]) 4003 rfl rfl ty44 rfl (fun v7 => ?_))
 refine b_op rfl (o_store (cs := [HV.bool x5.1.1.1, HV.str x5.1.1.2, HV.bool x5.1.2.1, HV.str x5.1.2.2]) (zs := [HV.bool x5.1.1.1, HV.str x5.1.1.2, HV.bool x5.1.2.1, HV.str x5.1.2.2]) rfl rfl rfl ty44 rfl rfl rfl rfl rfl ?_)
 refine mv rfl rfl ?_
 refine b_fin hK (s' := ⟨[(1, HV.fptr [slE eStr p0.1, slE eStr p0.2] 0), (3, HV.ptr 4003 v7 0), (4, HV.int .i64 x5.2)], [(4003, v7, .arr 4 44 [HV.bool x5.1.1.1, HV.str x5.1.1.2, HV.bool x5.1.2.1, HV.str x5.1.2.2])]⟩) (le_q rfl rfl) ?_
 clear hK K
 refine AW.seq ?_
 refine AW.rgs rfl fun K hK => ?_
 refine mv rfl rfl ?_
 refine bv rfl (v_bin rfl rfl b_neq) ?_
 refine b_fin hK (s' := ⟨[(1, HV.fptr [slE eStr p0.1, slE eStr p0.2] 0), (3, HV.ptr 4003 v7 0), (18, HV.bool (decide (x5.2 ≠ 0)))], [(4003, v7, .arr 4 44 [HV.bool x5.1.1.1, HV.str x5.1.1.2, HV.bool x5.1.2.1, HV.str x5.1.2.2])]⟩) (le_q rfl rfl) ?_
 clear hK K
 refine AW.cond rfl (fun hc => ?_) (fun hc => ?_)
 ·have hc := of_decide_eq_true hc
  have h := ifT hc h
  refine AW.seqJ h (S := Bool) (V := Unit) (fun a v => ⟨[(2, HV.bool a)], []⟩) (fun a8 w9 h => ?_) (fun k10 h => ?_)
  ·refine AW.ret ?_
   have h := Option.some.inj h
   subst h
   exact ret_pure (hs := [HV.bool a8]) (q := HV.bool a8) (.inr rfl) (resT rfl rfl) rfl trivial
  refine AW.rg rfl fun K hK => ?_
  refine bv rfl (v_loadP ty44 rfl rfl (l_litA rfl (Nat.le_of_ble_eq_true rfl) rfl)) ?_
  refine b_op rfl (o_build (cs := [HV.bool false, HV.str ([] : List UInt8), HV.bool false, HV.str ([] : List UInt8)]) rfl (bl_of ty44 rfl rfl rfl rfl) ?_)
  refine bv rfl (v_bin rfl rfl (b_aeql (hk44 _ _ _ _) (hk44 _ _ _ _) hc44 (hq44 x5.1 ((false, ([] : List UInt8)), (false, ([] : List UInt8)))))) ?_
  refine mv rfl rfl ?_
  by_cases hg13 : x5.1 = ((false, ([] : List UInt8)), (false, ([] : List UInt8)))
  ·have h := ifT hg13 h
   obtain ⟨x11, h12, h⟩ := bS h
   refine b_T rfl rfl rfl rfl (decide_eq_true hg13) (o_call rfl rfl rfl rfl (ACallD.pure0 (w_law31_awake h12)) ?_)
   refine bv rfl (v_pickT rfl rfl rfl) ?_
   refine mv rfl rfl ?_
   refine b_nil (hK _ ?_)
   clear hK K
   exact to_le (s' := ⟨[(2, HV.bool x11)], []⟩) (AS.le_of ⟨rfl, trivial⟩ trivial) ⟨x11, (), h, rfl⟩
  have h := ifF hg13 h
  refine b_F rfl rfl rfl rfl rfl (decide_eq_false hg13) ?_
  refine bv rfl (v_pickF rfl rfl rfl) ?_
  refine mv rfl rfl ?_
  refine b_nil (hK _ ?_)
  clear hK K
  exact to_le (s' := ⟨[(2, HV.bool false)], []⟩) (AS.le_of ⟨rfl, trivial⟩ trivial) ⟨false, (), h, rfl⟩
 have hc := of_decide_eq_false hc
 have h := ifF hc h
 refine AW.skip ?_
 refine AW.seq ?_
 refine AW.seqJ h (S := Bool) (V := Unit) (fun a v => ⟨[(1, HV.fptr [slE eStr p0.1, slE eStr p0.2] 0), (3, HV.ptr 4003 v7 0), (34, HV.bool a)], [(4003, v7, .arr 4 44 [HV.bool x5.1.1.1, HV.str x5.1.1.2, HV.bool x5.1.2.1, HV.str x5.1.2.2])]⟩) (fun a14 w15 h => ?_) (fun k16 h => ?_)
 ·refine AW.cond rfl (fun hc => ?_) (fun hc => ?_)
  ·have h := ifT hc h
   refine AW.rgs rfl fun K hK => ?_
   refine mv rfl rfl ?_
   refine b_fin hK (s' := ⟨[(2, HV.bool false)], []⟩) (le_q rfl rfl) ?_
   clear hK K
   refine AW.ret ?_
   have h := Option.some.inj h
   subst h
   exact ret_pure (hs := [HV.bool false]) (q := HV.bool false) (.inr rfl) (resT rfl rfl) rfl trivial
  have h := ifF (bF' hc) h
  refine AW.skip ?_
  refine AW.dgs 12 follows rfl rfl fun K hK => ?_
  refine sv rfl (v_fieldAddrF fo24_0 rfl) ?_
  refine sv rfl (v_loadF ty22 rfl (l_lit rfl rfl)) ?_
  obtain ⟨x17, h18, h⟩ := bS h
  refine sv rfl (v_idxF ty22 es22 rfl rfl (idx_lt h18)) ?_
  refine sv rfl (v_loadF ty9 rfl (l_cell eStr h18 (o := 0) rfl rfl)) ?_
  refine sv rfl (v_lenS rfl rfl ty9 rfl) ?_
  refine sv rfl (v_fieldAddrF fo24_1 rfl) ?_
  refine sv rfl (v_loadF ty22 rfl (l_lit rfl rfl)) ?_
  obtain ⟨x19, h20, h⟩ := bS h
  refine sv rfl (v_idxF ty22 es22 rfl rfl (idx_lt h20)) ?_
  refine sv rfl (v_loadF ty9 rfl (l_cell eStr h20 (o := 0) rfl rfl)) ?_
  refine sv rfl (v_lenS rfl rfl ty9 rfl) ?_
  refine sv rfl (v_bin rfl rfl b_add) ?_
  refine sm rfl rfl ?_
  refine s_nil ?_
  refine b_fin hK (s' := ⟨[(1, HV.fptr [slE eStr p0.1, slE eStr p0.2] 0), (3, HV.ptr 4003 v7 0), (5, HV.int .i64 (IntKind.wrap .i64 (((x17).length : Int) + ((x19).length : Int))))], [(4003, v7, .arr 4 44 [HV.bool x5.1.1.1, HV.str x5.1.1.2, HV.bool x5.1.2.1, HV.str x5.1.2.2])]⟩) (le_q rfl rfl) ?_
  clear hK K
  refine AW.seq ?_
  refine AW.rgs rfl fun K hK => ?_
  refine mv rfl rfl ?_
  refine b_fin hK (s' := ⟨[(1, HV.fptr [slE eStr p0.1, slE eStr p0.2] 0), (3, HV.ptr 4003 v7 0), (5, HV.int .i64 (IntKind.wrap .i64 (((x17).length : Int) + ((x19).length : Int)))), (46, HV.int .i64 0)], [(4003, v7, .arr 4 44 [HV.bool x5.1.1.1, HV.str x5.1.1.2, HV.bool x5.1.2.1, HV.str x5.1.2.2])]⟩) (le_q rfl rfl) ?_
  clear hK K
  refine AW.lpR h (by first | exact up_then | exact up_to) (S := Int) (V := Unit) (fun a v => ⟨[(1, HV.fptr [slE eStr p0.1, slE eStr p0.2] 0), (3, HV.ptr 4003 v7 0), (5, HV.int .i64 (IntKind.wrap .i64 (((x17).length : Int) + ((x19).length : Int)))), (46, HV.int .i64 a)], [(4003, v7, .arr 4 44 [HV.bool x5.1.1.1, HV.str x5.1.1.2, HV.bool x5.1.2.1, HV.str x5.1.2.2])]⟩) ?_ (X := Unit) (W := Unit) (fun a v => ⟨[], []⟩) (fun a48 w49 h => ?_) (fun a21 w22 st23 h hr24=> ?_)
  ·exact to_le (s' := ⟨[(1, HV.fptr [slE eStr p0.1, slE eStr p0.2] 0), (3, HV.ptr 4003 v7 0), (5, HV.int .i64 (IntKind.wrap .i64 (((x17).length : Int) + ((x19).length : Int)))), (46, HV.int .i64 0)], [(4003, v7, .arr 4 44 [HV.bool x5.1.1.1, HV.str x5.1.1.2, HV.bool x5.1.2.1, HV.str x5.1.2.2])]⟩) (AS.le_of ⟨rfl, rfl, rfl, rfl, trivial⟩ ⟨rfl, trivial⟩) ⟨(), rfl⟩
  ·refine AW.rgs rfl fun K hK => ?_
   refine mv rfl rfl ?_
   refine b_fin hK (s' := ⟨[(2, HV.bool false)], []⟩) (le_q rfl rfl) ?_
   clear hK K
   refine AW.ret ?_
   have h := Option.some.inj h
   subst h
   exact ret_pure (hs := [HV.bool false]) (q := HV.bool false) (.inr rfl) (resT rfl rfl) rfl trivial
  refine AW.rgs rfl fun K hK => ?_
  refine bv rfl (v_bin rfl rfl b_lss) ?_
  refine b_fin hK (s' := ⟨[(1, HV.fptr [slE eStr p0.1, slE eStr p0.2] 0), (3, HV.ptr 4003 v7 0), (5, HV.int .i64 (IntKind.wrap .i64 (((x17).length : Int) + ((x19).length : Int)))), (46, HV.int .i64 a21), (47, HV.bool (decide (a21 < 9)))], [(4003, v7, .arr 4 44 [HV.bool x5.1.1.1, HV.str x5.1.1.2, HV.bool x5.1.2.1, HV.str x5.1.2.2])]⟩) (le_q rfl rfl) ?_
  clear hK K
  refine AW.cseq rfl (fun hc => ?_) (fun hc => ?_)
  ·have hc := of_decide_eq_true hc
   have h := ifT hc h
   refine AW.skip ?_
   refine AW.seq (AW.block ?_)
   refine AW.rgs rfl fun K hK => ?_
   refine mv rfl rfl ?_
   refine mv rfl rfl ?_
   refine b_fin hK (s' := ⟨[(1, HV.fptr [slE eStr p0.1, slE eStr p0.2] 0), (3, HV.ptr 4003 v7 0), (5, HV.int .i64 (IntKind.wrap .i64 (((x17).length : Int) + ((x19).length : Int)))), (6, HV.int .i64 a21), (46, HV.int .i64 a21)], [(4003, v7, .arr 4 44 [HV.bool x5.1.1.1, HV.str x5.1.1.2, HV.bool x5.1.2.1, HV.str x5.1.2.2])]⟩) (le_q rfl rfl) ?_
   clear hK K
   refine AW.rgs rfl fun K hK => ?_
   refine mv rfl rfl ?_
   refine mv rfl rfl ?_
   obtain ⟨x25, h26, h⟩ := bS h
   refine b_op rfl (o_call rfl rfl rfl rfl (ACallD.pure0 (w_rational_Ratio h26)) ?_)
   refine mv rfl rfl ?_
   refine bv rfl (v_extract rfl rfl) ?_
   refine bv rfl (v_extract rfl rfl) ?_
   refine b_op rfl (o_alloc (fid := 4) (zs := [HV.bool false, HV.str ([] : List UInt8), HV.bool false, HV.str ([] : List UInt8)]) 4007 rfl rfl ty44 rfl (fun v27 => ?_))
   refine b_op rfl (o_store (cs := [HV.bool x25.1.1.1, HV.str x25.1.1.2, HV.bool x25.1.2.1, HV.str x25.1.2.2]) (zs := [HV.bool x25.1.1.1, HV.str x25.1.1.2, HV.bool x25.1.2.1, HV.str x25.1.2.2]) rfl rfl rfl ty44 rfl rfl rfl rfl rfl ?_)
   refine mv rfl rfl ?_
   refine b_fin hK (s' := ⟨[(1, HV.fptr [slE eStr p0.1, slE eStr p0.2] 0), (3, HV.ptr 4003 v7 0), (5, HV.int .i64 (IntKind.wrap .i64 (((x17).length : Int) + ((x19).length : Int)))), (6, HV.int .i64 a21), (7, HV.ptr 4007 v27 0), (8, HV.int .i64 x25.2), (46, HV.int .i64 a21)], [(4003, v7, .arr 4 44 [HV.bool x5.1.1.1, HV.str x5.1.1.2, HV.bool x5.1.2.1, HV.str x5.1.2.2]), (4007, v27, .arr 4 44 [HV.bool x25.1.1.1, HV.str x25.1.1.2, HV.bool x25.1.2.1, HV.str x25.1.2.2])]⟩) (le_q rfl rfl) ?_
   clear hK K
   refine AW.seqJ h (S := Bool) (V := Unit) (fun a v => ⟨[(1, HV.fptr [slE eStr p0.1, slE eStr p0.2] 0), (3, HV.ptr 4003 v7 0), (5, HV.int .i64 (IntKind.wrap .i64 (((x17).length : Int) + ((x19).length : Int)))), (6, HV.int .i64 a21), (46, HV.int .i64 a21), (61, HV.bool a)], [(4003, v7, .arr 4 44 [HV.bool x5.1.1.1, HV.str x5.1.1.2, HV.bool x5.1.2.1, HV.str x5.1.2.2])]⟩) (fun a28 w29 h => ?_) (fun k30 h => ?_)
   ·refine AW.cond rfl (fun hc => ?_) (fun hc => ?_)
    ·have h := ifT hc h
     refine AW.seqJ h (S := Bool) (V := Unit) (fun a v => ⟨[(2, HV.bool a)], []⟩) (fun a31 w32 h => ?_) (fun k33 h => ?_)
     ·have h := hr24 _ h
      refine AW.ret ?_
      have h := Option.some.inj h
      subst h
      exact ret_pure (hs := [HV.bool a31]) (q := HV.bool a31) (.inr rfl) (resT rfl rfl) rfl trivial
     refine AW.dg 25 follows rfl rfl fun K hK => ?_
     refine sv rfl (v_fieldAddrF fo24_0 rfl) ?_
     refine sv rfl (v_loadF ty22 rfl (l_lit rfl rfl)) ?_
     refine sv rfl (v_lenF rfl rfl ty22 rfl) ?_
     refine sm rfl rfl ?_
     obtain ⟨h34, h⟩ := ifN h
     refine sv rfl (v_bin rfl rfl (b_shl h34)) ?_
     refine sv rfl (v_bin rfl rfl b_geq) ?_
     refine sm rfl rfl ?_
     by_cases hg46 : (IntKind.wrap .i64 (1 * 2 ^ (min (a21).toNat (IntKind.bits .i64)))) ≤ ((p0.1).length : Int)
     ·have h := ifT hg46 h
      refine s_T rfl rfl rfl rfl rfl (decide_eq_true hg46) (ops_val rfl (v_fieldAddrF fo24_0 rfl) ?_)
      refine s_T rfl rfl rfl rfl rfl rfl (ops_val rfl (v_loadF ty22 rfl (l_lit rfl rfl)) ?_)
      refine s_T rfl rfl rfl rfl rfl rfl (ops_val rfl (v_lenF rfl rfl ty22 rfl) ?_)
      refine s_T rfl rfl rfl rfl rfl rfl (ops_val rfl (mv_val rfl rfl).2 ?_)
      obtain ⟨h35, h⟩ := ifN h
      refine s_T rfl rfl rfl rfl rfl rfl (ops_val rfl (v_bin rfl rfl (b_shl h35)) ?_)
      refine s_T rfl rfl rfl rfl rfl rfl (ops_val rfl (v_bin rfl rfl b_lss) ?_)
      refine sv rfl (v_pickT rfl rfl rfl) ?_
      refine sm rfl rfl ?_
      by_cases hg45 : ((p0.1).length : Int) < (IntKind.wrap .i64 (2 * 2 ^ (min (a21).toNat (IntKind.bits .i64))))
      ·have h := ifT hg45 h
       refine s_T rfl rfl rfl rfl rfl (decide_eq_true hg45) (ops_val rfl (v_loadP ty44 rfl rfl (l_litA rfl (Nat.le_of_ble_eq_true rfl) rfl)) ?_)
       obtain ⟨x36, h37, h⟩ := bS h
       refine s_T rfl rfl rfl rfl rfl rfl (ops_call rfl rfl rfl rfl (ACallD.pure0 (w_integer_Of h37)) ?_)
       obtain ⟨x38, h39, h⟩ := bS h
       refine s_T rfl rfl rfl rfl rfl rfl (ops_call rfl rfl rfl rfl (ACallD.pure0 (w_rational_Of h39)) ?_)
       obtain ⟨x40, h41, h⟩ := bS h
       refine s_T rfl rfl rfl rfl rfl rfl (ops_call rfl rfl rfl rfl (ACallD.pure0 (w_rational_Compare h41)) ?_)
       refine s_T rfl rfl rfl rfl rfl rfl (ops_val rfl (v_bin rfl rfl b_leq) ?_)
       refine sv rfl (v_pickT rfl rfl rfl) ?_
       refine sm rfl rfl ?_
       by_cases hg44 : x40 ≤ 0
       ·have h := ifT hg44 h
        obtain ⟨x42, h43, h⟩ := bS h
        refine s_T rfl rfl rfl rfl rfl (decide_eq_true hg44) (ops_call rfl rfl rfl rfl (ACallD.pure0 (w_law31_awake h43)) ?_)
        refine sv rfl (v_pickT rfl rfl rfl) ?_
        refine sm rfl rfl ?_
        refine s_nil ?_
        refine b_nil (hK _ ?_)
        clear hK K
        exact to_le (s' := ⟨[(2, HV.bool x42)], []⟩) (AS.le_of ⟨rfl, trivial⟩ trivial) ⟨x42, (), h, rfl⟩
       have h := ifF hg44 h
       refine s_F rfl rfl rfl rfl rfl (decide_eq_false hg44) ?_
       refine sv rfl (v_pickF rfl rfl rfl) ?_
       refine sm rfl rfl ?_
       refine s_nil ?_
       refine b_nil (hK _ ?_)
       clear hK K
       exact to_le (s' := ⟨[(2, HV.bool false)], []⟩) (AS.le_of ⟨rfl, trivial⟩ trivial) ⟨false, (), h, rfl⟩
      have h := ifF hg45 h
      refine s_F rfl rfl rfl rfl rfl (decide_eq_false hg45) ?_
      refine s_F rfl rfl rfl rfl rfl rfl ?_
      refine s_F rfl rfl rfl rfl rfl rfl ?_
      refine s_F rfl rfl rfl rfl rfl rfl ?_
      refine s_F rfl rfl rfl rfl rfl rfl ?_
      refine sv rfl (v_pickF rfl rfl rfl) ?_
      refine sm rfl rfl ?_
      refine s_F rfl rfl rfl rfl rfl rfl ?_
      refine sv rfl (v_pickF rfl rfl rfl) ?_
      refine sm rfl rfl ?_
      refine s_nil ?_
      refine b_nil (hK _ ?_)
      clear hK K
      exact to_le (s' := ⟨[(2, HV.bool false)], []⟩) (AS.le_of ⟨rfl, trivial⟩ trivial) ⟨false, (), h, rfl⟩
     have h := ifF hg46 h
     refine s_F rfl rfl rfl rfl rfl (decide_eq_false hg46) ?_
     refine s_F rfl rfl rfl rfl rfl rfl ?_
     refine s_F rfl rfl rfl rfl rfl rfl ?_
     refine s_F rfl rfl rfl rfl rfl rfl ?_
     refine s_F rfl rfl rfl rfl rfl rfl ?_
     refine s_F rfl rfl rfl rfl rfl rfl ?_
     refine sv rfl (v_pickF rfl rfl rfl) ?_
     refine sm rfl rfl ?_
     refine s_F rfl rfl rfl rfl rfl rfl ?_
     refine s_F rfl rfl rfl rfl rfl rfl ?_
     refine s_F rfl rfl rfl rfl rfl rfl ?_
     refine s_F rfl rfl rfl rfl rfl rfl ?_
     refine s_F rfl rfl rfl rfl rfl rfl ?_
     refine sv rfl (v_pickF rfl rfl rfl) ?_
     refine sm rfl rfl ?_
     refine s_F rfl rfl rfl rfl rfl rfl ?_
     refine sv rfl (v_pickF rfl rfl rfl) ?_
     refine sm rfl rfl ?_
     refine s_nil ?_
     refine b_nil (hK _ ?_)
     clear hK K
     exact to_le (s' := ⟨[(2, HV.bool false)], []⟩) (AS.le_of ⟨rfl, trivial⟩ trivial) ⟨false, (), h, rfl⟩
    have h := ifF (bF' hc) h
    refine AW.skip ?_
    refine AW.rg rfl fun K hK => ?_
    refine bv rfl (v_bin rfl rfl b_add) ?_
    refine mv rfl rfl ?_
    refine b_nil (hK _ ?_)
    clear hK K
    exact to_le (s' := ⟨[(1, HV.fptr [slE eStr p0.1, slE eStr p0.2] 0), (3, HV.ptr 4003 v7 0), (5, HV.int .i64 (IntKind.wrap .i64 (((x17).length : Int) + ((x19).length : Int)))), (46, HV.int .i64 (IntKind.wrap .i64 (a21 + 1)))], [(4003, v7, .arr 4 44 [HV.bool x5.1.1.1, HV.str x5.1.1.2, HV.bool x5.1.2.1, HV.str x5.1.2.2])]⟩) (AS.le_of ⟨rfl, rfl, rfl, rfl, trivial⟩ ⟨rfl, trivial⟩) ⟨IntKind.wrap .i64 (a21 + 1), (), h, rfl⟩
   refine AW.rg rfl fun K hK => ?_
   refine mv rfl rfl ?_
   refine bv rfl (v_bin rfl rfl b_eql) ?_
   refine mv rfl rfl ?_
   by_cases hg47 : x25.2 = 0
   ·have h := ifT hg47 h
    refine b_T rfl rfl rfl rfl (decide_eq_true hg47) (o_val rfl (v_loadP ty44 rfl rfl (l_litA rfl (Nat.le_of_ble_eq_true rfl) rfl)) ?_)
    refine b_T rfl rfl rfl rfl rfl (o_val rfl (v_loadP ty44 rfl rfl (l_litA rfl (Nat.le_of_ble_eq_true rfl) rfl)) ?_)
    refine b_T rfl rfl rfl rfl rfl (o_val rfl (v_bin rfl rfl (b_aeql (hk44 _ _ _ _) (hk44 _ _ _ _) hc44 (hq44 x25.1 x5.1))) ?_)
    refine bv rfl (v_pickT rfl rfl rfl) ?_
    refine b_nil (hK _ ?_)
    clear hK K
    exact to_le (s' := ⟨[(1, HV.fptr [slE eStr p0.1, slE eStr p0.2] 0), (3, HV.ptr 4003 v7 0), (5, HV.int .i64 (IntKind.wrap .i64 (((x17).length : Int) + ((x19).length : Int)))), (6, HV.int .i64 a21), (46, HV.int .i64 a21), (61, HV.bool (decide (x25.1 = x5.1)))], [(4003, v7, .arr 4 44 [HV.bool x5.1.1.1, HV.str x5.1.1.2, HV.bool x5.1.2.1, HV.str x5.1.2.2])]⟩) (AS.le_of ⟨rfl, rfl, rfl, rfl, rfl, rfl, trivial⟩ ⟨rfl, trivial⟩) ⟨decide (x25.1 = x5.1), (), h, rfl⟩
   have h := ifF hg47 h
   refine b_F rfl rfl rfl rfl rfl (decide_eq_false hg47) ?_
   refine b_F rfl rfl rfl rfl rfl rfl ?_
   refine b_F rfl rfl rfl rfl rfl rfl ?_
   refine bv rfl (v_pickF rfl rfl rfl) ?_
   refine b_nil (hK _ ?_)
   clear hK K
   exact to_le (s' := ⟨[(1, HV.fptr [slE eStr p0.1, slE eStr p0.2] 0), (3, HV.ptr 4003 v7 0), (5, HV.int .i64 (IntKind.wrap .i64 (((x17).length : Int) + ((x19).length : Int)))), (6, HV.int .i64 a21), (46, HV.int .i64 a21), (61, HV.bool false)], [(4003, v7, .arr 4 44 [HV.bool x5.1.1.1, HV.str x5.1.1.2, HV.bool x5.1.2.1, HV.str x5.1.2.2])]⟩) (AS.le_of ⟨rfl, rfl, rfl, rfl, rfl, rfl, trivial⟩ ⟨rfl, trivial⟩) ⟨false, (), h, rfl⟩
  have hc := of_decide_eq_false hc
  have h := ifF hc h
  refine AW.exit ?_
  exact to_le (s' := ⟨[], []⟩) (AS.le_of trivial trivial) ⟨(), (), h, rfl⟩
 refine AW.rg rfl fun K hK => ?_
 refine bv rfl (v_fieldAddrF fo24_0 rfl) ?_
 refine bv rfl (v_loadF ty22 rfl (l_lit rfl rfl)) ?_
 refine bv rfl (v_lenF rfl rfl ty22 rfl) ?_
 refine bv rfl (v_bin rfl rfl b_eql) ?_
 refine mv rfl rfl ?_
 by_cases hg50 : ((p0.1).length : Int) = 0
 ·have h := ifT hg50 h
  refine b_F rfl rfl rfl rfl rfl (decide_eq_true hg50) ?_
  refine b_F rfl rfl rfl rfl rfl rfl ?_
  refine b_F rfl rfl rfl rfl rfl rfl ?_
  refine b_F rfl rfl rfl rfl rfl rfl ?_
  refine bv rfl (v_pickT rfl rfl rfl) ?_
  refine b_nil (hK _ ?_)
  clear hK K
  exact to_le (s' := ⟨[(1, HV.fptr [slE eStr p0.1, slE eStr p0.2] 0), (3, HV.ptr 4003 v7 0), (34, HV.bool true)], [(4003, v7, .arr 4 44 [HV.bool x5.1.1.1, HV.str x5.1.1.2, HV.bool x5.1.2.1, HV.str x5.1.2.2])]⟩) (AS.le_of ⟨rfl, rfl, rfl, trivial⟩ ⟨rfl, trivial⟩) ⟨true, (), h, rfl⟩
 have h := ifF hg50 h
 refine b_T rfl rfl rfl rfl (decide_eq_false hg50) (o_val rfl (v_fieldAddrF fo24_1 rfl) ?_)
 refine b_T rfl rfl rfl rfl rfl (o_val rfl (v_loadF ty22 rfl (l_lit rfl rfl)) ?_)
 refine b_T rfl rfl rfl rfl rfl (o_val rfl (v_lenF rfl rfl ty22 rfl) ?_)
 refine b_T rfl rfl rfl rfl rfl (o_val rfl (v_bin rfl rfl b_eql) ?_)
 refine bv rfl (v_pickF rfl rfl rfl) ?_
 refine b_nil (hK _ ?_)
 clear hK K
 exact to_le (s' := ⟨[(1, HV.fptr [slE eStr p0.1, slE eStr p0.2] 0), (3, HV.ptr 4003 v7 0), (34, HV.bool (decide (((p0.2).length : Int) = 0)))], [(4003, v7, .arr 4 44 [HV.bool x5.1.1.1, HV.str x5.1.1.2, HV.bool x5.1.2.1, HV.str x5.1.2.2])]⟩) (AS.le_of ⟨rfl, rfl, rfl, trivial⟩ ⟨rfl, trivial⟩) ⟨decide (((p0.2).length : Int) = 0), (), h, rfl⟩

end Go.AW



/- What the functions of graphs compute: checks, steps, sets of states. -/
namespace Go.AW
open Go
set_option linter.unusedSimpArgs false
set_option linter.unusedVariables false

abbrev Gr := TLabelsStatesEdges
abbrev Ed := TFromLabelTo

def cmp3 (x y : Ed) : Int := if x.1 < y.1 then -1 else if y.1 < x.1 then 1 else if x.2.1 < y.2.1 then -1 else if y.2.1 < x.2.1 then 1 else if x.2.2 < y.2.2 then -1 else if y.2.2 < x.2.2 then 1 else 0

structure VG (g : Gr) : Prop where
  l1 : 1 ≤ g.1
  l2 : g.1 ≤ 256
  s0 : 0 ≤ g.2.1
  s1 : g.2.1 ≤ 64
  el : g.2.2.length ≤ 1024
  ed : ∀ x ∈ g.2.2, 0 ≤ x.1 ∧ x.1 < g.2.1 ∧ 0 ≤ x.2.2 ∧ x.2.2 < g.2.1 ∧ 0 ≤ x.2.1 ∧ x.2.1 < g.1
  ord : ∀ (i : Nat) (h : i + 1 < g.2.2.length), cmp3 (g.2.2[i]'(by omega)) g.2.2[i + 1] < 0

end Go.AW

/- A step of a set of states, in the program and in the reference. -/
namespace Go.AW
open Go
set_option linter.unusedSimpArgs false
set_option linter.unusedVariables false

def upto (n : Int) : List Int := (List.range n.toNat).map Int.ofNat
def stepL (g : Gr) (a : List Int) (c : Int) : List Int := (upto g.2.1).filter fun t => g.2.2.any fun e => decide (e.2.2 = t ∧ e.2.1 = c ∧ e.1 ∈ a)
end Go.AW

/- The words of a graph: the reference's lists, and the program's. -/
namespace Go.AW
open Go
set_option linter.unusedSimpArgs false
set_option linter.unusedVariables false

end Go.AW

/- The words of a length: the program's list, the reference's list, and their order. -/
namespace Go.AW
open Go
set_option linter.unusedSimpArgs false
set_option linter.unusedVariables false

def lets (g : Gr) : List UInt8 := letters.take g.1.toNat

section
variable {g : Gr}
/-! ### order -/
/-! ### Words -/
end
end Go.AW

/- Reading words in graphs: ends of words, and the law of factors. -/
namespace Go.AW
open Go
set_option linter.unusedSimpArgs false
set_option linter.unusedVariables false

def lab (c : UInt8) : Int := Lib.indexByte letters c

def WOk (g : Gr) (w : List UInt8) : Prop := w.length ≤ 65536 ∧ ∀ c ∈ w, c ∈ lets g

section
variable {g : Gr}

def endsL (g : Gr) (a : List Int) (w : List UInt8) : List Int := w.foldl (fun a c => stepL g a (lab c)) a
end

theorem WOk.sub {g : Gr} {w u : List UInt8} (h : WOk g w) (hl : u.length ≤ w.length) (hs : ∀ c ∈ u, c ∈ w) : WOk g u := ⟨Nat.le_trans hl h.1, fun c hc => h.2 c (hs c hc)⟩

end Go.AW

/- The least path that is labelled with a word. -/
namespace Go.AW
open Go
set_option linter.unusedSimpArgs false
set_option linter.unusedVariables false

section
variable {g : Gr}

def canB (g : Gr) : List UInt8 → List Bool
  | [] => List.replicate g.2.1.toNat true
  | c :: w => (upto g.2.1).map fun s => g.2.2.any fun x => decide (x.1 = s ∧ x.2.1 = lab c) && (canB g w).getD x.2.2.toNat false
def okE (g : Gr) (w : List UInt8) (c : UInt8) (prev : Option Int) (x : Ed) : Bool := decide (x.2.1 = lab c) && (canB g w).getD x.2.2.toNat false && (match prev with
  | none => true
  | some s => decide (x.1 = s))
def pick (g : Gr) (w : List UInt8) (c : UInt8) (prev : Option Int) : Nat := g.2.2.findIdx (okE g w c prev)
end
end Go.AW

/- language.Path gives the least path. -/
namespace Go.AW
open Go
set_option linter.unusedSimpArgs false
set_option linter.unusedVariables false
section
variable {g : Gr}

end
end Go.AW

/- language.Path: the edges; the whole function. -/
namespace Go.AW
open Go
set_option linter.unusedSimpArgs false
set_option linter.unusedVariables false
section
variable {g : Gr}

theorem loopN_eq {S X : Type} {body : S → Option (Stp S X)} (x0 : X) (n : Nat) (I : Nat → S → Prop)
    (step : ∀ i s, i < n → I i s → (∃ s', body s = some (.next s') ∧ I (i + 1) s') ∨ ∃ x, body s = some (.exit x) ∧ x = x0) (fin : ∀ s, I n s → ∃ x, body s = some (.exit x) ∧ x = x0) {s0 : S} (h : I 0 s0) : loopW body s0 = some x0 := by
  obtain ⟨x, hx, rfl⟩ := loopN n I step fin 0 s0 (Nat.zero_le _) h
  exact hx
end
end Go.AW

/- All words of a length. -/
namespace Go.AW
open Go
set_option linter.unusedSimpArgs false
set_option linter.unusedVariables false

section
variable {g : Gr}
end
end Go.AW

/- The first missing word. -/
namespace Go.AW
open Go
set_option linter.unusedSimpArgs false
set_option linter.unusedVariables false

section
variable {β : Type}
theorem mlook_put (k q : List UInt8) (v : β) : ∀ l : List (List UInt8 × β), mlook q (mputN k v l) = if q = k then some v else mlook q l
  | [] => by simp only [mputN, mlook]
  | (p, x) :: l => by
    simp only [mputN]
    by_cases h : k = p
    · rw [if_pos h]
      simp only [mlook]
      by_cases e : q = p
      · rw [if_pos e, if_pos (e.trans h.symm)]
      · rw [if_neg e, if_neg (fun e' => e (e'.trans h)), if_neg e]
    · rw [if_neg h]
      simp only [mlook]
      by_cases e : q = p
      · rw [if_pos e, if_neg (fun e' => h (e'.symm.trans e)), if_pos e]
      · rw [if_neg e, mlook_put k q v l, if_neg e]
end

section
variable {g : Gr}
end
end Go.AW

/- The words of a length, by reading; the anchor of chapter 11. -/
namespace Go.AW
open Go
set_option linter.unusedSimpArgs false
set_option linter.unusedVariables false

section
variable {g : Gr}
end

end Go.AW

/- The law of words. -/
namespace Go.AW
open Go
set_option linter.unusedSimpArgs false
set_option linter.unusedVariables false

section
variable {g : Gr}
end

end Go.AW

/- word.All; the law of words. -/
namespace Go.AW
open Go
set_option linter.unusedSimpArgs false
set_option linter.unusedVariables false

end Go.AW

/- The law of the first missing word. -/
namespace Go.AW
open Go
set_option linter.unusedSimpArgs false
set_option linter.unusedVariables false
section
variable {g : Gr}

end

end Go.AW

/- The law of letters. -/
namespace Go.AW
open Go
set_option linter.unusedSimpArgs false
set_option linter.unusedVariables false

end Go.AW

/- Reading words, in the program and in the reference. -/
namespace Go.AW
open Go
set_option linter.unusedSimpArgs false
set_option linter.unusedVariables false

section
variable {g : Gr}
end
end Go.AW

/- The law of paths. -/
namespace Go.AW
open Go
set_option linter.unusedSimpArgs false
set_option linter.unusedVariables false
section
variable {g : Gr}

end
end Go.AW

/- The letters that can follow, and the least path, in the reference; the law of reading. -/
namespace Go.AW
open Go
set_option linter.unusedSimpArgs false
set_option linter.unusedVariables false

section
variable {g : Gr}
end

end Go.AW

/- Lists of words from a state, between states, and the first missing word: the program and the reference agree. -/
namespace Go.AW
open Go
set_option linter.unusedSimpArgs false
set_option linter.unusedVariables false

section
variable {g : Gr}
end

end Go.AW

/- Merging codes: when a code is well-formed. -/
namespace Go.AW
open Go
set_option linter.unusedSimpArgs false
set_option linter.unusedVariables false
abbrev Jn := TWordsMerges

def fstN {X : Type} (p : Nat → Bool) (xr : Nat → X) (xf : X) : Nat → Nat → X
  | 0, _ => xf
  | d + 1, i => if p i = true then xr i else fstN p xr xf d (i + 1)
theorem loop_fst {S X : Type} {body : S → Option (Stp S X)} (st : Nat → S) (n : Nat) (p : Nat → Bool) (xr : Nat → X) (xf : X) (h : ∀ i, i < n → body (st i) = if p i = true then some (.exit (xr i)) else some (.next (st (i + 1)))) (hf : body (st n) = some (.exit xf)) {s0 : S} (hs0 : s0 = st 0) :
    loopW body s0 = some (fstN p xr xf n 0) := by
  subst hs0
  have : ∀ d i, i + d = n → loopW body (st i) = some (fstN p xr xf d i) := by
    intro d
    induction d with
    | zero =>
      intro i hi
      have e : i = n := by omega
      subst e
      rw [loopW_exit hf]
      rfl
    | succ d ih =>
      intro i hi
      have hb := h i (by omega)
      unfold fstN
      by_cases hp : p i = true
      · rw [if_pos hp] at hb ⊢
        rw [loopW_exit hb]
      · rw [if_neg hp] at hb ⊢
        rw [loopW_next hb]
        exact ih (i + 1) (by omega)
  exact this n 0 (by omega)
theorem fstN_cases {X : Type} (p : Nat → Bool) (xr : Nat → X) (xf : X) : ∀ d i, (∃ j, i ≤ j ∧ j < i + d ∧ p j = true ∧ (∀ k, i ≤ k → k < j → p k = false) ∧ fstN p xr xf d i = xr j) ∨ ((∀ j, i ≤ j → j < i + d → p j = false) ∧ fstN p xr xf d i = xf)
  | 0, i => .inr ⟨fun j h1 h2 => by omega, rfl⟩
  | d + 1, i => by
    unfold fstN
    by_cases hp : p i = true
    · rw [if_pos hp]
      exact .inl ⟨i, by omega, by omega, hp, fun k h1 h2 => by omega, rfl⟩
    · rw [if_neg hp]
      have hp' : p i = false := by simpa using hp
      rcases fstN_cases p xr xf d (i + 1) with ⟨j, h1, h2, h3, h4, h5⟩ | ⟨h1, h2⟩
      · refine .inl ⟨j, by omega, by omega, h3, fun k hk1 hk2 => ?_, h5⟩
        by_cases hk : k = i
        · subst hk; exact hp'
        · exact h4 k (by omega) hk2
      · refine .inr ⟨fun j hj1 hj2 => ?_, h2⟩
        by_cases hj : j = i
        · subst hj; exact hp'
        · exact h1 j (by omega) (by omega)
theorem fstN_any {α X : Type} (l : List α) (P : α → Bool) {p : Nat → Bool} (hp : ∀ i (h : i < l.length), p i = P l[i]) (xr xf : X) : fstN p (fun _ => xr) xf l.length 0 = if l.any P = true then xr else xf := by
  rcases fstN_cases p (fun _ => xr) xf l.length 0 with ⟨j, h1, h2, h3, h4, h5⟩ | ⟨h1, h2⟩
  · rw [h5, if_pos]
    rw [List.any_eq_true]
    exact ⟨l[j], List.getElem_mem (by omega), by rw [← hp j (by omega)]; exact h3⟩
  · rw [h2, if_neg]
    rw [List.any_eq_true]
    rintro ⟨x, hx, hP⟩
    obtain ⟨j, hj, rfl⟩ := List.getElem_of_mem hx
    rw [← hp j hj, h1 j (by omega) (by omega)] at hP
    cases hP
theorem loop_anyL {α S X : Type} {body : S → Option (Stp S X)} (st : Nat → S) (l : List α) (P : α → Bool) (xr xf : X) (h : ∀ i (hi : i < l.length), body (st i) = if P l[i] = true then some (.exit xr) else some (.next (st (i + 1)))) (hf : body (st l.length) = some (.exit xf)) {s0 : S} (hs0 : s0 = st 0) :
    loopW body s0 = some (if l.any P = true then xr else xf) := by
  rw [← fstN_any l P (p := fun i => if h : i < l.length then P l[i] else false) (fun i hi => by rw [dif_pos hi]) xr xf]
  exact loop_fst st l.length _ _ xf (fun i hi => by rw [h i hi, dif_pos hi]) hf hs0
theorem fstN_find {α X : Type} (l : List α) (P : α → Bool) {p : Nat → Bool} (hp : ∀ i (h : i < l.length), p i = P l[i]) (xr : Nat → X) (xf : X) : fstN p xr xf l.length 0 = if l.any P = true then xr (l.findIdx P) else xf := by
  rcases fstN_cases p xr xf l.length 0 with ⟨j, h1, h2, h3, h4, h5⟩ | ⟨h1, h2⟩
  · have hj : j < l.length := by omega
    have hf : l.findIdx P = j := by
      rw [List.findIdx_eq hj]
      exact ⟨by rw [← hp j hj]; exact h3, fun k hk => by rw [← hp k (by omega)]; exact h4 k (by omega) hk⟩
    rw [h5, if_pos, hf]
    rw [List.any_eq_true]
    exact ⟨l[j], List.getElem_mem hj, by rw [← hp j hj]; exact h3⟩
  · rw [h2, if_neg]
    rw [List.any_eq_true]
    rintro ⟨x, hx, hP⟩
    obtain ⟨j, hj, rfl⟩ := List.getElem_of_mem hx
    rw [← hp j hj, h1 j (by omega) (by omega)] at hP
    cases hP
theorem loop_findL {α S X : Type} {body : S → Option (Stp S X)} (st : Nat → S) (l : List α) (P : α → Bool) (xr : Nat → X) (xf : X) (h : ∀ i (hi : i < l.length), body (st i) = if P l[i] = true then some (.exit (xr i)) else some (.next (st (i + 1)))) (hf : body (st l.length) = some (.exit xf)) {s0 : S} (hs0 : s0 = st 0) :
    loopW body s0 = some (if l.any P = true then xr (l.findIdx P) else xf) := by
  rw [← fstN_find l P (p := fun i => if h : i < l.length then P l[i] else false) (fun i hi => by rw [dif_pos hi]) xr xf]
  exact loop_fst st l.length _ _ xf (fun i hi => by rw [h i hi, dif_pos hi]) hf hs0

theorem lpE {V R Y : Type} {o : Option (Ou V R)} {x : Ou V R} {M : V → Option Y} {Rt : R → Option Y} {r : Option Y} (h : o = some x) (hr : lpO (some x) M Rt = r) : lpO o M Rt = r := by rw [h]; exact hr

def firstI {α : Type} (l : List α) (P : α → Bool) : Int := if l.any P = true then (l.findIdx P : Nat) else -1
theorem firstI_nn {α : Type} {l : List α} {P : α → Bool} : 0 ≤ firstI l P ↔ l.any P = true := by
  unfold firstI
  split <;> simp_all
theorem IndexFuncS {l : List (List UInt8)} {p : List UInt8 → Option Bool} (P : List UInt8 → Bool) (hm : l.length ≤ 9223372036854775807) (hp : ∀ x ∈ l, p x = some (P x)) : m_slices_IndexFunc_Lstring_stringG l p = some (firstI l P) := by
  unfold m_slices_IndexFunc_Lstring_stringG
  refine lpE (loop_findL (fun i => (i : Int)) l P (fun i => Ou.ret (i : Int)) (Ou.go ()) (fun i hi => ?_) (by rw [if_neg (not_lt_int _)]) rfl) ?_
  · rw [if_pos (lt_int hi), ix hi]
    simp only [Option.bind_some, hp _ (List.getElem_mem hi), nx hm hi]
  · unfold firstI
    split <;> rfl
theorem ContainsFuncS {l : List (List UInt8)} {p : List UInt8 → Option Bool} (P : List UInt8 → Bool) (hm : l.length ≤ 9223372036854775807) (hp : ∀ x ∈ l, p x = some (P x)) : m_slices_ContainsFunc_Lstring_stringG l p = some (l.any P) := by
  unfold m_slices_ContainsFunc_Lstring_stringG
  rw [IndexFuncS P hm hp]
  simp only [Option.bind_some, firstI_nn, Bool.decide_eq_true]

def fstLen (l : List (List UInt8)) : Nat := (l.headD []).length
def unev (l : List (List UInt8)) : Bool := l.any fun w => decide (w.length ≠ fstLen l)
def bitB (c : UInt8) : Bool := c == 48 || c == 49
def lett (l : List (List UInt8)) : Bool := l.any fun w => w.any fun c => !bitB c
def rept (l : List (List UInt8)) : Bool := !decide l.Nodup
theorem idx0 {l : List (List UInt8)} (h : l ≠ []) : idx l 0 = some (l.headD []) := by
  cases l with
  | nil => exact absurd rfl h
  | cons a l => rfl
theorem hdl (l : List (List UInt8)) : (l.headD []).length = fstLen l := rfl
def Sm (l : List (List UInt8)) : Prop := l.length ≤ 9223372036854775807 ∧ ∀ w ∈ l, w.length ≤ 4611686018427387904

theorem uneven_eq {l : List (List UInt8)} (h : l ≠ []) (hs : Sm l) : m_merging_uneven l = some (unev l) := by
  unfold m_merging_uneven
  rw [ContainsFuncS (fun w => decide (w.length ≠ fstLen l)) hs.1 fun w hw => ?_]
  · rfl
  · unfold m_merging_uneven_1
    rw [idx0 h]
    simp only [Option.bind_some, hdl]
    congr 1
    exact decide_eq_decide.2 (by omega)
theorem count2 : ∀ w : List UInt8, w.count 48 + w.count 49 ≤ w.length ∧ (w.count 48 + w.count 49 = w.length ↔ ∀ c ∈ w, bitB c = true)
  | [] => by simp
  | c :: w => by
    obtain ⟨h1, h2⟩ := count2 w
    by_cases h48 : c = 48
    · subst h48
      simp [bitB] at h2 ⊢
      refine ⟨by omega, ?_⟩
      rw [← h2]; omega
    · by_cases h49 : c = 49
      · subst h49
        simp [bitB] at h2 ⊢
        refine ⟨by omega, ?_⟩
        rw [← h2]; omega
      · have e1 : (c :: w).count 48 = w.count 48 := by simp [List.count_cons, h48]
        have e2 : (c :: w).count 49 = w.count 49 := by simp [List.count_cons, h49]
        rw [e1, e2, List.length_cons]
        refine ⟨by omega, ⟨fun h => by omega, fun h => ?_⟩⟩
        have := h c (List.mem_cons_self ..)
        simp [bitB, h48, h49] at this
theorem letters_eq {l : List (List UInt8)} (hs : Sm l) : m_merging_letters l = some (lett l) := by
  unfold m_merging_letters
  rw [ContainsFuncS (fun w => w.any fun c => !bitB c) hs.1 fun w hw => ?_]
  · rfl
  · unfold m_merging_letters_1
    have hl := hs.2 w hw
    obtain ⟨h1, h2⟩ := count2 w
    simp only [m_strings_Count, Option.bind_some, Lib.countByte]
    congr 1
    have e : IntKind.wrap .i64 (((w.count 48 : Nat) : Int) + ((w.count 49 : Nat) : Int)) = ((w.count 48 + w.count 49 : Nat) : Int) := by
      rw [w64 (by omega) (by omega)]; omega
    rw [e]
    by_cases hc : w.count 48 + w.count 49 = w.length
    · have := h2.1 hc
      rw [decide_eq_false (by omega), eq_comm]
      rw [Bool.eq_false_iff]
      intro ha
      obtain ⟨c, hc', hb⟩ := List.any_eq_true.1 ha
      rw [this c hc'] at hb
      cases hb
    · rw [decide_eq_true (by omega), eq_comm, List.any_eq_true]
      refine Classical.byContradiction fun hn => hc (h2.2 fun c hc' => Classical.byContradiction fun hb => hn ⟨c, hc', by simpa using hb⟩)
theorem nodup_iff {α : Type} {l : List α} : l.Nodup ↔ ∀ i (h : i < l.length), l[i] ∉ l.take i := by
  rw [List.nodup_iff_pairwise_ne, List.pairwise_iff_getElem]
  constructor
  · intro h i hi hm
    obtain ⟨j, hj, e⟩ := List.getElem_of_mem hm
    rw [List.length_take] at hj
    rw [List.getElem_take] at e
    exact h j i (by omega) hi (by omega) e
  · intro h i j hi hj hij e
    refine h j hj ?_
    rw [← e]
    have hq : i < (l.take j).length := by rw [List.length_take]; omega
    have := List.getElem_mem hq
    rwa [List.getElem_take] at this
theorem rept_any {l : List (List UInt8)} {p : Nat → Bool} (hp : ∀ i (h : i < l.length), p i = decide (l[i] ∈ l.take i)) {X : Type} (xr xf : X) : fstN p (fun _ => xr) xf l.length 0 = if rept l = true then xr else xf := by
  rcases fstN_cases p (fun _ => xr) xf l.length 0 with ⟨j, h1, h2, h3, h4, h5⟩ | ⟨h1, h2⟩
  · rw [h5, if_pos]
    have hj : j < l.length := by omega
    rw [hp j hj, decide_eq_true_eq] at h3
    simp only [rept, Bool.not_eq_true', decide_eq_false_iff_not, nodup_iff]
    exact fun hn => hn j hj h3
  · rw [h2, if_neg]
    simp only [rept, Bool.not_eq_true', decide_eq_false_iff_not, nodup_iff, Classical.not_not]
    intro i hi hm
    have := h1 i (by omega) (by omega)
    rw [hp i hi] at this
    exact of_decide_eq_false this hm
def seenM (l : List (List UInt8)) (i : Nat) : List (List UInt8 × Bool) := (l.take i).foldl (fun m w => mputN w true m) []
theorem seenM_succ {l : List (List UInt8)} {i : Nat} (hi : i < l.length) : seenM l (i + 1) = mputN l[i] true (seenM l i) := by
  unfold seenM
  rw [← List.take_append_getElem hi, List.foldl_append]
  rfl
theorem seenM_look {l : List (List UInt8)} (q : List UInt8) : ∀ i, i ≤ l.length → (mlook q (seenM l i)).getD false = decide (q ∈ l.take i) := by
  intro i
  induction i with
  | zero => intro _; simp [seenM, mlook]
  | succ i ih =>
    intro hi
    have hi' : i < l.length := by omega
    have e2 : (q ∈ l.take (i + 1)) ↔ q ∈ l.take i ∨ q = l[i] := by rw [← List.take_append_getElem hi', List.mem_append, List.mem_singleton]
    rw [seenM_succ hi', mlook_put]
    by_cases e : q = l[i]
    · rw [if_pos e, decide_eq_true (e2.2 (.inr e))]; rfl
    · rw [if_neg e, ih (by omega)]; simp [e2, e]
theorem repeats_eq {l : List (List UInt8)} (hs : Sm l) : m_merging_repeats l = some (rept l) := by
  unfold m_merging_repeats
  refine lpE (loop_fst (fun i => ((i : Int), seenM l i)) l.length (fun i => if h : i < l.length then decide (l[i] ∈ l.take i) else false) (fun _ => Ou.ret true) (Ou.go ()) (fun i hi => ?_) (by simp only; rw [if_neg (not_lt_int _)]) rfl) ?_
  · simp only
    rw [if_pos (lt_int hi), ix hi]
    simp only [Option.bind_some, dif_pos hi, seenM_look l[i] i (Nat.le_of_lt hi), nx hs.1 hi, seenM_succ hi]
  · rw [rept_any (fun i hi => by rw [dif_pos hi])]
    split
    · rename_i h; rw [h]; rfl
    · rename_i h; rw [Bool.not_eq_true] at h; rw [h]; rfl
def formE (j : Jn) : Int :=
  if j.1 = [] ∨ j.2 = [] then 5 else if 256 < j.1.length ∨ 256 < j.2.length then 4 else if unev j.1 = true ∨ unev j.2 = true then 11
  else if fstLen j.1 < 1 ∨ 16 < fstLen j.1 ∨ 16 < fstLen j.2 then 2 else if lett j.1 = true ∨ lett j.2 = true then 13 else if rept j.1 = true ∨ rept j.2 = true then 7 else 0
def SmJ (j : Jn) : Prop := Sm j.1 ∧ Sm j.2

theorem i256 (n : Nat) : (256 < (n : Int)) ↔ 256 < n := by omega
theorem i16 (n : Nat) : (16 < (n : Int)) ↔ 16 < n := by omega
theorem i1 (n : Nat) : ((n : Int) < 1) ↔ n < 1 := by omega
theorem form_eq {j : Jn} (hs : SmJ j) : m_merging_form j = some (formE j) := by
  obtain ⟨h1, h2⟩ := hs
  unfold m_merging_form formE
  simp only [jp]
  by_cases e1 : j.1 = []
  · simp [e1]
  by_cases e2 : j.2 = []
  · simp [e1, e2]
  have l1 : ¬ (j.1.length : Int) = 0 := by have := List.length_pos_iff.2 e1; omega
  have l2 : ¬ (j.2.length : Int) = 0 := by have := List.length_pos_iff.2 e2; omega
  rw [if_neg l1, decide_eq_false l2, if_neg Bool.false_ne_true, uneven_eq e1 h1, uneven_eq e2 h2, letters_eq h1, letters_eq h2, repeats_eq h1, repeats_eq h2, idx0 e1, idx0 e2]
  simp only [Option.bind_some, hdl, i256, i16, i1, e1, e2, or_self, if_false]
  by_cases c1 : 256 < j.1.length
  · simp [c1]
  by_cases c2 : 256 < j.2.length
  · simp [c1, c2]
  by_cases u1 : unev j.1 = true
  · simp [c1, c2, u1]
  by_cases u2 : unev j.2 = true
  · simp [c1, c2, u1, u2]
  by_cases f1 : fstLen j.1 < 1
  · simp only [c1, c2, u1, u2, f1, decide_true, decide_false, if_true, if_false, Bool.false_eq_true, or_self, true_or, not_false_eq_true, Bool.not_true, Bool.not_false]
  by_cases f2 : 16 < fstLen j.1
  · simp only [c1, c2, u1, u2, f1, f2, decide_true, decide_false, if_true, if_false, Bool.false_eq_true, or_self, true_or, or_true, not_false_eq_true, Bool.not_true, Bool.not_false]
  by_cases f3 : 16 < fstLen j.2
  · simp only [c1, c2, u1, u2, f1, f2, f3, decide_true, decide_false, if_true, if_false, Bool.false_eq_true, or_self, true_or, or_true, not_false_eq_true, Bool.not_true, Bool.not_false]
  have b1 := Bool.eq_false_iff.2 u1
  have b2 := Bool.eq_false_iff.2 u2
  simp only [c1, c2, b1, b2, f1, f2, f3, decide_true, decide_false, if_true, if_false, Bool.false_eq_true, or_self, not_false_eq_true, Bool.not_true, Bool.not_false]
  cases lett j.1 <;> cases lett j.2 <;> cases rept j.1 <;> cases rept j.2 <;> rfl
end Go.AW

/- Merging codes: when a code is valid for a graph. -/
namespace Go.AW
open Go
set_option linter.unusedSimpArgs false
set_option linter.unusedVariables false

def inW (g : Gr) (w : List UInt8) : Bool := decide (endsL g (upto g.2.1) w ≠ [])
def bitW (w : List UInt8) : Prop := ∀ c ∈ w, bitB c = true
section
variable {g : Gr}
structure FormOk (j : Jn) : Prop where
  ne1 : j.1 ≠ []
  ne2 : j.2 ≠ []
  l1 : j.1.length ≤ 256
  l2 : j.2.length ≤ 256
  n : ∀ w ∈ j.1, w.length = fstLen j.1
  r : ∀ w ∈ j.2, w.length = fstLen j.2
  n1 : 1 ≤ fstLen j.1
  n16 : fstLen j.1 ≤ 16
  r16 : fstLen j.2 ≤ 16
  b1 : ∀ w ∈ j.1, bitW w
  b2 : ∀ w ∈ j.2, bitW w
  d1 : j.1.Nodup
  d2 : j.2.Nodup
theorem unev_iff {l : List (List UInt8)} : unev l = true ↔ ¬ ∀ w ∈ l, w.length = fstLen l := by
  simp [unev]
theorem lett_iff {l : List (List UInt8)} : lett l = true ↔ ¬ ∀ w ∈ l, bitW w := by
  simp [lett, bitW]
theorem rept_iff {l : List (List UInt8)} : rept l = true ↔ ¬ l.Nodup := by
  simp [rept]
theorem formE_zero {j : Jn} (h : formE j = 0) : FormOk j := by
  unfold formE at h
  split at h
  · cases h
  rename_i h1
  split at h
  · cases h
  rename_i h2
  split at h
  · cases h
  rename_i h3
  split at h
  · cases h
  rename_i h4
  split at h
  · cases h
  rename_i h5
  split at h
  · cases h
  rename_i h6
  simp only [unev_iff, lett_iff, rept_iff, not_or, Classical.not_not] at h1 h2 h3 h4 h5 h6
  exact ⟨h1.1, h1.2, by omega, by omega, h3.1, h3.2, by omega, by omega, by omega, h5.1, h5.2, h6.1, h6.2⟩
theorem FormOk.sm {j : Jn} (h : FormOk j) : SmJ j := by
  have := h.l1; have := h.l2; have := h.n16; have := h.r16
  exact ⟨⟨by omega, fun w hw => by rw [h.n w hw]; omega⟩, ⟨by omega, fun w hw => by rw [h.r w hw]; omega⟩⟩

def joinsB (g : Gr) (ms : List (List UInt8)) (a b : List UInt8) : Bool := ms.any fun m => inW g (a ++ m ++ b)
structure VJ (j : Jn) (g : Gr) : Prop where
  hv : VG g
  h2 : g.1 = 2
  f : FormOk j
  w : ∀ x ∈ j.1, inW g x = true
  p : ∀ a ∈ j.1, ∀ b ∈ j.1, joinsB g j.2 a b = true
theorem great_top (a b : Int) (L : Option Bool) : (if 6 < a then (if a ≤ 256 then (if True then some true else L) else (if 8 < b then (if b ≤ 256 then (if True then some true else L) else (if 259 < a then (if True then some true else L) else (if decide (259 < b) = true then some true else L))) else (if 259 < a then (if True then some true else L) else (if decide (259 < b) = true then some true else L))))
    else (if 8 < b then (if b ≤ 256 then (if True then some true else L) else (if 259 < a then (if True then some true else L) else (if decide (259 < b) = true then some true else L))) else (if 259 < a then (if True then some true else L) else (if decide (259 < b) = true then some true else L)))) = if (6 < a ∧ a ≤ 256) ∨ (8 < b ∧ b ≤ 256) ∨ 259 < a ∨ 259 < b then some true else L := by
  by_cases h1 : 6 < a <;> by_cases h2 : a ≤ 256 <;> by_cases h3 : 8 < b <;> by_cases h4 : b ≤ 256 <;> by_cases h5 : 259 < a <;> by_cases h6 : 259 < b <;>
    simp only [h1, h2, h3, h4, h5, h6, if_true, if_false, decide_true, decide_false, true_and, false_and, and_true, and_false, true_or, or_true, or_false, false_or, Bool.false_eq_true, not_false_eq_true, not_true_eq_false]
def bigW (w : List UInt8) : Bool := decide ((8 < w.length ∧ w.length ≤ 16) ∨ 20 < w.length)
theorem great_loop {l : List (List UInt8)} (hm : l.length ≤ 9223372036854775807) : loopW (S := Int) (X := Ou (Unit) (Bool)) (fun a4 =>
        if a4 < ((l).length : Int) then
         jp (fun (a8 : Bool) =>
           if a8 = true then
            some (Stp.exit (Ou.ret true))
           else
            some (Stp.next (IntKind.wrap .i64 (a4 + 1))))
           fun k10 =>
          (idx l a4).bind fun x11 =>
          if 8 < ((x11).length : Int) then
           (idx l a4).bind fun x13 =>
           if ((x13).length : Int) ≤ 16 then
            k10 true
           else
            (idx l a4).bind fun x15 =>
            k10 (decide (20 < ((x15).length : Int)))
          else
           (idx l a4).bind fun x18 =>
           k10 (decide (20 < ((x18).length : Int)))
        else
         some (Stp.exit (Ou.go ()))) 0 = some (if l.any bigW = true then Ou.ret true else Ou.go ()) := by
  refine loop_anyL (fun i => (i : Int)) l bigW (Ou.ret true) (Ou.go ()) (fun i hi => ?_) (by rw [if_neg (not_lt_int _)]) rfl
  rw [if_pos (lt_int hi), ix hi]
  simp only [jp, Option.bind_some, nx hm hi, bigW, decide_eq_true_eq]
  by_cases h1 : 8 < l[i].length
  · rw [if_pos (show (8 : Int) < (l[i].length : Int) by omega)]
    by_cases h2 : l[i].length ≤ 16
    · rw [if_pos (show (l[i].length : Int) ≤ 16 by omega), if_pos trivial, if_pos (.inl ⟨h1, h2⟩)]
    · rw [if_neg (show ¬ (l[i].length : Int) ≤ 16 by omega)]
      by_cases h3 : 20 < l[i].length
      · rw [if_pos (show (20 : Int) < (l[i].length : Int) by omega), if_pos (.inr h3)]
      · rw [if_neg (show ¬ (20 : Int) < (l[i].length : Int) by omega), if_neg (by omega)]
  · rw [if_neg (show ¬ (8 : Int) < (l[i].length : Int) by omega)]
    by_cases h3 : 20 < l[i].length
    · rw [if_pos (show (20 : Int) < (l[i].length : Int) by omega), if_pos (.inr h3)]
    · rw [if_neg (show ¬ (20 : Int) < (l[i].length : Int) by omega), if_neg (by omega)]
structure JSize (j : Jn) : Prop where
  sm : SmJ j
  w : j.1.length ≤ 6 ∨ 256 < j.1.length
  m : j.2.length ≤ 8 ∨ 256 < j.2.length
  lw : ∀ w ∈ j.1, w.length ≤ 8 ∨ 16 < w.length
  lm : ∀ w ∈ j.2, w.length ≤ 8 ∨ 16 < w.length
theorem bigW_no {l : List (List UInt8)} (h : ¬ l.any bigW = true) : ∀ w ∈ l, (w.length ≤ 8 ∨ 16 < w.length) ∧ w.length ≤ 20 := by
  intro w hw
  simp only [List.any_eq_true, not_exists, not_and, bigW, decide_eq_true_eq] at h
  have := h w hw
  omega
theorem GreatJ_tot (j : Jn) : ∃ b, m_ref31_Great j = some b ∧ (b = false → JSize j) := by
  unfold m_ref31_Great
  simp only [jp]
  rw [great_top]
  by_cases hc : (6 < (j.1.length : Int) ∧ (j.1.length : Int) ≤ 256) ∨ (8 < (j.2.length : Int) ∧ (j.2.length : Int) ≤ 256) ∨ 259 < (j.1.length : Int) ∨ 259 < (j.2.length : Int)
  · rw [if_pos hc]
    exact ⟨true, rfl, fun h => by cases h⟩
  · rw [if_neg hc]
    have e1 := great_loop (l := j.1) (by omega)
    have e2 := great_loop (l := j.2) (by omega)
    simp only [jp] at e1 e2
    rw [e1, e2]
    by_cases b1 : j.1.any bigW = true
    · rw [if_pos b1]
      exact ⟨true, rfl, fun h => by cases h⟩
    · rw [if_neg b1]
      simp only [lpO]
      by_cases b2 : j.2.any bigW = true
      · rw [if_pos b2]
        exact ⟨true, rfl, fun h => by cases h⟩
      · rw [if_neg b2]
        refine ⟨false, rfl, fun _ => ?_⟩
        have w1 := bigW_no b1
        have w2 := bigW_no b2
        exact ⟨⟨⟨by omega, fun w hw => by have := w1 w hw; omega⟩, ⟨by omega, fun w hw => by have := w2 w hw; omega⟩⟩, by omega, by omega, fun w hw => (w1 w hw).1, fun w hw => (w2 w hw).1⟩
structure VS (j : Jn) (g : Gr) : Prop extends VJ j g where
  w6 : j.1.length ≤ 6
  m8 : j.2.length ≤ 8
  n8 : fstLen j.1 ≤ 8
  r8 : fstLen j.2 ≤ 8
  g8 : g.2.1 ≤ 8
  e30 : g.2.2.length ≤ 30
theorem fst_mem {l : List (List UInt8)} (h : l ≠ []) : l.headD [] ∈ l := by
  cases l with
  | nil => exact absurd rfl h
  | cons a l => exact List.mem_cons_self ..
theorem FormOk.small {j : Jn} (h : FormOk j) (hs : JSize j) : j.1.length ≤ 6 ∧ j.2.length ≤ 8 ∧ fstLen j.1 ≤ 8 ∧ fstLen j.2 ≤ 8 := by
  have := h.l1; have := h.l2; have := h.n16; have := h.r16
  have h1 := hs.w
  have h2 := hs.m
  have h3 := hs.lw _ (fst_mem h.ne1)
  have h4 := hs.lm _ (fst_mem h.ne2)
  rw [hdl] at h3 h4
  omega
end
end Go.AW

/- Models that can be evaluated, printed by mk2.py. -/
namespace Go.AW
open Go
set_option linter.unusedVariables false
def c_rational_canonical (p0 : TNumDen) : Option (TNumDen) :=
 (c_rational_lowest (p0.1.1, p0.1.2) (p0.2.1, p0.2.2)).bind fun x2 =>
 some x2
set_option maxHeartbeats 1600000 in
theorem le_rational_canonical {p0 : TNumDen} : Lq (c_rational_canonical p0) (m_rational_canonical p0) := by
  unfold c_rational_canonical m_rational_canonical
  repeat' with_reducible first | intro _ | exact Lq.refl _ | exact Lq.none | apply Lq.ite | apply Lq.bind | apply Lq.jp | apply Lq.loop | apply Lq.lpO | apply Lq.forL | apply_assumption | apply le_rational_lowest

def c_integer_multiply (p0 : List (Int)) (p1 : List (Int)) : Option ((List (Int))) :=
 jp (fun (a1 : Bool) =>
   if a1 = true then
    some []
   else
    if 0 ≤ (IntKind.wrap .i64 (((p0).length : Int) + ((p1).length : Int)) : Int) ∧ (IntKind.wrap .i64 (((p0).length : Int) + ((p1).length : Int)) : Int) ≤ IntKind.wrap .i64 (((p0).length : Int) + ((p1).length : Int)) ∧ (IntKind.wrap .i64 (((p0).length : Int) + ((p1).length : Int)) : Int) * 4 ≤ 281474976710656 then
     (loopE (S := Int × (List Int)) (X := (List Int)) (fun a6 =>
         if a6.1 < ((p0).length : Int) then
          (idx p0 a6.1).bind fun x10 =>
          (loopE (S := Int × Int × (List Int)) (X := (List Int) × Int) (fun a12 =>
              if a12.2.1 < ((p1).length : Int) then
               (idx p1 a12.2.1).bind fun x16 =>
               (idx a12.2.2 (IntKind.wrap .i64 (a6.1 + a12.2.1))).bind fun x18 =>
               (idx a12.2.2 (IntKind.wrap .i64 (a6.1 + a12.2.1))).bind fun x20 =>
               (idx a12.2.2 (IntKind.wrap .i64 (a6.1 + a12.2.1))).bind fun x22 =>
               some (Stp.next (Int.fdiv (IntKind.wrap .u64 ((IntKind.wrap .u64 ((IntKind.wrap .u64 ((IntKind.wrap .u64 x10) * (IntKind.wrap .u64 x16))) + (IntKind.wrap .u64 x20))) + a12.1)) (2 ^ (min (32 : Int).toNat (IntKind.bits .u64))), IntKind.wrap .i64 (a12.2.1 + 1), (a12.2.2).set (IntKind.wrap .i64 (a6.1 + a12.2.1)).toNat (IntKind.wrap .u32 (IntKind.wrap .u64 ((IntKind.wrap .u64 ((IntKind.wrap .u64 ((IntKind.wrap .u64 x10) * (IntKind.wrap .u64 x16))) + (IntKind.wrap .u64 x20))) + a12.1)))))
              else
               some (Stp.exit (a12.2.2, a12.1))) (0, 0, a6.2)).bind fun a24 =>
          (idx a24.1 (IntKind.wrap .i64 (a6.1 + ((p1).length : Int)))).bind fun x26 =>
          some (Stp.next (IntKind.wrap .i64 (a6.1 + 1), (a24.1).set (IntKind.wrap .i64 (a6.1 + ((p1).length : Int))).toNat (IntKind.wrap .u32 a24.2)))
         else
          some (Stp.exit a6.2)) (0, List.replicate (IntKind.wrap .i64 (((p0).length : Int) + ((p1).length : Int))).toNat (0 : Int))).bind fun a28 =>
     (c_integer_trim a28).bind fun x30 =>
     some x30
    else none)
   fun k3 =>
  if ((p0).length : Int) = 0 then
   k3 true
  else
   k3 (decide (((p1).length : Int) = 0))
set_option maxHeartbeats 1600000 in
theorem le_integer_multiply {p0 : List (Int)} {p1 : List (Int)} : Lq (c_integer_multiply p0 p1) (m_integer_multiply p0 p1) := by
  unfold c_integer_multiply m_integer_multiply
  repeat' with_reducible first | intro _ | exact Lq.refl _ | exact Lq.none | apply Lq.ite | apply Lq.bind | apply Lq.jp | apply Lq.loop | apply Lq.lpO | apply Lq.forL | apply_assumption | apply le_integer_trim

def c_integer_Mul (p0 : TNegMag) (p1 : TNegMag) : Option (TNegMag) :=
 (c_integer_digits p0).bind fun x2 =>
 (c_integer_digits p1).bind fun x4 =>
 (c_integer_multiply x2 x4).bind fun x6 =>
 (c_integer_number (!(p0.1 == p1.1)) x6).bind fun x8 =>
 some x8
set_option maxHeartbeats 1600000 in
theorem le_integer_Mul {p0 : TNegMag} {p1 : TNegMag} : Lq (c_integer_Mul p0 p1) (m_integer_Mul p0 p1) := by
  unfold c_integer_Mul m_integer_Mul
  repeat' with_reducible first | intro _ | exact Lq.refl _ | exact Lq.none | apply Lq.ite | apply Lq.bind | apply Lq.jp | apply Lq.loop | apply Lq.lpO | apply Lq.forL | apply_assumption | apply le_integer_digits | apply le_integer_multiply | apply le_integer_number

def c_rational_Compare (p0 : TNumDen) (p1 : TNumDen) : Option (Int) :=
 (c_rational_canonical p0).bind fun x3 =>
 (c_rational_canonical p1).bind fun x5 =>
 (c_integer_Mul (x3.1.1, x3.1.2) (x5.2.1, x5.2.2)).bind fun x7 =>
 (c_integer_Mul (x5.1.1, x5.1.2) (x3.2.1, x3.2.2)).bind fun x9 =>
 (c_integer_Compare x7 x9).bind fun x11 =>
 some x11
set_option maxHeartbeats 1600000 in
theorem le_rational_Compare {p0 : TNumDen} {p1 : TNumDen} : Lq (c_rational_Compare p0 p1) (m_rational_Compare p0 p1) := by
  unfold c_rational_Compare m_rational_Compare
  repeat' with_reducible first | intro _ | exact Lq.refl _ | exact Lq.none | apply Lq.ite | apply Lq.bind | apply Lq.jp | apply Lq.loop | apply Lq.lpO | apply Lq.forL | apply_assumption | apply le_integer_Compare | apply le_integer_Mul | apply le_rational_canonical

def c_rational_Of (p0 : TNegMag) : Option (TNumDen) :=
 (c_integer_Of 1).bind fun x2 =>
 (c_rational_lowest p0 x2).bind fun x4 =>
 some x4
set_option maxHeartbeats 1600000 in
theorem le_rational_Of {p0 : TNegMag} : Lq (c_rational_Of p0) (m_rational_Of p0) := by
  unfold c_rational_Of m_rational_Of
  repeat' with_reducible first | intro _ | exact Lq.refl _ | exact Lq.none | apply Lq.ite | apply Lq.bind | apply Lq.jp | apply Lq.loop | apply Lq.lpO | apply Lq.forL | apply_assumption | apply le_integer_Of | apply le_rational_lowest

end Go.AW

/- MergingRates. -/
namespace Go.AW
open Go
set_option linter.unusedSimpArgs false
set_option linter.unusedVariables false
def L16 : List Nat := [1, 2, 3, 4, 5, 6, 7, 8, 9, 10, 11, 12, 13, 14, 15, 16]
def ratV (p L : Nat) : TNumDen := ((c_rational_Ratio (p : Int) (L : Int)).getD (((false, []), (false, [])), 0)).1
def pk (k : Nat) : Nat := if k ≤ 1 then 0 else if k ≤ 3 then 1 else 2
theorem pk_le (k : Nat) : pk k ≤ 2 := by
  unfold pk
  repeat' split
  all_goals omega
theorem pk_one {k : Nat} (h : k ≤ 3) : pk k ≤ 1 := by
  unfold pk
  repeat' split
  all_goals omega
theorem rat_c : ∀ p ∈ [0, 1, 2], ∀ L ∈ L16, c_rational_Ratio ((p : Nat) : Int) ((L : Nat) : Int) = some (ratV p L, 0) := by decide +kernel
theorem rat_ne : ∀ p ∈ [0, 1, 2], ∀ q ∈ [0, 1, 2], q < p → ∀ L ∈ L16, ratV q L ≠ ratV p L := by decide +kernel
theorem rat_le : ∀ p ∈ [0, 1, 2], ∀ L ∈ L16, p ≤ L → ((c_integer_Of 1).bind fun a => (c_rational_Of a).bind fun b => (c_rational_Compare (ratV p L) b).map fun c => decide (c ≤ 0)) = some true := by decide +kernel
theorem mem_L16 {L : Nat} : L ∈ L16 ↔ 1 ≤ L ∧ L ≤ 16 := by simp only [L16, List.mem_cons, List.not_mem_nil, or_false]; omega
theorem mem_012 {p : Nat} : p ∈ [0, 1, 2] ↔ p ≤ 2 := by simp only [List.mem_cons, List.not_mem_nil, or_false]; omega
theorem Ratio_eq {p L : Nat} (hp : p ≤ 2) (h1 : 1 ≤ L) (h2 : L ≤ 16) : m_rational_Ratio (p : Int) (L : Int) = some (ratV p L, 0) := le_rational_Ratio.ap _ (rat_c p (mem_012.2 hp) L (mem_L16.2 ⟨h1, h2⟩))
theorem Len_eq {k : Nat} (h1 : 1 ≤ k) (h6 : k ≤ 6) : m_math_bits_Len (IntKind.wrap .u64 (k : Int)) = some ((pk k : Nat) + 1 : Int) := by
  have : ∀ k ∈ [1, 2, 3, 4, 5, 6], (m_math_bits_Len64 (IntKind.wrap .u64 ((k : Nat) : Int))) = some ((pk k : Nat) + 1 : Int) := by decide
  unfold m_math_bits_Len
  rw [this k (by simp only [List.mem_cons, List.not_mem_nil, or_false]; omega)]
  rfl
theorem Rate_eq {j : Jn} (hj : FormOk j) (hf : formE j = 0) (hs : JSize j) : m_merging_Rate j = some (ratV (pk j.1.length) (fstLen j.1 + fstLen j.2), 0) := by
  obtain ⟨q1, q2, q3, q4⟩ := hj.small hs
  have l1 := List.length_pos_iff.2 hj.ne1
  have n1 := hj.n1
  unfold m_merging_Rate
  rw [form_eq hs.sm, hf]
  simp only [Option.bind_some]
  rw [if_neg (show ¬ ((0 : Int) ≠ 0) from fun h => h rfl), Len_eq (by omega) (by omega), idx0 hj.ne1, idx0 hj.ne2]
  simp only [Option.bind_some, hdl]
  have e1 : IntKind.wrap .i64 ((pk j.1.length : Nat) + 1 - 1 : Int) = ((pk j.1.length : Nat) : Int) := by
    have := pk_le j.1.length
    rw [w64 (by omega) (by omega)]; omega
  have e2 : IntKind.wrap .i64 (((fstLen j.1 : Nat) : Int) + ((fstLen j.2 : Nat) : Int)) = ((fstLen j.1 + fstLen j.2 : Nat) : Int) := by
    rw [w64 (by omega) (by omega)]; omega
  rw [e1, e2, Ratio_eq (pk_le _) (by omega) (by omega)]
  rfl
theorem Rate_bad {j : Jn} (hf : formE j ≠ 0) (hs : JSize j) : m_merging_Rate j = some (((false, []), (false, [])), 1) := by
  unfold m_merging_Rate
  rw [form_eq hs.sm]
  simp only [Option.bind_some]
  rw [if_pos hf]
theorem few_one {j : Jn} (hj : FormOk j) (h : fstLen j.1 = 1) : j.1.length ≤ 2 := by
  have hsub : j.1 ⊆ [[48], [49]] := by
    intro w hw
    have hl := hj.n w hw
    have hb := hj.b1 w hw
    rw [h] at hl
    match w, hl with
    | [c], _ =>
      have := hb c (List.mem_cons_self ..)
      simp [bitB] at this
      rcases this with rfl | rfl <;> simp
  exact hj.d1.length_le_of_subset hsub

theorem law31_rates (j : Jn) : m_law31_MergingRates j = some true := by
  unfold m_law31_MergingRates
  simp only [jp, m_law31_awake, Option.bind_some]
  obtain ⟨b, hb, hs⟩ := GreatJ_tot j
  rw [hb]
  simp only [Option.bind_some]
  cases b with
  | true => rfl
  | false =>
    have hs := hs rfl
    rw [if_neg Bool.false_ne_true]
    by_cases hf : formE j = 0
    · have hj := formE_zero hf
      obtain ⟨q1, q2, q3, q4⟩ := hj.small hs
      have l1 := List.length_pos_iff.2 hj.ne1
      have l2 := List.length_pos_iff.2 hj.ne2
      have n1 := hj.n1
      rw [Rate_eq hj hf hs]
      simp only [Option.bind_some]
      rw [if_neg (show ¬ ((0 : Int) ≠ 0) from fun h => h rfl), if_neg (by omega), decide_eq_false (show ¬ (j.2.length : Int) = 0 by omega), if_neg Bool.false_ne_true, idx0 hj.ne1, idx0 hj.ne2]
      simp only [Option.bind_some, hdl]
      have e2 : IntKind.wrap .i64 (((fstLen j.1 : Nat) : Int) + ((fstLen j.2 : Nat) : Int)) = ((fstLen j.1 + fstLen j.2 : Nat) : Int) := by
        rw [w64 (by omega) (by omega)]; omega
      rw [e2]
      have hp : pk j.1.length ≤ 2 := pk_le _
      generalize hL : fstLen j.1 + fstLen j.2 = L
      generalize hP : pk j.1.length = p at hp
      have hL1 : 1 ≤ L := by omega
      have hL2 : L ≤ 16 := by omega
      have hpL : p ≤ L := by
        by_cases h2 : p ≤ 1
        · omega
        · by_cases hn : fstLen j.1 = 1
          · have := few_one hj hn
            have : p ≤ 1 := by rw [← hP]; exact pk_one (by omega)
            omega
          · omega
      refine lpE (x := Ou.ret true) (loopN_eq (Ou.ret true) p (fun i s => s = (i : Int)) (fun i s hi hs' => ?_) (fun s hs' => ?_) rfl) rfl
      · subst hs'
        refine .inl ⟨((i + 1 : Nat) : Int), ?_, rfl⟩
        rw [if_pos (by omega), Ratio_eq (by omega) hL1 hL2]
        simp only [Option.bind_some]
        rw [if_pos trivial, if_neg, nx (n := 9) (by omega) (by omega)]
        rw [decide_eq_true_eq]
        exact rat_ne p (mem_012.2 hp) i (mem_012.2 (by omega)) hi L (mem_L16.2 ⟨hL1, hL2⟩)
      · subst hs'
        refine ⟨_, ?_, rfl⟩
        rw [if_pos (by omega), Ratio_eq hp hL1 hL2]
        simp only [Option.bind_some]
        rw [if_pos trivial, if_pos (show decide True = true from decide_eq_true trivial), if_pos (show (0 : Int) ≤ (p : Int) by omega), if_pos (show (0 : Int) ≤ (p : Int) by omega)]
        have hle := rat_le p (mem_012.2 hp) L (mem_L16.2 ⟨hL1, hL2⟩) hpL
        obtain ⟨a, ha, hle⟩ := bS hle
        obtain ⟨b, hb', hle⟩ := bS hle
        obtain ⟨c, hc, hle⟩ := Option.map_eq_some_iff.1 hle
        have hc0 : c ≤ 0 := of_decide_eq_true hle
        rw [le_integer_Of.ap _ ha]
        simp only [Option.bind_some]
        rw [le_rational_Of.ap _ hb']
        simp only [Option.bind_some]
        rw [le_rational_Compare.ap _ hc]
        simp only [Option.bind_some]
        have hk : ∀ k ∈ [1, 2, 3, 4, 5, 6], (IntKind.wrap .i64 (1 * 2 ^ (min (((pk k : Nat) : Int)).toNat (IntKind.bits .i64)))) ≤ ((k : Nat) : Int) ∧ ((k : Nat) : Int) < (IntKind.wrap .i64 (2 * 2 ^ (min (((pk k : Nat) : Int)).toNat (IntKind.bits .i64)))) := by decide
        have := hk j.1.length (by simp only [List.mem_cons, List.not_mem_nil, or_false]; omega)
        rw [hP] at this
        rw [if_pos this.1, if_pos this.2, if_pos hc0]
    · rw [Rate_bad hf hs]
      simp only [Option.bind_some]
      rw [if_pos (by decide)]
      simp
end Go.AW

namespace Go.AW
open Go Go.ChangeShapes Go.WideShapes Go.ChangeAt Go.RowKit

def Kept (W W' : World) : Prop := W'.os = W.os ∧ W'.output = W.output ∧ W.heap.size ≤ W'.heap.size ∧ ∀ b : Nat, b < W.heap.size → W'.heap[b]? = W.heap[b]?

theorem Kept.frame {W W' : World} (h : Kept W W') (may : MemPlace → Prop) : W.keptBut W' may := by
  refine ⟨h.1, h.2.1, fun i hi => ?_⟩
  rw [h.2.2.2 i hi]
  cases W.heap[i]? with
  | none => rfl
  | some o => cases o with
    | cells c t fr => exact ⟨rfl, rfl, rfl, fun _ _ => rfl⟩
    | map es clock => exact .inr ⟨rfl, rfl⟩
    | _ => rfl

theorem Kept.frozen {W W' : World} (h : Kept W W') (a : Addr) (ha : a.block < W.heap.size) : W'.frozen? a = W.frozen? a := by
  simp only [World.frozen?, h.2.2.2 _ ha]

def Mu.zero : Mu := { nx := 0, loc := fun _ => none, held := fun _ => False }

theorem SR.zero (W : World) : SR W Mu.zero [] :=
  ⟨(fun _ _ _ h => by cases h), (fun _ _ _ h => by cases h), (fun _ _ h => by cases h), (fun _ _ _ _ _ h => by cases h), (fun _ h => h.elim)⟩

theorem calls_of_pure {P : Program} {f : FuncId} {args : List HV} {vs : List Value} {W : World} (hp : Pure P f args (· = .bool true)) (hr : RepL W Mu.zero args vs) :
    Calls P f vs.toArray W fun e W' => e = .returned (.bool true) ∧ Kept W W' := by
  refine (hp.2 Mu.zero W vs (SR.zero W) hr).mono ?_
  rintro e W' ⟨v, r, H', μ', rfl, ⟨rfl, _, _⟩, hs, hv, E⟩
  have hv' : v = .bool true := hv
  subst hv'
  exact ⟨rfl, E.os, E.output, E.size, fun b hb => E.keep b hb fun ⟨_, _, hl⟩ => by cases hl⟩

theorem rep_string {W : World} {μ : Mu} (s : ByteArray) (h : s.size ≤ maxLen) : Rep W μ (.str s.data.toList) (.string s) := by
  refine ⟨by cases s; simp, ?_⟩
  have : s.data.toList.length = s.size := by simp
  omega

theorem post_of_kept {H : Type} {enc : TypeId × Value → H} {P : Program} {f : Func} {s : ChangeSpec} {apart fresh handsOn again : Bool} {W W' : World} {args : Array Value} {v : Value} {ds gs : List (DataW H)} {before pa pv : List MemPlace}
    (hW : DataW.Whole enc P f.params.toList s.vars apart W args.toList ds gs before)
    (hres : ∀ (b : Nat) (sp : Nat → Bool) (hd : Bool), DataW.TrodAll enc P W' b sp hd f.resultTypes.toList (v.resultList f.resultTypes.size) (s.fn H (ds ++ gs)).results [])
    (hargs : ∀ sp : Nat → Bool, (∀ p ∈ before, sp p.block = true) → DataW.TrodAll enc P W' 0 sp true f.params.toList args.toList (s.fn H (ds ++ gs)).args pa)
    (hvars : ∀ sp : Nat → Bool, (∀ p ∈ before, sp p.block = true) → DataW.TrodVars enc P W' sp s.vars (s.fn H (ds ++ gs)).vars pv)
    (hps : before = pa ++ pv) (hk : Kept W W')
    (hok : ∀ (j : Nat) (t : TypeId) (r : Value), f.resultTypes[j]? = some t → (v.resultList f.resultTypes.size)[j]? = some r → Value.okWide P W' .any 0 t r) :
    s.post enc P f apart fresh handsOn again W args v W' := by
  have hold : ∀ p ∈ before, (fun b => decide (b < W.heap.size)) p.block = true := fun p hp => by simpa using hW.lt p hp
  refine ⟨ds, gs, before, [], pa, pv, hW, hres _ _ _, hargs _ hold, hvars _ hold, World.keptBut_mono (fun p hp => ⟨hp, ?_⟩) (hk.frame (· ∈ before)), fun _ => ?_⟩
  · rw [hps, List.mem_append] at hp
    exact Or.inr hp
  · have hlt := hW.lt
    obtain ⟨_, _, _, _, _, hz, hn⟩ := hW
    refine ⟨hok, _, _, ([] ++ pa) ++ pv, ⟨[] ++ pa, pv, trodAll_append (hargs _ (fun _ _ => rfl)) (hres _ _ _), hvars _ (fun _ _ => rfl), rfl, ?_, ?_⟩, ?_⟩
    · intro b off hp
      have hp' : MemPlace.cell b off ∈ before := by rw [hps]; simpa using hp
      rw [hk.frozen _ (hlt _ hp')]
      exact hz b off hp'
    · intro ha
      have := hn ha
      rw [hps] at this
      simpa using this
    · intro p hp _
      rw [hps]
      simpa using hp
end Go.AW

/- Arguments: from what is read of them to what the layer says of them; and the law's end for any arguments. -/
namespace Go.AW
open Go Go.ChangeShapes Go.WideShapes Go.ChangeAt Go.RowKit

theorem rowAt_le {p : Program} {fits : TypeId → Bool} {d : Nat} {e : TypeId} {count off n : Nat} (h : rowAt p fits d e count off n = true) : off ≤ count * p.cellsOf e := by
  cases d with
  | zero => simp [rowAt] at h
  | succ d =>
    unfold rowAt at h
    simp only at h
    split at h
    · cases h
    · rename_i hs
      have hs' : 0 < p.cellsOf e := Nat.pos_of_ne_zero hs
      have hd := Nat.div_add_mod off (p.cellsOf e)
      rw [Nat.mul_comm] at hd
      simp only [Bool.or_eq_true, Bool.and_eq_true, beq_iff_eq, decide_eq_true_eq] at h
      rcases h with ⟨⟨h0, h1⟩, _⟩ | ⟨h1, _⟩
      · rw [← hd, h0, Nat.add_zero]
        exact Nat.mul_le_mul_right _ (by omega)
      · have hm := Nat.mod_lt off hs'
        have : (off / p.cellsOf e + 1) * p.cellsOf e ≤ count * p.cellsOf e := Nat.mul_le_mul_right _ h1
        rw [Nat.add_mul] at this
        omega

theorem liesAt_le {p : Program} {d : Nat} {e u : TypeId} {count off n : Nat} (h : liesAt p d e count off u n = true) : off ≤ count * p.cellsOf e := by
  induction d generalizing u n with
  | zero => simp [liesAt] at h
  | succ d ih =>
    unfold liesAt at h
    rw [Bool.or_eq_true] at h
    rcases h with h | h
    · exact rowAt_le h
    · split at h
      · exact ih h
      · cases h

theorem has_seg {P : Program} {W : World} {r : Reach} {base : Nat} {a : Addr} {e : TypeId} {cap : Nat} (h : W.has P r base a e cap) {vs : List Value} (hc : ∀ i (hi : i < vs.length), W.cell? (a.add i) = some vs[i]) :
    ∃ b off, a = ⟨b, off, none⟩ ∧ Seg W b off vs := by
  obtain ⟨_, hsp, row, cells, hsh, hl⟩ := h
  obtain ⟨b, off, spot⟩ := a
  dsimp only at hsp hsh hl
  subst hsp
  refine ⟨b, off, rfl, ?_⟩
  unfold World.shape? at hsh
  split at hsh
  · rename_i cur e' fr hb
    simp only [Option.some.injEq, Prod.mk.injEq] at hsh
    obtain ⟨rfl, rfl⟩ := hsh
    have hoff : off ≤ cur.size := Nat.le_trans (liesAt_le hl) (Nat.div_mul_le_self _ _)
    have hget : ∀ i (hi : i < vs.length), cur.toList[off + i]? = some vs[i] := fun i hi => by
      have := hc i hi
      rw [add_plain] at this
      unfold World.cell? at this
      rw [hb] at this
      simpa using this
    refine ⟨cur, e', fr, cur.toList.take off, cur.toList.drop (off + vs.length), hb, ?_, by simp [hoff]⟩
    have hvs : vs = (cur.toList.drop off).take vs.length := by
      apply List.ext_getElem?
      intro i
      rcases Nat.lt_or_ge i vs.length with hi | hi
      · rw [List.getElem?_take_of_lt hi, List.getElem?_drop, hget i hi, List.getElem?_eq_getElem hi]
      · rw [List.getElem?_eq_none hi, List.getElem?_eq_none (by simp; omega)]
    have : vs ++ cur.toList.drop (off + vs.length) = cur.toList.drop off := by
      conv => lhs; arg 1; rw [hvs]
      rw [← List.drop_drop]
      exact List.take_append_drop _ _
    rw [List.append_assoc, this, List.take_append_drop]
  · cases hsh

theorem nown (b : Nat) : ¬ Mu.zero.owns b := fun h => h.elim (fun ⟨_, _, h⟩ => by cases h) id

theorem trodAll_stays {H : Type} {enc : TypeId × Value → H} {P : Program} (hl : laidOutB P = true) {W W' : World} {sp : Nat → Bool} : ∀ {ts : List TypeId} {vs : List Value} {ds : List (DataW H)} {ps : List MemPlace},
    (ts.all fun t => P.readableRec t && decide (t < P.types.size)) = true → DataW.TrodAll enc P W 0 (fun _ => true) true ts vs ds ps → (∀ p ∈ ps, W.sameAt W' p) → (∀ p ∈ ps, sp p.block = true) → DataW.TrodAll enc P W' 0 sp true ts vs ds ps
  | [], vs, ds, ps, _, h, _, _ => by
    obtain ⟨rfl, rfl, rfl⟩ := trodAll_nil h
    exact trodAll_mk0
  | t :: ts, vs, ds, ps, ht, h, h1, h2 => by
    obtain ⟨v, vs', d, ds', p, q, rfl, rfl, rfl, h3, h4⟩ := trodAll_cons h
    simp only [List.all_cons, Bool.and_eq_true, decide_eq_true_eq] at ht
    exact trodAll_cons_mk (WideElems.Trod_stays hl ht.1.1 ht.1.2 h3 (fun x hx => h1 x (List.mem_append_left _ hx)) (fun x hx => h2 x (List.mem_append_left _ hx)))
      (trodAll_stays hl ht.2 h4 (fun x hx => h1 x (List.mem_append_right _ hx)) (fun x hx => h2 x (List.mem_append_right _ hx)))

theorem Kept.same {W W' : World} (h : Kept W W') (p : MemPlace) (hp : p.block < W.heap.size) : W.sameAt W' p := by
  cases p with
  | cell b off =>
    show W'.cell? ⟨b, off, none⟩ = W.cell? ⟨b, off, none⟩
    unfold World.cell?
    rw [h.2.2.2 b hp]
  | map b => exact h.2.2.2 b hp

theorem post_of_true {H : Type} {enc : TypeId × Value → H} {P : Program} {f : Func} {s : ChangeSpec} {apart fresh handsOn again : Bool} {W W' : World} {args : Array Value} {ds gs : List (DataW H)} {before : List MemPlace} {t : TypeId}
    (hl : laidOutB P = true) (hps : (f.params.toList.all fun t => P.readableRec t && decide (t < P.types.size)) = true) (hres : f.resultTypes = #[t]) (ht : P.underlying t = some .bool) (hv : s.vars = [])
    (hW : DataW.Whole enc P f.params.toList s.vars apart W args.toList ds gs before) (hk : Kept W W')
    (h1 : (s.fn H (ds ++ gs)).results = [.lit (.bool true)]) (h2 : (s.fn H (ds ++ gs)).args = ds) (h3 : (s.fn H (ds ++ gs)).vars = []) :
    s.post enc P f apart fresh handsOn again W args (.bool true) W' := by
  have hlt := hW.lt
  have hW' := hW
  obtain ⟨p, q, hA, hV, rfl, _, _⟩ := hW
  rw [hv] at hV
  obtain ⟨rfl, rfl⟩ := trodVars_none hV
  refine post_of_kept (pa := p) (pv := []) hW' (fun _ _ _ => ?_) (fun sp hsp => ?_) (fun _ _ => ?_) (by simp) hk (ok_one hres rfl (okWide_bool_mk ht _))
  · rw [hres, h1]
    exact trodAll_cons_mk (shut_bool ht _) trodAll_mk0
  · rw [h2]
    exact trodAll_stays hl hps hA (fun x hx => hk.same x (hlt x (by simpa using hx))) (fun x hx => hsp x (by simpa using hx))
  · rw [h3, hv]
    rfl
end Go.AW

/- Arguments that are graphs: what is read of them, and what the layer says of them. -/
namespace Go.AW
open Go Go.ChangeShapes Go.WideShapes Go.ChangeAt Go.RowKit

section
variable {H : Type} {enc : TypeId × Value → H} {P : Program} {W : World} {base : Nat}

theorem repL_app {μ : Mu} : ∀ {hs ks : List HV} {vs us : List Value}, RepL W μ hs vs → RepL W μ ks us → RepL W μ (hs ++ ks) (vs ++ us)
  | [], _, _, _, h, h' => by cases h; exact h'
  | _ :: _, _, _, _, ⟨x, xs, rfl, h1, h2⟩, h' => ⟨x, _, rfl, h1, repL_app h2 h'⟩

theorem add_adds (a : Addr) (i j : Nat) : (a.add i).add j = a.add (i + j) := by
  unfold Addr.add
  repeat' split
  all_goals simp_all [Nat.add_assoc]

theorem open_rows {α : Type} (c : EncL α) {fuel : Nat} {t e : TypeId} {cs : List Value} {x : DataW H × List MemPlace} (ht : P.underlying t = some (.slice e)) (hk : P.cellsOf e = c.k) (hone : ∀ x, ones (c.C x))
    (hel : ∀ n cs y, DataW.trod enc P W 0 (fun _ => true) true n e cs = some y → ∃ x : α, RepL W Mu.zero (c.C x) cs)
    (hhas : ∀ a len cap, cs = [.slice (some a) len cap] → W.has P .any base a e cap) (h : DataW.trod enc P W 0 (fun _ => true) true fuel t cs = some x) : ∃ l : List α, RepL W Mu.zero [slE c l] cs := by
  rcases DataW.trod_slice ht h with ⟨rfl, _⟩ | ⟨a, len, cap, elems, rest, n, _, rfl, _, _, hl, hm, hlen, hel', _, _⟩
  · refine ⟨[], _, _, rfl, ?_, rfl⟩
    show _ ∧ _
    exact ⟨(by rw [c.nil]; exact fun _ h => nomatch h), (by rw [c.nil]; simp), Nat.zero_le _, .inl ⟨rfl, rfl⟩⟩
  · have each : ∀ i, i < len → ∃ cs' x, W.cells? 0 (a.add (i * c.k)) c.k = some cs' ∧ RepL W Mu.zero (c.C x) cs' := fun i hi => by
      have h1 := hel' i hi
      rw [List.getElem?_eq_getElem (by omega), Option.bind_eq_some_iff, hk] at h1
      obtain ⟨cs', h2, h3⟩ := h1
      obtain ⟨x, hx⟩ := hel _ _ _ h3
      exact ⟨cs', x, h2, hx⟩
    have build : ∀ m, m ≤ len → ∃ (l : List α) (vs : List Value), l.length = m ∧ vs.length = m * c.k ∧ RepL W Mu.zero (c.E l) vs ∧ ∀ i (hi : i < vs.length), W.cell? (a.add i) = some vs[i] := by
      intro m
      induction m with
      | zero => exact fun _ => ⟨[], [], rfl, by simp, by rw [c.nil]; rfl, fun i hi => by simp at hi⟩
      | succ m ih =>
        intro hm
        obtain ⟨l, vs, h1, h2, h3, h4⟩ := ih (by omega)
        obtain ⟨cs', x, h5, h6⟩ := each m (by omega)
        obtain ⟨_, h7, h8⟩ := World.cells?_some h5
        refine ⟨l ++ [x], vs ++ cs', by simp [h1], by rw [List.length_append, h2, h7, Nat.succ_mul], by rw [c.append, c.one]; exact repL_app h3 h6, fun i hi => ?_⟩
        rcases Nat.lt_or_ge i vs.length with hi' | hi'
        · rw [List.getElem_append_left hi']; exact h4 i hi'
        · rw [List.getElem_append_right hi']
          rw [List.length_append] at hi
          have := h8 (i - vs.length) (by omega)
          rw [add_adds, h2, show m * c.k + (i - m * c.k) = i by omega] at this
          rw [this, List.getElem?_eq_getElem (by omega)]
          simp only [h2]
    obtain ⟨l, vs, h1, h2, h3, h4⟩ := build len (Nat.le_refl _)
    obtain ⟨b, off, rfl, hseg⟩ := has_seg (hhas _ _ _ rfl) h4
    refine ⟨l, _, _, rfl, ?_, rfl⟩
    show _ ∧ _
    refine ⟨fun d hd => ?_, c.len l, by omega, .inr ⟨b, off, cap, vs, by rw [h1], by omega, nown b, hseg, h3⟩⟩
    rw [c.hE] at hd
    obtain ⟨x, _, hdx⟩ := List.mem_flatMap.1 hd
    exact hone x d hdx

end
end Go.AW

/- Arguments that are lists of numbers. -/
namespace Go.AW
open Go Go.ChangeShapes Go.WideShapes Go.ChangeAt Go.RowKit
section
variable {H : Type} {enc : TypeId × Value → H} {P : Program} {W : World} {base : Nat}
end
end Go.AW

/- Arguments that are lists of bytes. -/
namespace Go.AW
open Go Go.ChangeShapes Go.WideShapes Go.ChangeAt Go.RowKit
section
variable {H : Type} {enc : TypeId × Value → H} {P : Program} {W : World} {base : Nat}
end
end Go.AW

/- A parameter that is a struct of two lists of strings. -/
namespace Go.AW
open Go Go.ChangeShapes Go.WideShapes Go.ChangeAt Go.RowKit
section
variable {H : Type} {enc : TypeId × Value → H} {P : Program} {W : World} {base : Nat}
theorem open2 {t : TypeId} {f0 f1 : Field} {fuel : Nat} {cs : List Value} {x : DataW H × List MemPlace} (ht : P.underlying t = some (.struct #[f0, f1])) (o0 : f0.offset = 0) (o1 : f1.offset = 1) (c : P.cellsOf t = 2)
    (c0 : P.cellsOf f0.type = 1) (c1 : P.cellsOf f1.type = 1) (h : DataW.trod enc P W 0 (fun _ => true) true fuel t cs = some x) :
    ∃ v0 v1 y0 y1 n, cs = [v0, v1] ∧ DataW.trod enc P W 0 (fun _ => true) true n f0.type [v0] = some y0 ∧ DataW.trod enc P W 0 (fun _ => true) true n f1.type [v1] = some y1 := by
  obtain ⟨xs, n, _, rfl, hl, hlen, hf⟩ := DataW.trod_struct ht h
  rw [c] at hl
  match cs, hl with
  | [v0, v1], _ =>
    match xs, hlen with
    | [y0, y1], _ =>
      refine ⟨v0, v1, y0, y1, n, rfl, ?_, ?_⟩
      · have := hf 0 f0 rfl; rw [o0, c0] at this; exact this
      · have := hf 1 f1 rfl; rw [o1, c1] at this; exact this

theorem open_joins {t ts te : TypeId} {f0 f1 : Field} {v : Value} {d : DataW H} {ps : List MemPlace} (ht : P.underlying t = some (.struct #[f0, f1])) (o : f0.offset = 0 ∧ f1.offset = 1) (y : f0.type = ts ∧ f1.type = ts)
    (c : P.cellsOf t = 2) (cs : P.cellsOf ts = 1) (ct : P.cellTypes P.depth t = some [ts, ts]) (hts : P.underlying ts = some (.slice te)) (hte : P.underlying te = some .string) (ce : P.cellsOf te = 1)
    (hval : Value.okWide P W .any base t v) (h : DataW.Trod enc P W 0 (fun _ => true) true t v d ps) : ∃ g : List (List UInt8) × List (List UInt8), Rep W Mu.zero (.agg [slE eStr g.1, slE eStr g.2]) v := by
  obtain ⟨y0, y1⟩ := y
  simp only [Value.okWide, ht] at hval
  obtain ⟨arr, rfl, _, hrow⟩ := hval
  obtain ⟨fuel, hf⟩ := h
  obtain ⟨v0, v1, a0, a1, n, hcs, h0, h1⟩ := open2 ht o.1 o.2 c (by rw [y0]; exact cs) (by rw [y1]; exact cs) hf
  have harr : arr = #[v0, v1] := by
    have : arr.toList = [v0, v1] := hcs
    cases arr
    simp_all
  subst harr
  rw [y0] at h0
  rw [y1] at h1
  obtain ⟨tys, ht1, _, hcell⟩ := hrow
  rw [ct] at ht1
  cases ht1
  have one : ∀ (m : Nat) (cs' : List Value) (y : DataW H × List MemPlace), DataW.trod enc P W 0 (fun _ => true) true m te cs' = some y → ∃ x : List UInt8, RepL W Mu.zero [HV.str x] cs' := by
    intro m cs' y hy
    obtain ⟨s, rfl, _, hz⟩ := DataW.trod_string hte hy
    exact ⟨s.data.toList, _, _, rfl, rep_string s hz, rfl⟩
  obtain ⟨l, _, _, r0, r0', _⟩ := open_rows (base := base) eStr hts ce (fun x d hd => by
      have hd : d ∈ [HV.str x] := hd
      simp only [List.mem_cons, List.not_mem_nil, or_false] at hd
      subst hd; rfl) one (fun a len cap e => by
      cases e
      obtain ⟨u, hu, hok⟩ := hcell 0 (.slice (some a) len cap) rfl
      cases hu
      simp only [Cell.okWide, hts, Cell.ok] at hok
      exact hok.2.2) h0
  obtain ⟨k, _, _, r1, r1', _⟩ := open_rows (base := base) eStr hts ce (fun x d hd => by
      have hd : d ∈ [HV.str x] := hd
      simp only [List.mem_cons, List.not_mem_nil, or_false] at hd
      subst hd; rfl) one (fun a len cap e => by
      cases e
      obtain ⟨u, hu, hok⟩ := hcell 1 (.slice (some a) len cap) rfl
      cases hu
      simp only [Cell.okWide, hts, Cell.ok] at hok
      exact hok.2.2) h1
  cases r0
  cases r1
  refine ⟨(l, k), ?_⟩
  show _ ∧ _
  refine ⟨fun d hd => ?_, _, rfl, _, _, rfl, r0', _, _, rfl, r1', rfl⟩
  simp only [List.mem_cons, List.not_mem_nil, or_false] at hd
  rcases hd with rfl | rfl <;> rfl
end
end Go.AW

namespace Go.Proofs.YtlddcjolelmpmaaGreat
open Go Go.AW Go.ChangeShapes Go.WideShapes Go.ChangeAt Go.RowKit Go.ChangeMaps
set_option linter.unusedVariables false

theorem ownM : ownKnob Tryz.prog.godebug = none := by kernel_rfl
theorem laidB : laidOutB Tryz.prog = true := by kernel_rfl

theorem wLaw (a0 : TWordsMerges) : Pure Tryz.prog 4 [HV.agg [slE eStr a0.1, slE eStr a0.2]] (· = .bool true) := w_law31_MergingRates (law31_rates a0)

set_option maxRecDepth 100000 in
theorem liftedL (os : Os) (started : os.Started) (H : Type) (enc : TypeId × Value → H) :
    ReturnsInHanded {} Tryz.checked os 4 .any (Rows.mergingRatesSpec.pre6 enc Tryz.prog Tryz.f4 Rows.mergingRatesRow.domain false) (Rows.mergingRatesSpec.post enc Tryz.prog Tryz.f4 false true false false) := by
  refine returnsInHanded_of_change (C := Tryz.checked) ownM started (by kernel_rfl) Tryz.func4
    (ChangeSpec.witness6 (enc := enc) (C := Tryz.checked) false ⟨#[], #[.agg #[.slice none 0 0, .slice none 0 0]], []⟩ 8 (by kernel_rfl) (by kernel_rfl) (by kernel_rfl) (by kernel_rfl)) ?_
  intro W base args ds gs before hval0 hW hcnd _
  have hval : ∀ (j : Nat) t v, Tryz.f4.params[j]? = some t → args[j]? = some v → Value.okWide Tryz.prog W .any base t v := hval0
  have hW' := hW
  obtain ⟨p, q, hA0, hV, rfl, hfz, hnd⟩ := hW
  have hA : DataW.TrodAll enc Tryz.prog W 0 (fun _ => true) true Tryz.f4.params.toList args.toList ds p := hA0
  rw [Tryz.params4] at hA hval
  obtain ⟨v0, vs0, d0, ds0, p0, q0, hargs, rfl, rfl, h0, r0⟩ := trodAll_cons hA
  obtain ⟨rfl, rfl, rfl⟩ := trodAll_nil r0
  obtain rfl : args = #[v0] := by cases args; simp_all
  obtain ⟨rfl, rfl⟩ := trodVars_none hV
  obtain ⟨a0, hr0⟩ := open_joins Tryz.underlying24 ⟨rfl, rfl⟩ ⟨rfl, rfl⟩ (by kernel_rfl) (by kernel_rfl) (by kernel_rfl) Tryz.underlying22 Tryz.underlying9 (by kernel_rfl) (hval 0 24 v0 rfl rfl) h0
  refine (calls_of_pure (vs := [v0]) (wLaw a0) ⟨_, _, rfl, hr0, rfl⟩).mono fun e W' ⟨he, hk⟩ => ?_
  subst he
  exact ⟨_, rfl, post_of_true laidB (by kernel_rfl) rfl Tryz.underlying4 rfl hW' hk rfl rfl rfl⟩

theorem mergingRatesProved : Rows.MergingRatesSaid :=
  OpenClaim.holds_of_wide 4 Tryz.f4 rfl rfl rfl rfl rfl rfl rfl ⟨rfl, rfl, rfl, rfl, rfl⟩ rfl rfl rfl rfl rfl (by kernel_rfl) Tryz.func4 (by kernel_rfl)
    (of_decide_eq_true (by kernel_rfl)) (by unfold Func.isWrapper; first | (rw [if_pos (by decide +kernel)]; kernel_rfl) | (rw [if_neg (by decide +kernel)]; exact ⟨rfl, rfl⟩))
    (fun os started H enc _ => liftedL os started H enc)
#print axioms mergingRatesProved
end Go.Proofs.YtlddcjolelmpmaaGreat
