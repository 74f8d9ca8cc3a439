/- DistanceLists: for every list of texts, text and number the law's function returns true, and the input reads as it did. -/
import Derived.Test.YtccnafddjjamoaaT4
import Derived.ChangeMaps5
import Derived.OpenShut
import Derived.ProofKit
import Derived.SliceStrings
import Derived.Test.YtccnafddjjamoaaRows
import Derived.WalkKit
import Derived.WideKeyArgs
namespace Go.AW
open Go Go.Proofs
set_option linter.unusedVariables false
/-- groove/distance.hamming -/
noncomputable def m_distance_hamming (p0 : List UInt8) (p1 : List UInt8) : Option (Int) :=
  (loopW (S := Int × Int) (X := Int) (fun a1 =>
      if a1.2 < ((p0).length : Int) then
        jp (fun (a5 : Int) =>
          some (Stp.next (a5, IntKind.wrap .i64 (a1.2 + 1))))
          fun k7 =>
          (idx p0 a1.2).bind fun x8 =>
          (idx p1 a1.2).bind fun x10 =>
          if (x8.toNat : Int) ≠ (x10.toNat : Int) then
            k7 (IntKind.wrap .i64 (a1.1 + 1))
          else
            k7 a1.1
      else
        some (Stp.exit a1.1)) (0, 0)).bind fun a12 =>
  some a12

set_option maxHeartbeats 8000000 in
set_option maxRecDepth 100000 in
theorem w_distance_hamming {p0 : List UInt8} {p1 : List UInt8} {r : Int} (h : m_distance_hamming p0 p1 = some r) : Pure Try.prog 69 [HV.str p0, HV.str p1] (· = HV.int .i64 r) := by
  unfold m_distance_hamming at h
  refine Pure.of_body Try.func69 rfl rfl (Nat.le_of_ble_eq_true rfl) fun hf => ?_
  unfold Try.f69
  dsimp only [enumS, Nat.reduceAdd]
  refine AW.rgs rfl fun K hK => ?_
  refine mv rfl rfl ?_
  refine b_nil (hK _ (AW.to (to_le (s' := ⟨[(0, HV.str p0), (1, HV.str p1)], []⟩) (AS.le_of ⟨rfl, rfl, trivial⟩ trivial) ?_)))
  clear hK K
  refine AW.rgs rfl fun K hK => ?_
  refine mv rfl rfl ?_
  refine b_nil (hK _ (AW.to (to_le (s' := ⟨[(0, HV.str p0), (1, HV.str p1), (5, HV.int .i64 0)], []⟩) (AS.le_of ⟨rfl, rfl, rfl, trivial⟩ trivial) ?_)))
  clear hK K
  refine AW.seq ?_
  refine AW.rgs rfl fun K hK => ?_
  refine mv rfl rfl ?_
  refine bv rfl (v_lenS rfl rfl ty9 rfl) ?_
  refine mv rfl rfl ?_
  refine b_nil (hK _ (AW.to (to_le (s' := ⟨[(0, HV.str p0), (1, HV.str p1), (5, HV.int .i64 0), (8, HV.int .i64 ((p0).length : Int)), (9, HV.int .i64 0)], []⟩) (AS.le_of ⟨rfl, rfl, rfl, rfl, rfl, trivial⟩ trivial) ?_)))
  clear hK K
  refine AW.lpX h (by first | exact up_then | exact up_to) (S := Int × Int) (V := Unit) (fun a v => ⟨[(0, HV.str p0), (1, HV.str p1), (5, HV.int .i64 a.1), (8, HV.int .i64 ((p0).length : Int)), (9, HV.int .i64 a.2)], []⟩) ?_ (X := Int) (W := Unit) (fun a v => ⟨[(5, HV.int .i64 a)], []⟩) (fun a12 w13 h => ?_) (fun a1 w2 st3 h => ?_)
  · exact to_le (s' := ⟨[(0, HV.str p0), (1, HV.str p1), (5, HV.int .i64 0), (8, HV.int .i64 ((p0).length : Int)), (9, HV.int .i64 0)], []⟩) (AS.le_of ⟨rfl, rfl, rfl, rfl, rfl, trivial⟩ trivial) ⟨(), rfl⟩
  · refine AW.rgs rfl fun K hK => ?_
    refine mv rfl rfl ?_
    refine mv rfl rfl ?_
    refine b_nil (hK _ (AW.to (to_le (s' := ⟨[(4, HV.int .i64 a12)], []⟩) (AS.le_of ⟨rfl, trivial⟩ trivial) ?_)))
    clear hK K
    refine AW.ret ?_
    have h := Option.some.inj h
    subst h
    exact ret_pure (hs := [HV.int .i64 a12]) (q := HV.int .i64 a12) (.inr rfl) (resT rfl rfl) rfl trivial
  · refine AW.rgs rfl fun K hK => ?_
    refine bv rfl (v_bin rfl rfl b_lss) ?_
    refine b_nil (hK _ (AW.to (to_le (s' := ⟨[(0, HV.str p0), (1, HV.str p1), (5, HV.int .i64 a1.1), (8, HV.int .i64 ((p0).length : Int)), (9, HV.int .i64 a1.2), (10, HV.bool (decide (a1.2 < ((p0).length : Int))))], []⟩) (AS.le_of ⟨rfl, rfl, rfl, rfl, rfl, rfl, trivial⟩ trivial) ?_)))
    clear hK K
    refine AW.cseq rfl (fun hc => ?_) (fun hc => ?_)
    · have hc := of_decide_eq_true hc
      have h := ifT hc h
      refine AW.skip ?_
      refine AW.seqJ h (S := Int) (V := Unit) (fun a v => ⟨[(0, HV.str p0), (1, HV.str p1), (5, HV.int .i64 a), (8, HV.int .i64 ((p0).length : Int)), (9, HV.int .i64 a1.2)], []⟩) (fun a5 w6 h => ?_) (fun k7 h => ?_)
      · refine AW.rg rfl fun K hK => ?_
        refine bv rfl (v_bin rfl rfl b_add) ?_
        refine mv rfl rfl ?_
        refine b_nil (hK _ ?_)
        clear hK K
        exact to_le (s' := ⟨[(0, HV.str p0), (1, HV.str p1), (5, HV.int .i64 a5), (8, HV.int .i64 ((p0).length : Int)), (9, HV.int .i64 (IntKind.wrap .i64 (a1.2 + 1)))], []⟩) (AS.le_of ⟨rfl, rfl, rfl, rfl, rfl, trivial⟩ trivial) ⟨(a5, IntKind.wrap .i64 (a1.2 + 1)), (), h, rfl⟩
      · refine AW.block ?_
        refine AW.rgs rfl fun K hK => ?_
        refine mv rfl rfl ?_
        refine mv rfl rfl ?_
        refine b_nil (hK _ (AW.to (to_le (s' := ⟨[(0, HV.str p0), (1, HV.str p1), (5, HV.int .i64 a1.1), (6, HV.int .i64 a1.2), (8, HV.int .i64 ((p0).length : Int)), (9, HV.int .i64 a1.2)], []⟩) (AS.le_of ⟨rfl, rfl, rfl, rfl, rfl, rfl, trivial⟩ trivial) ?_)))
        clear hK K
        refine AW.dgs 7 follows rfl rfl fun K hK => ?_
        refine sm rfl rfl ?_
        refine sm rfl rfl ?_
        obtain ⟨x8, h9, h⟩ := bS h
        refine sv rfl (v_idxS ty9 rfl rfl h9) ?_
        refine sm rfl rfl ?_
        refine sm rfl rfl ?_
        obtain ⟨x10, h11, h⟩ := bS h
        refine sv rfl (v_idxS ty9 rfl rfl h11) ?_
        refine sv rfl (v_bin rfl rfl b_neq) ?_
        refine s_nil ?_
        refine b_nil (hK _ (AW.to (to_le (s' := ⟨[(0, HV.str p0), (1, HV.str p1), (5, HV.int .i64 a1.1), (8, HV.int .i64 ((p0).length : Int)), (9, HV.int .i64 a1.2), (18, HV.bool (decide ((x8.toNat : Int) ≠ (x10.toNat : Int))))], []⟩) (AS.le_of ⟨rfl, rfl, rfl, rfl, rfl, rfl, trivial⟩ trivial) ?_)))
        clear hK K
        refine AW.cond rfl (fun hc => ?_) (fun hc => ?_)
        · have hc := of_decide_eq_true hc
          have h := ifT hc h
          refine AW.rg rfl fun K hK => ?_
          refine mv rfl rfl ?_
          refine bv rfl (v_bin rfl rfl b_add) ?_
          refine mv rfl rfl ?_
          refine b_nil (hK _ ?_)
          clear hK K
          exact to_le (s' := ⟨[(0, HV.str p0), (1, HV.str p1), (5, HV.int .i64 (IntKind.wrap .i64 (a1.1 + 1))), (8, HV.int .i64 ((p0).length : Int)), (9, HV.int .i64 a1.2)], []⟩) (AS.le_of ⟨rfl, rfl, rfl, rfl, rfl, trivial⟩ trivial) ⟨IntKind.wrap .i64 (a1.1 + 1), (), h, rfl⟩
        · have hc := of_decide_eq_false hc
          have h := ifF hc h
          refine AW.skip ?_
          exact to_le (s' := ⟨[(0, HV.str p0), (1, HV.str p1), (5, HV.int .i64 a1.1), (8, HV.int .i64 ((p0).length : Int)), (9, HV.int .i64 a1.2)], []⟩) (AS.le_of ⟨rfl, rfl, rfl, rfl, rfl, trivial⟩ trivial) ⟨a1.1, (), h, rfl⟩
    · have hc := of_decide_eq_false hc
      have h := ifF hc h
      refine AW.exit ?_
      exact to_le (s' := ⟨[(5, HV.int .i64 a1.1)], []⟩) (AS.le_of ⟨rfl, trivial⟩ trivial) ⟨a1.1, (), h, rfl⟩

/-- groove/distance.Hamming -/
noncomputable def m_distance_Hamming (p0 : List UInt8) (p1 : List UInt8) : Option (Int × Int) :=
  if ((p0).length : Int) ≠ ((p1).length : Int) then
    some (0, 11)
  else
    (m_distance_hamming p0 p1).bind fun x1 =>
    some (x1, 0)

set_option maxHeartbeats 8000000 in
set_option maxRecDepth 100000 in
theorem w_distance_Hamming {p0 : List UInt8} {p1 : List UInt8} {r : Int × Int} (h : m_distance_Hamming p0 p1 = some r) : Pure Try.prog 21 [HV.str p0, HV.str p1] (· = HV.tup [HV.int .i64 r.1, HV.int .i64 r.2]) := by
  unfold m_distance_Hamming at h
  refine Pure.of_body Try.func21 rfl rfl (Nat.le_of_ble_eq_true rfl) fun hf => ?_
  unfold Try.f21
  dsimp only [enumS, Nat.reduceAdd]
  refine AW.rgs rfl fun K hK => ?_
  refine mv rfl rfl ?_
  refine mv rfl rfl ?_
  refine b_nil (hK _ (AW.to (to_le (s' := ⟨[(0, HV.str p0), (1, HV.str p1)], []⟩) (AS.le_of ⟨rfl, rfl, trivial⟩ trivial) ?_)))
  clear hK K
  refine AW.seq ?_
  refine AW.rgs rfl fun K hK => ?_
  refine mv rfl rfl ?_
  refine bv rfl (v_lenS rfl rfl ty9 rfl) ?_
  refine mv rfl rfl ?_
  refine bv rfl (v_lenS rfl rfl ty9 rfl) ?_
  refine bv rfl (v_bin rfl rfl b_neq) ?_
  refine b_nil (hK _ (AW.to (to_le (s' := ⟨[(0, HV.str p0), (1, HV.str p1), (10, HV.bool (decide (((p0).length : Int) ≠ ((p1).length : Int))))], []⟩) (AS.le_of ⟨rfl, rfl, rfl, trivial⟩ trivial) ?_)))
  clear hK K
  refine AW.cond rfl (fun hc => ?_) (fun hc => ?_)
  · have hc := of_decide_eq_true hc
    have h := ifT hc h
    refine AW.rgs rfl fun K hK => ?_
    refine mv rfl rfl ?_
    refine mv rfl rfl ?_
    refine b_nil (hK _ (AW.to (to_le (s' := ⟨[(4, HV.int .i64 0), (5, HV.int .i64 11)], []⟩) (AS.le_of ⟨rfl, rfl, trivial⟩ trivial) ?_)))
    clear hK K
    refine AW.ret ?_
    have h := Option.some.inj h
    subst h
    exact ret_pure (hs := [HV.int .i64 0, HV.int .i64 11]) (q := HV.tup [HV.int .i64 0, HV.int .i64 11]) (.inr rfl) (resT rfl (resT rfl rfl)) rfl ⟨trivial, trivial, trivial⟩
  · have hc := of_decide_eq_false hc
    have h := ifF hc h
    refine AW.skip ?_
    refine AW.rgs rfl fun K hK => ?_
    refine mv rfl rfl ?_
    refine mv rfl rfl ?_
    obtain ⟨x1, h2, h⟩ := bS h
    refine b_op rfl (o_call rfl rfl rfl rfl (ACallD.pure0 (w_distance_hamming h2)) ?_)
    refine mv rfl rfl ?_
    refine mv rfl rfl ?_
    refine b_nil (hK _ (AW.to (to_le (s' := ⟨[(4, HV.int .i64 x1), (5, HV.int .i64 0)], []⟩) (AS.le_of ⟨rfl, rfl, trivial⟩ trivial) ?_)))
    clear hK K
    refine AW.ret ?_
    have h := Option.some.inj h
    subst h
    exact ret_pure (hs := [HV.int .i64 x1, HV.int .i64 0]) (q := HV.tup [HV.int .i64 x1, HV.int .i64 0]) (.inr rfl) (resT rfl (resT rfl rfl)) rfl ⟨trivial, trivial, trivial⟩

/-- groove/grooveref46.Great -/
noncomputable def m_ref46_Great (p0 : List (List UInt8)) : Option (Bool) :=
  lpO (loopW (S := Int × Int) (X := Ou (Int) (Bool)) (fun a1 =>
      if a1.2 < ((p0).length : Int) then
        (idx p0 a1.2).bind fun x5 =>
        (idx p0 a1.2).bind fun x7 =>
        if 20 < ((x7).length : Int) then
          some (Stp.exit (Ou.ret true))
        else
          some (Stp.next (IntKind.wrap .i64 (a1.1 + ((x5).length : Int)), IntKind.wrap .i64 (a1.2 + 1)))
      else
        some (Stp.exit (Ou.go a1.1))) (0, 0)) (fun a9 =>
      jp (fun (a11 : Bool) =>
        some a11)
        fun k13 =>
        if 12 < ((p0).length : Int) then
          if ((p0).length : Int) ≤ 4096 then
            k13 true
          else
            if 0 < a9 then
              k13 true
            else
              k13 (decide (4099 < ((p0).length : Int)))
        else
          k13 (decide (4099 < ((p0).length : Int)))) some

set_option maxHeartbeats 8000000 in
set_option maxRecDepth 100000 in
theorem w_ref46_Great {p0 : List (List UInt8)} {r : Bool} (h : m_ref46_Great p0 = some r) : Pure Try.prog 22 [slE eStr p0] (· = HV.bool r) := by
  unfold m_ref46_Great at h
  refine Pure.of_body Try.func22 rfl rfl (Nat.le_of_ble_eq_true rfl) fun hf => ?_
  unfold Try.f22
  dsimp only [enumS, Nat.reduceAdd]
  refine AW.rgs rfl fun K hK => ?_
  refine mv rfl rfl ?_
  refine b_nil (hK _ (AW.to (to_le (s' := ⟨[(0, slE eStr p0)], []⟩) (AS.le_of ⟨rfl, trivial⟩ trivial) ?_)))
  clear hK K
  refine AW.rgs rfl fun K hK => ?_
  refine mv rfl rfl ?_
  refine b_nil (hK _ (AW.to (to_le (s' := ⟨[(0, slE eStr p0), (3, HV.int .i64 0)], []⟩) (AS.le_of ⟨rfl, rfl, trivial⟩ trivial) ?_)))
  clear hK K
  refine AW.seq ?_
  refine AW.rgs rfl fun K hK => ?_
  refine mv rfl rfl ?_
  refine b_nil (hK _ (AW.to (to_le (s' := ⟨[(0, slE eStr p0), (3, HV.int .i64 0), (4, HV.int .i64 0)], []⟩) (AS.le_of ⟨rfl, rfl, rfl, trivial⟩ trivial) ?_)))
  clear hK K
  refine AW.lpR h (by first | exact up_then | exact up_to) (S := Int × Int) (V := Unit) (fun a v => ⟨[(0, slE eStr p0), (3, HV.int .i64 a.1), (4, HV.int .i64 a.2)], []⟩) ?_ (X := Int) (W := Unit) (fun a v => ⟨[(0, slE eStr p0), (3, HV.int .i64 a)], []⟩) (fun a9 w10 h => ?_) (fun a1 w2 st3 h hr4=> ?_)
  · exact to_le (s' := ⟨[(0, slE eStr p0), (3, HV.int .i64 0), (4, HV.int .i64 0)], []⟩) (AS.le_of ⟨rfl, rfl, rfl, trivial⟩ trivial) ⟨(), rfl⟩
  · refine AW.seqJ h (S := Bool) (V := Unit) (fun a v => ⟨[(2, HV.bool a)], []⟩) (fun a11 w12 h => ?_) (fun k13 h => ?_)
    · refine AW.ret ?_
      have h := Option.some.inj h
      subst h
      exact ret_pure (hs := [HV.bool a11]) (q := HV.bool a11) (.inr rfl) (resT rfl rfl) rfl trivial
    · refine AW.rg rfl fun K hK => ?_
      refine mv rfl rfl ?_
      refine bv rfl (v_lenF rfl rfl ty30 rfl) ?_
      refine bv rfl (v_bin rfl rfl b_gtr) ?_
      refine mv rfl rfl ?_
      by_cases hg16 : 12 < ((p0).length : Int)
      · have h := ifT hg16 h
        refine b_T rfl rfl rfl rfl (decide_eq_true hg16) (o_val rfl (mv_val rfl rfl).2 ?_)
        refine b_T rfl rfl rfl rfl rfl (o_val rfl (v_lenF rfl rfl ty30 rfl) ?_)
        refine b_T rfl rfl rfl rfl rfl (o_val rfl (v_bin rfl rfl b_leq) ?_)
        refine b_T rfl rfl rfl rfl rfl (o_val rfl (mv_val rfl rfl).2 ?_)
        by_cases hg15 : ((p0).length : Int) ≤ 4096
        · have h := ifT hg15 h
          refine b_F rfl rfl rfl rfl rfl (decide_eq_true hg15) ?_
          refine b_F rfl rfl rfl rfl rfl rfl ?_
          refine b_T rfl rfl rfl rfl rfl (o_val rfl (v_pickT rfl rfl rfl) ?_)
          refine bv rfl (v_pickT rfl rfl rfl) ?_
          refine mv rfl rfl ?_
          refine b_F rfl rfl rfl rfl rfl rfl ?_
          refine b_F rfl rfl rfl rfl rfl rfl ?_
          refine b_F rfl rfl rfl rfl rfl rfl ?_
          refine bv rfl (v_pickT rfl rfl rfl) ?_
          refine mv rfl rfl ?_
          refine b_nil (hK _ ?_)
          clear hK K
          exact to_le (s' := ⟨[(2, HV.bool true)], []⟩) (AS.le_of ⟨rfl, trivial⟩ trivial) ⟨true, (), h, rfl⟩
        · have h := ifF hg15 h
          refine b_T rfl rfl rfl rfl (decide_eq_false hg15) (o_val rfl (mv_val rfl rfl).2 ?_)
          refine b_T rfl rfl rfl rfl rfl (o_val rfl (v_bin rfl rfl b_gtr) ?_)
          refine b_T rfl rfl rfl rfl rfl (o_val rfl (v_pickF rfl rfl rfl) ?_)
          refine bv rfl (v_pickT rfl rfl rfl) ?_
          refine mv rfl rfl ?_
          by_cases hg14 : 0 < a9
          · have h := ifT hg14 h
            refine b_F rfl rfl rfl rfl rfl (decide_eq_true hg14) ?_
            refine b_F rfl rfl rfl rfl rfl rfl ?_
            refine b_F rfl rfl rfl rfl rfl rfl ?_
            refine bv rfl (v_pickT rfl rfl rfl) ?_
            refine mv rfl rfl ?_
            refine b_nil (hK _ ?_)
            clear hK K
            exact to_le (s' := ⟨[(2, HV.bool true)], []⟩) (AS.le_of ⟨rfl, trivial⟩ trivial) ⟨true, (), h, rfl⟩
          · have h := ifF hg14 h
            refine b_T rfl rfl rfl rfl (decide_eq_false hg14) (o_val rfl (mv_val rfl rfl).2 ?_)
            refine b_T rfl rfl rfl rfl rfl (o_val rfl (v_lenF rfl rfl ty30 rfl) ?_)
            refine b_T rfl rfl rfl rfl rfl (o_val rfl (v_bin rfl rfl b_gtr) ?_)
            refine bv rfl (v_pickF rfl rfl rfl) ?_
            refine mv rfl rfl ?_
            refine b_nil (hK _ ?_)
            clear hK K
            exact to_le (s' := ⟨[(2, HV.bool (decide (4099 < ((p0).length : Int))))], []⟩) (AS.le_of ⟨rfl, trivial⟩ trivial) ⟨decide (4099 < ((p0).length : Int)), (), h, rfl⟩
      · have h := ifF hg16 h
        refine b_F rfl rfl rfl rfl rfl (decide_eq_false hg16) ?_
        refine b_F rfl rfl rfl rfl rfl rfl ?_
        refine b_F rfl rfl rfl rfl rfl rfl ?_
        refine b_F rfl rfl rfl rfl rfl rfl ?_
        refine b_U rfl rfl rfl rfl rfl ?_
        refine b_U rfl rfl rfl rfl rfl ?_
        refine b_F rfl rfl rfl rfl rfl rfl ?_
        refine bv rfl (v_pickF rfl rfl rfl) ?_
        refine mv rfl rfl ?_
        refine b_T rfl rfl rfl rfl rfl (o_val rfl (mv_val rfl rfl).2 ?_)
        refine b_T rfl rfl rfl rfl rfl (o_val rfl (v_lenF rfl rfl ty30 rfl) ?_)
        refine b_T rfl rfl rfl rfl rfl (o_val rfl (v_bin rfl rfl b_gtr) ?_)
        refine bv rfl (v_pickF rfl rfl rfl) ?_
        refine mv rfl rfl ?_
        refine b_nil (hK _ ?_)
        clear hK K
        exact to_le (s' := ⟨[(2, HV.bool (decide (4099 < ((p0).length : Int))))], []⟩) (AS.le_of ⟨rfl, trivial⟩ trivial) ⟨decide (4099 < ((p0).length : Int)), (), h, rfl⟩
  · refine AW.seq ?_
    refine AW.rgs rfl fun K hK => ?_
    refine mv rfl rfl ?_
    refine mv rfl rfl ?_
    refine bv rfl (v_lenF rfl rfl ty30 rfl) ?_
    refine bv rfl (v_bin rfl rfl b_lss) ?_
    refine b_nil (hK _ (AW.to (to_le (s' := ⟨[(0, slE eStr p0), (3, HV.int .i64 a1.1), (4, HV.int .i64 a1.2), (8, HV.bool (decide (a1.2 < ((p0).length : Int))))], []⟩) (AS.le_of ⟨rfl, rfl, rfl, rfl, trivial⟩ trivial) ?_)))
    clear hK K
    refine AW.cond rfl (fun hc => ?_) (fun hc => ?_)
    · have hc := of_decide_eq_true hc
      have h := ifT hc h
      refine AW.skip ?_
      refine AW.seq (AW.block ?_)
      refine AW.rgs rfl fun K hK => ?_
      refine mv rfl rfl ?_
      refine mv rfl rfl ?_
      refine mv rfl rfl ?_
      obtain ⟨x5, h6, h⟩ := bS h
      refine bv rfl (v_idxF ty30 es30 rfl rfl (idx_lt h6)) ?_
      refine bv rfl (v_loadF ty9 rfl (l_cell eStr h6 (o := 0) rfl rfl)) ?_
      refine bv rfl (v_lenS rfl rfl ty9 rfl) ?_
      refine bv rfl (v_bin rfl rfl b_add) ?_
      refine mv rfl rfl ?_
      refine b_nil (hK _ (AW.to (to_le (s' := ⟨[(0, slE eStr p0), (3, HV.int .i64 (IntKind.wrap .i64 (a1.1 + ((x5).length : Int)))), (4, HV.int .i64 a1.2)], []⟩) (AS.le_of ⟨rfl, rfl, rfl, trivial⟩ trivial) ?_)))
      clear hK K
      refine AW.rgs rfl fun K hK => ?_
      refine mv rfl rfl ?_
      refine mv rfl rfl ?_
      obtain ⟨x7, h8, h⟩ := bS h
      refine bv rfl (v_idxF ty30 es30 rfl rfl (idx_lt h8)) ?_
      refine bv rfl (v_loadF ty9 rfl (l_cell eStr h8 (o := 0) rfl rfl)) ?_
      refine bv rfl (v_lenS rfl rfl ty9 rfl) ?_
      refine bv rfl (v_bin rfl rfl b_gtr) ?_
      refine b_nil (hK _ (AW.to (to_le (s' := ⟨[(0, slE eStr p0), (3, HV.int .i64 (IntKind.wrap .i64 (a1.1 + ((x5).length : Int)))), (4, HV.int .i64 a1.2), (23, HV.bool (decide (20 < ((x7).length : Int))))], []⟩) (AS.le_of ⟨rfl, rfl, rfl, rfl, trivial⟩ trivial) ?_)))
      clear hK K
      refine AW.cond rfl (fun hc => ?_) (fun hc => ?_)
      · have hc := of_decide_eq_true hc
        have h := ifT hc h
        refine AW.rgs rfl fun K hK => ?_
        refine mv rfl rfl ?_
        refine b_nil (hK _ (AW.to (to_le (s' := ⟨[(2, HV.bool true)], []⟩) (AS.le_of ⟨rfl, trivial⟩ trivial) ?_)))
        clear hK K
        have h := hr4 _ h
        refine AW.ret ?_
        have h := Option.some.inj h
        subst h
        exact ret_pure (hs := [HV.bool true]) (q := HV.bool true) (.inr rfl) (resT rfl rfl) rfl trivial
      · have hc := of_decide_eq_false hc
        have h := ifF hc h
        refine AW.skip ?_
        refine AW.rg rfl fun K hK => ?_
        refine mv rfl rfl ?_
        refine bv rfl (v_bin rfl rfl b_add) ?_
        refine mv rfl rfl ?_
        refine b_nil (hK _ ?_)
        clear hK K
        exact to_le (s' := ⟨[(0, slE eStr p0), (3, HV.int .i64 (IntKind.wrap .i64 (a1.1 + ((x5).length : Int)))), (4, HV.int .i64 (IntKind.wrap .i64 (a1.2 + 1)))], []⟩) (AS.le_of ⟨rfl, rfl, rfl, trivial⟩ trivial) ⟨(IntKind.wrap .i64 (a1.1 + ((x5).length : Int)), IntKind.wrap .i64 (a1.2 + 1)), (), h, rfl⟩
    · have hc := of_decide_eq_false hc
      have h := ifF hc h
      refine AW.exit ?_
      exact to_le (s' := ⟨[(0, slE eStr p0), (3, HV.int .i64 a1.1)], []⟩) (AS.le_of ⟨rfl, rfl, trivial⟩ trivial) ⟨a1.1, (), h, rfl⟩

/-- groove/distance.listed -/
noncomputable def m_distance_listed (p0 : List (List UInt8)) : Option (Int) :=
  if 4096 < ((p0).length : Int) then
    some 4
  else
    lpO (loopW (S := Int) (X := Ou (Unit) (Int)) (fun a1 =>
        if a1 < ((p0).length : Int) then
          (idx p0 a1).bind fun x5 =>
          (idx p0 0).bind fun x7 =>
          if ((x5).length : Int) ≠ ((x7).length : Int) then
            some (Stp.exit (Ou.ret 11))
          else
            some (Stp.next (IntKind.wrap .i64 (a1 + 1)))
        else
          some (Stp.exit (Ou.go ()))) 0) (fun a9 =>
        some 0) some

set_option maxHeartbeats 8000000 in
set_option maxRecDepth 100000 in
theorem w_distance_listed {p0 : List (List UInt8)} {r : Int} (h : m_distance_listed p0 = some r) : Pure Try.prog 71 [slE eStr p0] (· = HV.int .i64 r) := by
  unfold m_distance_listed at h
  refine Pure.of_body Try.func71 rfl rfl (Nat.le_of_ble_eq_true rfl) fun hf => ?_
  unfold Try.f71
  dsimp only [enumS, Nat.reduceAdd]
  refine AW.rgs rfl fun K hK => ?_
  refine mv rfl rfl ?_
  refine b_nil (hK _ (AW.to (to_le (s' := ⟨[(0, slE eStr p0)], []⟩) (AS.le_of ⟨rfl, trivial⟩ trivial) ?_)))
  clear hK K
  refine AW.seq ?_
  refine AW.rgs rfl fun K hK => ?_
  refine mv rfl rfl ?_
  refine bv rfl (v_lenF rfl rfl ty30 rfl) ?_
  refine bv rfl (v_bin rfl rfl b_gtr) ?_
  refine b_nil (hK _ (AW.to (to_le (s' := ⟨[(0, slE eStr p0), (7, HV.bool (decide (4096 < ((p0).length : Int))))], []⟩) (AS.le_of ⟨rfl, rfl, trivial⟩ trivial) ?_)))
  clear hK K
  refine AW.cond rfl (fun hc => ?_) (fun hc => ?_)
  · have hc := of_decide_eq_true hc
    have h := ifT hc h
    refine AW.rgs rfl fun K hK => ?_
    refine mv rfl rfl ?_
    refine b_nil (hK _ (AW.to (to_le (s' := ⟨[(2, HV.int .i64 4)], []⟩) (AS.le_of ⟨rfl, trivial⟩ trivial) ?_)))
    clear hK K
    refine AW.ret ?_
    have h := Option.some.inj h
    subst h
    exact ret_pure (hs := [HV.int .i64 4]) (q := HV.int .i64 4) (.inr rfl) (resT rfl rfl) rfl trivial
  · have hc := of_decide_eq_false hc
    have h := ifF hc h
    refine AW.skip ?_
    refine AW.seq ?_
    refine AW.rgs rfl fun K hK => ?_
    refine mv rfl rfl ?_
    refine bv rfl (v_lenF rfl rfl ty30 rfl) ?_
    refine mv rfl rfl ?_
    refine b_nil (hK _ (AW.to (to_le (s' := ⟨[(0, slE eStr p0), (8, slE eStr p0), (9, HV.int .i64 ((p0).length : Int)), (10, HV.int .i64 0)], []⟩) (AS.le_of ⟨rfl, rfl, rfl, rfl, trivial⟩ trivial) ?_)))
    clear hK K
    refine AW.lpR h (by first | exact up_then | exact up_to) (S := Int) (V := Unit) (fun a v => ⟨[(0, slE eStr p0), (8, slE eStr p0), (9, HV.int .i64 ((p0).length : Int)), (10, HV.int .i64 a)], []⟩) ?_ (X := Unit) (W := Unit) (fun a v => ⟨[], []⟩) (fun a9 w10 h => ?_) (fun a1 w2 st3 h hr4=> ?_)
    · exact to_le (s' := ⟨[(0, slE eStr p0), (8, slE eStr p0), (9, HV.int .i64 ((p0).length : Int)), (10, HV.int .i64 0)], []⟩) (AS.le_of ⟨rfl, rfl, rfl, rfl, trivial⟩ trivial) ⟨(), rfl⟩
    · refine AW.rgs rfl fun K hK => ?_
      refine mv rfl rfl ?_
      refine b_nil (hK _ (AW.to (to_le (s' := ⟨[(2, HV.int .i64 0)], []⟩) (AS.le_of ⟨rfl, trivial⟩ trivial) ?_)))
      clear hK K
      refine AW.ret ?_
      have h := Option.some.inj h
      subst h
      exact ret_pure (hs := [HV.int .i64 0]) (q := HV.int .i64 0) (.inr rfl) (resT rfl rfl) rfl trivial
    · refine AW.rgs rfl fun K hK => ?_
      refine bv rfl (v_bin rfl rfl b_lss) ?_
      refine b_nil (hK _ (AW.to (to_le (s' := ⟨[(0, slE eStr p0), (8, slE eStr p0), (9, HV.int .i64 ((p0).length : Int)), (10, HV.int .i64 a1), (11, HV.bool (decide (a1 < ((p0).length : Int))))], []⟩) (AS.le_of ⟨rfl, rfl, rfl, rfl, rfl, trivial⟩ trivial) ?_)))
      clear hK K
      refine AW.cseq rfl (fun hc => ?_) (fun hc => ?_)
      · have hc := of_decide_eq_true hc
        have h := ifT hc h
        refine AW.skip ?_
        refine AW.seq (AW.block ?_)
        refine AW.rgs rfl fun K hK => ?_
        obtain ⟨x5, h6, h⟩ := bS h
        refine bv rfl (v_idxF ty30 es30 rfl rfl (idx_lt h6)) ?_
        refine bv rfl (v_loadF ty9 rfl (l_cell eStr h6 (o := 0) rfl rfl)) ?_
        refine mv rfl rfl ?_
        refine b_nil (hK _ (AW.to (to_le (s' := ⟨[(0, slE eStr p0), (4, HV.str x5), (8, slE eStr p0), (9, HV.int .i64 ((p0).length : Int)), (10, HV.int .i64 a1)], []⟩) (AS.le_of ⟨rfl, rfl, rfl, rfl, rfl, trivial⟩ trivial) ?_)))
        clear hK K
        refine AW.rgs rfl fun K hK => ?_
        refine mv rfl rfl ?_
        refine bv rfl (v_lenS rfl rfl ty9 rfl) ?_
        refine mv rfl rfl ?_
        obtain ⟨x7, h8, h⟩ := bS h
        refine bv rfl (v_idxF ty30 es30 rfl rfl (idx_lt h8)) ?_
        refine bv rfl (v_loadF ty9 rfl (l_cell eStr h8 (o := 0) rfl rfl)) ?_
        refine bv rfl (v_lenS rfl rfl ty9 rfl) ?_
        refine bv rfl (v_bin rfl rfl b_neq) ?_
        refine b_nil (hK _ (AW.to (to_le (s' := ⟨[(0, slE eStr p0), (8, slE eStr p0), (9, HV.int .i64 ((p0).length : Int)), (10, HV.int .i64 a1), (20, HV.bool (decide (((x5).length : Int) ≠ ((x7).length : Int))))], []⟩) (AS.le_of ⟨rfl, rfl, rfl, rfl, rfl, trivial⟩ trivial) ?_)))
        clear hK K
        refine AW.cond rfl (fun hc => ?_) (fun hc => ?_)
        · have hc := of_decide_eq_true hc
          have h := ifT hc h
          refine AW.rgs rfl fun K hK => ?_
          refine mv rfl rfl ?_
          refine b_nil (hK _ (AW.to (to_le (s' := ⟨[(2, HV.int .i64 11)], []⟩) (AS.le_of ⟨rfl, trivial⟩ trivial) ?_)))
          clear hK K
          have h := hr4 _ h
          refine AW.ret ?_
          have h := Option.some.inj h
          subst h
          exact ret_pure (hs := [HV.int .i64 11]) (q := HV.int .i64 11) (.inr rfl) (resT rfl rfl) rfl trivial
        · have hc := of_decide_eq_false hc
          have h := ifF hc h
          refine AW.skip ?_
          refine AW.rg rfl fun K hK => ?_
          refine bv rfl (v_bin rfl rfl b_add) ?_
          refine mv rfl rfl ?_
          refine b_nil (hK _ ?_)
          clear hK K
          exact to_le (s' := ⟨[(0, slE eStr p0), (8, slE eStr p0), (9, HV.int .i64 ((p0).length : Int)), (10, HV.int .i64 (IntKind.wrap .i64 (a1 + 1)))], []⟩) (AS.le_of ⟨rfl, rfl, rfl, rfl, trivial⟩ trivial) ⟨IntKind.wrap .i64 (a1 + 1), (), h, rfl⟩
      · have hc := of_decide_eq_false hc
        have h := ifF hc h
        refine AW.exit ?_
        exact to_le (s' := ⟨[], []⟩) (AS.le_of trivial trivial) ⟨(), (), h, rfl⟩

set_option maxHeartbeats 8000000 in
set_option maxRecDepth 100000 in
theorem w_distance_pairs (p0 : List (List UInt8)) : Pure Try.prog 74 [slE eStr p0] (· = HV.fn (.func 123) [] [HV.fptr [slE eStr p0] 0]) := by
  refine Pure.of_body Try.func74 rfl rfl (Nat.le_of_ble_eq_true rfl) fun hf => ?_
  unfold Try.f74
  dsimp only [enumS, Nat.reduceAdd]
  refine AW.rgs rfl fun K hK => ?_
  refine b_op rfl (o_box rfl rfl rfl ?_)
  refine mv rfl rfl ?_
  refine b_nil (hK _ (AW.to (to_le (s' := ⟨[(1, HV.fptr [slE eStr p0] 0)], []⟩) (AS.le_of ⟨rfl, trivial⟩ trivial) ?_)))
  clear hK K
  refine AW.rgs rfl fun K hK => ?_
  refine bv rfl (v_func rfl rfl) ?_
  refine mv rfl rfl ?_
  refine b_nil (hK _ (AW.to (to_le (s' := ⟨[(2, HV.fn (.func 123) [] [HV.fptr [slE eStr p0] 0])], []⟩) (AS.le_of ⟨rfl, trivial⟩ trivial) ?_)))
  clear hK K
  refine AW.ret ?_
  exact ret_pure (hs := [HV.fn (.func 123) [] [HV.fptr [slE eStr p0] 0]]) (q := HV.fn (.func 123) [] [HV.fptr [slE eStr p0] 0]) (.inr rfl) (resT rfl rfl) rfl ⟨trivial, ⟨⟨(clean_slE fun _ _ => ⟨trivial, trivial⟩), trivial⟩, trivial⟩⟩

/-- groove/distance.least -/
noncomputable def m_distance_least (p0 : List (List UInt8)) : Option (Int) :=
  (idx p0 0).bind fun x1 =>
  (y_distance_pairs p0).bind fun L4 =>
  lpO (forL (S := Int) (X := Unit) (fun a6 (x8 : Int) =>
      some (Stp.next (min a6 x8))) L4 ((x1).length : Int)) (fun a12 =>
      some a12) fun a14 =>
      none

set_option maxHeartbeats 8000000 in
set_option maxRecDepth 100000 in
theorem w_distance_least {p0 : List (List UInt8)} {r : Int} (h : m_distance_least p0 = some r) : Pure Try.prog 72 [slE eStr p0] (· = HV.int .i64 r) := by
  unfold m_distance_least at h
  refine Pure.of_body Try.func72 rfl rfl (Nat.le_of_ble_eq_true rfl) fun hf => ?_
  unfold Try.f72
  dsimp only [enumS, Nat.reduceAdd]
  refine AW.rgs rfl fun K hK => ?_
  refine mv rfl rfl ?_
  refine b_nil (hK _ (AW.to (to_le (s' := ⟨[(0, slE eStr p0)], []⟩) (AS.le_of ⟨rfl, trivial⟩ trivial) ?_)))
  clear hK K
  refine AW.rgs rfl fun K hK => ?_
  refine mv rfl rfl ?_
  obtain ⟨x1, h2, h⟩ := bS h
  refine bv rfl (v_idxF ty30 es30 rfl rfl (idx_lt h2)) ?_
  refine bv rfl (v_loadF ty9 rfl (l_cell eStr h2 (o := 0) rfl rfl)) ?_
  refine bv rfl (v_lenS rfl rfl ty9 rfl) ?_
  refine b_op rfl (o_alloc (fid := 72) (zs := [HV.int .i64 0]) 72003 rfl rfl ty3 rfl (fun v3 => ?_))
  refine b_op rfl (o_store (cs := [HV.int .i64 ((x1).length : Int)]) (zs := [HV.int .i64 ((x1).length : Int)]) rfl rfl rfl ty3 rfl rfl rfl rfl rfl ?_)
  refine b_nil (hK _ (AW.to (to_le (s' := ⟨[(0, slE eStr p0), (3, HV.ptr 72003 v3 0)], [(72003, v3, .arr 1 3 [HV.int .i64 ((x1).length : Int)])]⟩) (AS.le_of ⟨rfl, rfl, trivial⟩ ⟨rfl, trivial⟩) ?_)))
  clear hK K
  refine AW.seq ?_
  refine AW.rgs rfl fun K hK => ?_
  refine mv rfl rfl ?_
  refine b_op rfl (o_call rfl rfl rfl rfl (ACallD.pure0 (w_distance_pairs p0)) ?_)
  refine b_nil (hK _ (AW.to (to_le (s' := ⟨[(3, HV.ptr 72003 v3 0), (10, HV.fn (.func 123) [] [HV.fptr [slE eStr p0] 0])], [(72003, v3, .arr 1 3 [HV.int .i64 ((x1).length : Int)])]⟩) (AS.le_of ⟨rfl, rfl, trivial⟩ ⟨rfl, trivial⟩) ?_)))
  clear hK K
  refine AW.block ?_
  refine AW.to (to_le (s' := ⟨[(3, HV.ptr 72003 v3 0), (10, HV.fn (.func 123) [] [HV.fptr [slE eStr p0] 0])], [(72003, v3, .arr 1 3 [HV.int .i64 ((x1).length : Int)])]⟩) (AS.le_of ⟨rfl, rfl, trivial⟩ ⟨rfl, trivial⟩) ?_)
  obtain ⟨L4, h5, h⟩ := bS h
  refine AW.rangeY (c := .ret) 72901 (fun x => [HV.int .i64 x]) h (by first | exact up_then | exact up_to) rfl (iy_distance_pairs h5) (S := Int) (V := Unit) (fun a v => [(72003, v3, .arr 1 3 [HV.int .i64 a])]) () (X := Unit) (W := Unit) (fun _ _ => []) (fun _ _ => rfl) (fun _ _ => rfl) rfl (fun _ => rfl) (fun a12 w13 h => ?_) (fun a14 w15 h => ?_) (fun Lo l11 v9 a6 x8 w7 st10 h => ?_)
  · refine AW.rgs rfl fun K hK => ?_
    refine bv rfl (v_loadP ty3 rfl rfl (l_lit rfl rfl)) ?_
    refine mv rfl rfl ?_
    refine b_nil (hK _ (AW.to (to_le (s' := ⟨[(2, HV.int .i64 a12)], []⟩) (AS.le_of ⟨rfl, trivial⟩ trivial) ?_)))
    clear hK K
    refine AW.ret ?_
    have h := Option.some.inj h
    subst h
    exact ret_pure (hs := [HV.int .i64 a12]) (q := HV.int .i64 a12) (.inr rfl) (resT rfl rfl) rfl trivial
  · cases h
  · refine AW.rg rfl fun K hK => ?_
    refine mv rfl rfl ?_
    refine b_nil (hK _ ?_)
    clear hK K
    refine ⟨rfl, rfl, ?_⟩
    refine AW.block ?_
    refine AW.rg rfl fun K hK => ?_
    refine bv rfl (v_loadP ty3 rfl rfl (l_lit rfl rfl)) ?_
    refine mv rfl rfl ?_
    refine bv rfl (v_min rfl rfl rfl) ?_
    refine b_op rfl (o_store (cs := [HV.int .i64 (min a6 x8)]) (zs := [HV.int .i64 (min a6 x8)]) rfl rfl rfl ty3 rfl rfl rfl rfl rfl ?_)
    refine b_nil (hK _ ?_)
    clear hK K
    exact ⟨min a6 x8, (), h, (AS.le_of trivial ⟨rfl, rfl, trivial⟩)⟩

/-- groove/distance.Least -/
noncomputable def m_distance_Least (p0 : List (List UInt8)) : Option (Int × Int) :=
  (m_distance_listed p0).bind fun x1 =>
  if x1 ≠ 0 then
    some (0, x1)
  else
    if ((p0).length : Int) < 2 then
      some (0, 5)
    else
      (m_distance_least p0).bind fun x3 =>
      some (x3, 0)

set_option maxHeartbeats 8000000 in
set_option maxRecDepth 100000 in
theorem w_distance_Least {p0 : List (List UInt8)} {r : Int × Int} (h : m_distance_Least p0 = some r) : Pure Try.prog 23 [slE eStr p0] (· = HV.tup [HV.int .i64 r.1, HV.int .i64 r.2]) := by
  unfold m_distance_Least at h
  refine Pure.of_body Try.func23 rfl rfl (Nat.le_of_ble_eq_true rfl) fun hf => ?_
  unfold Try.f23
  dsimp only [enumS, Nat.reduceAdd]
  refine AW.rgs rfl fun K hK => ?_
  refine mv rfl rfl ?_
  refine mv rfl rfl ?_
  refine b_nil (hK _ (AW.to (to_le (s' := ⟨[(0, slE eStr p0)], []⟩) (AS.le_of ⟨rfl, trivial⟩ trivial) ?_)))
  clear hK K
  refine AW.seq ?_
  refine AW.rgs rfl fun K hK => ?_
  refine mv rfl rfl ?_
  obtain ⟨x1, h2, h⟩ := bS h
  refine b_op rfl (o_call rfl rfl rfl rfl (ACallD.pure0 (w_distance_listed h2)) ?_)
  refine mv rfl rfl ?_
  refine b_nil (hK _ (AW.to (to_le (s' := ⟨[(0, slE eStr p0), (4, HV.int .i64 x1)], []⟩) (AS.le_of ⟨rfl, rfl, trivial⟩ trivial) ?_)))
  clear hK K
  refine AW.rgs rfl fun K hK => ?_
  refine mv rfl rfl ?_
  refine bv rfl (v_bin rfl rfl b_neq) ?_
  refine b_nil (hK _ (AW.to (to_le (s' := ⟨[(0, slE eStr p0), (4, HV.int .i64 x1), (8, HV.bool (decide (x1 ≠ 0)))], []⟩) (AS.le_of ⟨rfl, rfl, rfl, trivial⟩ trivial) ?_)))
  clear hK K
  refine AW.cond rfl (fun hc => ?_) (fun hc => ?_)
  · have hc := of_decide_eq_true hc
    have h := ifT hc h
    refine AW.rgs rfl fun K hK => ?_
    refine mv rfl rfl ?_
    refine mv rfl rfl ?_
    refine mv rfl rfl ?_
    refine b_nil (hK _ (AW.to (to_le (s' := ⟨[(2, HV.int .i64 0), (3, HV.int .i64 x1)], []⟩) (AS.le_of ⟨rfl, rfl, trivial⟩ trivial) ?_)))
    clear hK K
    refine AW.ret ?_
    have h := Option.some.inj h
    subst h
    exact ret_pure (hs := [HV.int .i64 0, HV.int .i64 x1]) (q := HV.tup [HV.int .i64 0, HV.int .i64 x1]) (.inr rfl) (resT rfl (resT rfl rfl)) rfl ⟨trivial, trivial, trivial⟩
  · have hc := of_decide_eq_false hc
    have h := ifF hc h
    refine AW.skip ?_
    refine AW.seq ?_
    refine AW.rgs rfl fun K hK => ?_
    refine mv rfl rfl ?_
    refine bv rfl (v_lenF rfl rfl ty30 rfl) ?_
    refine bv rfl (v_bin rfl rfl b_lss) ?_
    refine b_nil (hK _ (AW.to (to_le (s' := ⟨[(0, slE eStr p0), (12, HV.bool (decide (((p0).length : Int) < 2)))], []⟩) (AS.le_of ⟨rfl, rfl, trivial⟩ trivial) ?_)))
    clear hK K
    refine AW.cond rfl (fun hc => ?_) (fun hc => ?_)
    · have hc := of_decide_eq_true hc
      have h := ifT hc h
      refine AW.rgs rfl fun K hK => ?_
      refine mv rfl rfl ?_
      refine mv rfl rfl ?_
      refine b_nil (hK _ (AW.to (to_le (s' := ⟨[(2, HV.int .i64 0), (3, HV.int .i64 5)], []⟩) (AS.le_of ⟨rfl, rfl, trivial⟩ trivial) ?_)))
      clear hK K
      refine AW.ret ?_
      have h := Option.some.inj h
      subst h
      exact ret_pure (hs := [HV.int .i64 0, HV.int .i64 5]) (q := HV.tup [HV.int .i64 0, HV.int .i64 5]) (.inr rfl) (resT rfl (resT rfl rfl)) rfl ⟨trivial, trivial, trivial⟩
    · have hc := of_decide_eq_false hc
      have h := ifF hc h
      refine AW.skip ?_
      refine AW.rgs rfl fun K hK => ?_
      refine mv rfl rfl ?_
      obtain ⟨x3, h4, h⟩ := bS h
      refine b_op rfl (o_call rfl rfl rfl rfl (ACallD.pure0 (w_distance_least h4)) ?_)
      refine mv rfl rfl ?_
      refine mv rfl rfl ?_
      refine b_nil (hK _ (AW.to (to_le (s' := ⟨[(2, HV.int .i64 x3), (3, HV.int .i64 0)], []⟩) (AS.le_of ⟨rfl, rfl, trivial⟩ trivial) ?_)))
      clear hK K
      refine AW.ret ?_
      have h := Option.some.inj h
      subst h
      exact ret_pure (hs := [HV.int .i64 x3, HV.int .i64 0]) (q := HV.tup [HV.int .i64 x3, HV.int .i64 0]) (.inr rfl) (resT rfl (resT rfl rfl)) rfl ⟨trivial, trivial, trivial⟩

/-- groove/grooveref46.hamming -/
noncomputable def m_ref46_hamming (p0 : List UInt8) (p1 : List UInt8) : Option (Int) :=
  (loopW (S := Int × Int) (X := Int) (fun a1 =>
      if a1.2 < ((p0).length : Int) then
        jp (fun (a5 : Int) =>
          some (Stp.next (a5, IntKind.wrap .i64 (a1.2 + 1))))
          fun k7 =>
          (idx p0 a1.2).bind fun x8 =>
          (idx p1 a1.2).bind fun x10 =>
          if (x8.toNat : Int) ≠ (x10.toNat : Int) then
            k7 (IntKind.wrap .i64 (a1.1 + 1))
          else
            k7 a1.1
      else
        some (Stp.exit a1.1)) (0, 0)).bind fun a12 =>
  some a12

set_option maxHeartbeats 8000000 in
set_option maxRecDepth 100000 in
theorem w_ref46_hamming {p0 : List UInt8} {p1 : List UInt8} {r : Int} (h : m_ref46_hamming p0 p1 = some r) : Pure Try.prog 70 [HV.str p0, HV.str p1] (· = HV.int .i64 r) := by
  unfold m_ref46_hamming at h
  refine Pure.of_body Try.func70 rfl rfl (Nat.le_of_ble_eq_true rfl) fun hf => ?_
  unfold Try.f70
  dsimp only [enumS, Nat.reduceAdd]
  refine AW.rgs rfl fun K hK => ?_
  refine mv rfl rfl ?_
  refine b_nil (hK _ (AW.to (to_le (s' := ⟨[(0, HV.str p0), (1, HV.str p1)], []⟩) (AS.le_of ⟨rfl, rfl, trivial⟩ trivial) ?_)))
  clear hK K
  refine AW.rgs rfl fun K hK => ?_
  refine mv rfl rfl ?_
  refine b_nil (hK _ (AW.to (to_le (s' := ⟨[(0, HV.str p0), (1, HV.str p1), (5, HV.int .i64 0)], []⟩) (AS.le_of ⟨rfl, rfl, rfl, trivial⟩ trivial) ?_)))
  clear hK K
  refine AW.seq ?_
  refine AW.rgs rfl fun K hK => ?_
  refine mv rfl rfl ?_
  refine b_nil (hK _ (AW.to (to_le (s' := ⟨[(0, HV.str p0), (1, HV.str p1), (5, HV.int .i64 0), (6, HV.int .i64 0)], []⟩) (AS.le_of ⟨rfl, rfl, rfl, rfl, trivial⟩ trivial) ?_)))
  clear hK K
  refine AW.lpX h (by first | exact up_then | exact up_to) (S := Int × Int) (V := Unit) (fun a v => ⟨[(0, HV.str p0), (1, HV.str p1), (5, HV.int .i64 a.1), (6, HV.int .i64 a.2)], []⟩) ?_ (X := Int) (W := Unit) (fun a v => ⟨[(5, HV.int .i64 a)], []⟩) (fun a12 w13 h => ?_) (fun a1 w2 st3 h => ?_)
  · exact to_le (s' := ⟨[(0, HV.str p0), (1, HV.str p1), (5, HV.int .i64 0), (6, HV.int .i64 0)], []⟩) (AS.le_of ⟨rfl, rfl, rfl, rfl, trivial⟩ trivial) ⟨(), rfl⟩
  · refine AW.rgs rfl fun K hK => ?_
    refine mv rfl rfl ?_
    refine mv rfl rfl ?_
    refine b_nil (hK _ (AW.to (to_le (s' := ⟨[(4, HV.int .i64 a12)], []⟩) (AS.le_of ⟨rfl, trivial⟩ trivial) ?_)))
    clear hK K
    refine AW.ret ?_
    have h := Option.some.inj h
    subst h
    exact ret_pure (hs := [HV.int .i64 a12]) (q := HV.int .i64 a12) (.inr rfl) (resT rfl rfl) rfl trivial
  · refine AW.seq ?_
    refine AW.rgs rfl fun K hK => ?_
    refine mv rfl rfl ?_
    refine mv rfl rfl ?_
    refine bv rfl (v_lenS rfl rfl ty9 rfl) ?_
    refine bv rfl (v_bin rfl rfl b_lss) ?_
    refine b_nil (hK _ (AW.to (to_le (s' := ⟨[(0, HV.str p0), (1, HV.str p1), (5, HV.int .i64 a1.1), (6, HV.int .i64 a1.2), (10, HV.bool (decide (a1.2 < ((p0).length : Int))))], []⟩) (AS.le_of ⟨rfl, rfl, rfl, rfl, rfl, trivial⟩ trivial) ?_)))
    clear hK K
    refine AW.cond rfl (fun hc => ?_) (fun hc => ?_)
    · have hc := of_decide_eq_true hc
      have h := ifT hc h
      refine AW.skip ?_
      refine AW.seqJ h (S := Int) (V := Unit) (fun a v => ⟨[(0, HV.str p0), (1, HV.str p1), (5, HV.int .i64 a), (6, HV.int .i64 a1.2)], []⟩) (fun a5 w6 h => ?_) (fun k7 h => ?_)
      · refine AW.rg rfl fun K hK => ?_
        refine mv rfl rfl ?_
        refine bv rfl (v_bin rfl rfl b_add) ?_
        refine mv rfl rfl ?_
        refine b_nil (hK _ ?_)
        clear hK K
        exact to_le (s' := ⟨[(0, HV.str p0), (1, HV.str p1), (5, HV.int .i64 a5), (6, HV.int .i64 (IntKind.wrap .i64 (a1.2 + 1)))], []⟩) (AS.le_of ⟨rfl, rfl, rfl, rfl, trivial⟩ trivial) ⟨(a5, IntKind.wrap .i64 (a1.2 + 1)), (), h, rfl⟩
      · refine AW.block ?_
        refine AW.dgs 7 follows rfl rfl fun K hK => ?_
        refine sm rfl rfl ?_
        refine sm rfl rfl ?_
        obtain ⟨x8, h9, h⟩ := bS h
        refine sv rfl (v_idxS ty9 rfl rfl h9) ?_
        refine sm rfl rfl ?_
        refine sm rfl rfl ?_
        obtain ⟨x10, h11, h⟩ := bS h
        refine sv rfl (v_idxS ty9 rfl rfl h11) ?_
        refine sv rfl (v_bin rfl rfl b_neq) ?_
        refine s_nil ?_
        refine b_nil (hK _ (AW.to (to_le (s' := ⟨[(0, HV.str p0), (1, HV.str p1), (5, HV.int .i64 a1.1), (6, HV.int .i64 a1.2), (19, HV.bool (decide ((x8.toNat : Int) ≠ (x10.toNat : Int))))], []⟩) (AS.le_of ⟨rfl, rfl, rfl, rfl, rfl, trivial⟩ trivial) ?_)))
        clear hK K
        refine AW.cond rfl (fun hc => ?_) (fun hc => ?_)
        · have hc := of_decide_eq_true hc
          have h := ifT hc h
          refine AW.rg rfl fun K hK => ?_
          refine mv rfl rfl ?_
          refine bv rfl (v_bin rfl rfl b_add) ?_
          refine mv rfl rfl ?_
          refine b_nil (hK _ ?_)
          clear hK K
          exact to_le (s' := ⟨[(0, HV.str p0), (1, HV.str p1), (5, HV.int .i64 (IntKind.wrap .i64 (a1.1 + 1))), (6, HV.int .i64 a1.2)], []⟩) (AS.le_of ⟨rfl, rfl, rfl, rfl, trivial⟩ trivial) ⟨IntKind.wrap .i64 (a1.1 + 1), (), h, rfl⟩
        · have hc := of_decide_eq_false hc
          have h := ifF hc h
          refine AW.skip ?_
          exact to_le (s' := ⟨[(0, HV.str p0), (1, HV.str p1), (5, HV.int .i64 a1.1), (6, HV.int .i64 a1.2)], []⟩) (AS.le_of ⟨rfl, rfl, rfl, rfl, trivial⟩ trivial) ⟨a1.1, (), h, rfl⟩
    · have hc := of_decide_eq_false hc
      have h := ifF hc h
      refine AW.exit ?_
      exact to_le (s' := ⟨[(5, HV.int .i64 a1.1)], []⟩) (AS.le_of ⟨rfl, trivial⟩ trivial) ⟨a1.1, (), h, rfl⟩

/-- groove/grooveref46.Hamming -/
noncomputable def m_ref46_Hamming (p0 : List UInt8) (p1 : List UInt8) : Option (Int × Int) :=
  if ((p0).length : Int) ≠ ((p1).length : Int) then
    some (0, 11)
  else
    (m_ref46_hamming p0 p1).bind fun x1 =>
    some (x1, 0)

set_option maxHeartbeats 8000000 in
set_option maxRecDepth 100000 in
theorem w_ref46_Hamming {p0 : List UInt8} {p1 : List UInt8} {r : Int × Int} (h : m_ref46_Hamming p0 p1 = some r) : Pure Try.prog 26 [HV.str p0, HV.str p1] (· = HV.tup [HV.int .i64 r.1, HV.int .i64 r.2]) := by
  unfold m_ref46_Hamming at h
  refine Pure.of_body Try.func26 rfl rfl (Nat.le_of_ble_eq_true rfl) fun hf => ?_
  unfold Try.f26
  dsimp only [enumS, Nat.reduceAdd]
  refine AW.rgs rfl fun K hK => ?_
  refine mv rfl rfl ?_
  refine mv rfl rfl ?_
  refine b_nil (hK _ (AW.to (to_le (s' := ⟨[(0, HV.str p0), (1, HV.str p1)], []⟩) (AS.le_of ⟨rfl, rfl, trivial⟩ trivial) ?_)))
  clear hK K
  refine AW.seq ?_
  refine AW.rgs rfl fun K hK => ?_
  refine mv rfl rfl ?_
  refine bv rfl (v_lenS rfl rfl ty9 rfl) ?_
  refine mv rfl rfl ?_
  refine bv rfl (v_lenS rfl rfl ty9 rfl) ?_
  refine bv rfl (v_bin rfl rfl b_neq) ?_
  refine b_nil (hK _ (AW.to (to_le (s' := ⟨[(0, HV.str p0), (1, HV.str p1), (10, HV.bool (decide (((p0).length : Int) ≠ ((p1).length : Int))))], []⟩) (AS.le_of ⟨rfl, rfl, rfl, trivial⟩ trivial) ?_)))
  clear hK K
  refine AW.cond rfl (fun hc => ?_) (fun hc => ?_)
  · have hc := of_decide_eq_true hc
    have h := ifT hc h
    refine AW.rgs rfl fun K hK => ?_
    refine mv rfl rfl ?_
    refine mv rfl rfl ?_
    refine b_nil (hK _ (AW.to (to_le (s' := ⟨[(4, HV.int .i64 0), (5, HV.int .i64 11)], []⟩) (AS.le_of ⟨rfl, rfl, trivial⟩ trivial) ?_)))
    clear hK K
    refine AW.ret ?_
    have h := Option.some.inj h
    subst h
    exact ret_pure (hs := [HV.int .i64 0, HV.int .i64 11]) (q := HV.tup [HV.int .i64 0, HV.int .i64 11]) (.inr rfl) (resT rfl (resT rfl rfl)) rfl ⟨trivial, trivial, trivial⟩
  · have hc := of_decide_eq_false hc
    have h := ifF hc h
    refine AW.skip ?_
    refine AW.rgs rfl fun K hK => ?_
    refine mv rfl rfl ?_
    refine mv rfl rfl ?_
    obtain ⟨x1, h2, h⟩ := bS h
    refine b_op rfl (o_call rfl rfl rfl rfl (ACallD.pure0 (w_ref46_hamming h2)) ?_)
    refine mv rfl rfl ?_
    refine mv rfl rfl ?_
    refine b_nil (hK _ (AW.to (to_le (s' := ⟨[(4, HV.int .i64 x1), (5, HV.int .i64 0)], []⟩) (AS.le_of ⟨rfl, rfl, trivial⟩ trivial) ?_)))
    clear hK K
    refine AW.ret ?_
    have h := Option.some.inj h
    subst h
    exact ret_pure (hs := [HV.int .i64 x1, HV.int .i64 0]) (q := HV.tup [HV.int .i64 x1, HV.int .i64 0]) (.inr rfl) (resT rfl (resT rfl rfl)) rfl ⟨trivial, trivial, trivial⟩

/-- groove/grooveref46.checkList -/
noncomputable def m_ref46_checkList (p0 : List (List UInt8)) : Option (Int) :=
  if 4096 < ((p0).length : Int) then
    some 4
  else
    lpO (loopW (S := Int) (X := Ou (Unit) (Int)) (fun a1 =>
        if a1 < ((p0).length : Int) then
          (idx p0 a1).bind fun x5 =>
          (idx p0 0).bind fun x7 =>
          if ((x5).length : Int) ≠ ((x7).length : Int) then
            some (Stp.exit (Ou.ret 11))
          else
            some (Stp.next (IntKind.wrap .i64 (a1 + 1)))
        else
          some (Stp.exit (Ou.go ()))) 0) (fun a9 =>
        some 0) some

set_option maxHeartbeats 8000000 in
set_option maxRecDepth 100000 in
theorem w_ref46_checkList {p0 : List (List UInt8)} {r : Int} (h : m_ref46_checkList p0 = some r) : Pure Try.prog 73 [slE eStr p0] (· = HV.int .i64 r) := by
  unfold m_ref46_checkList at h
  refine Pure.of_body Try.func73 rfl rfl (Nat.le_of_ble_eq_true rfl) fun hf => ?_
  unfold Try.f73
  dsimp only [enumS, Nat.reduceAdd]
  refine AW.rgs rfl fun K hK => ?_
  refine mv rfl rfl ?_
  refine b_nil (hK _ (AW.to (to_le (s' := ⟨[(0, slE eStr p0)], []⟩) (AS.le_of ⟨rfl, trivial⟩ trivial) ?_)))
  clear hK K
  refine AW.seq ?_
  refine AW.rgs rfl fun K hK => ?_
  refine mv rfl rfl ?_
  refine bv rfl (v_lenF rfl rfl ty30 rfl) ?_
  refine bv rfl (v_bin rfl rfl b_gtr) ?_
  refine b_nil (hK _ (AW.to (to_le (s' := ⟨[(0, slE eStr p0), (6, HV.bool (decide (4096 < ((p0).length : Int))))], []⟩) (AS.le_of ⟨rfl, rfl, trivial⟩ trivial) ?_)))
  clear hK K
  refine AW.cond rfl (fun hc => ?_) (fun hc => ?_)
  · have hc := of_decide_eq_true hc
    have h := ifT hc h
    refine AW.rgs rfl fun K hK => ?_
    refine mv rfl rfl ?_
    refine b_nil (hK _ (AW.to (to_le (s' := ⟨[(2, HV.int .i64 4)], []⟩) (AS.le_of ⟨rfl, trivial⟩ trivial) ?_)))
    clear hK K
    refine AW.ret ?_
    have h := Option.some.inj h
    subst h
    exact ret_pure (hs := [HV.int .i64 4]) (q := HV.int .i64 4) (.inr rfl) (resT rfl rfl) rfl trivial
  · have hc := of_decide_eq_false hc
    have h := ifF hc h
    refine AW.skip ?_
    refine AW.seq ?_
    refine AW.rgs rfl fun K hK => ?_
    refine mv rfl rfl ?_
    refine b_nil (hK _ (AW.to (to_le (s' := ⟨[(0, slE eStr p0), (3, HV.int .i64 0)], []⟩) (AS.le_of ⟨rfl, rfl, trivial⟩ trivial) ?_)))
    clear hK K
    refine AW.lpR h (by first | exact up_then | exact up_to) (S := Int) (V := Unit) (fun a v => ⟨[(0, slE eStr p0), (3, HV.int .i64 a)], []⟩) ?_ (X := Unit) (W := Unit) (fun a v => ⟨[], []⟩) (fun a9 w10 h => ?_) (fun a1 w2 st3 h hr4=> ?_)
    · exact to_le (s' := ⟨[(0, slE eStr p0), (3, HV.int .i64 0)], []⟩) (AS.le_of ⟨rfl, rfl, trivial⟩ trivial) ⟨(), rfl⟩
    · refine AW.rgs rfl fun K hK => ?_
      refine mv rfl rfl ?_
      refine b_nil (hK _ (AW.to (to_le (s' := ⟨[(2, HV.int .i64 0)], []⟩) (AS.le_of ⟨rfl, trivial⟩ trivial) ?_)))
      clear hK K
      refine AW.ret ?_
      have h := Option.some.inj h
      subst h
      exact ret_pure (hs := [HV.int .i64 0]) (q := HV.int .i64 0) (.inr rfl) (resT rfl rfl) rfl trivial
    · refine AW.seq ?_
      refine AW.rgs rfl fun K hK => ?_
      refine mv rfl rfl ?_
      refine mv rfl rfl ?_
      refine bv rfl (v_lenF rfl rfl ty30 rfl) ?_
      refine bv rfl (v_bin rfl rfl b_lss) ?_
      refine b_nil (hK _ (AW.to (to_le (s' := ⟨[(0, slE eStr p0), (3, HV.int .i64 a1), (10, HV.bool (decide (a1 < ((p0).length : Int))))], []⟩) (AS.le_of ⟨rfl, rfl, rfl, trivial⟩ trivial) ?_)))
      clear hK K
      refine AW.cond rfl (fun hc => ?_) (fun hc => ?_)
      · have hc := of_decide_eq_true hc
        have h := ifT hc h
        refine AW.skip ?_
        refine AW.seq (AW.block ?_)
        refine AW.dgs 10 follows rfl rfl fun K hK => ?_
        refine sm rfl rfl ?_
        refine sm rfl rfl ?_
        obtain ⟨x5, h6, h⟩ := bS h
        refine sv rfl (v_idxF ty30 es30 rfl rfl (idx_lt h6)) ?_
        refine sv rfl (v_loadF ty9 rfl (l_cell eStr h6 (o := 0) rfl rfl)) ?_
        refine sv rfl (v_lenS rfl rfl ty9 rfl) ?_
        refine sm rfl rfl ?_
        obtain ⟨x7, h8, h⟩ := bS h
        refine sv rfl (v_idxF ty30 es30 rfl rfl (idx_lt h8)) ?_
        refine sv rfl (v_loadF ty9 rfl (l_cell eStr h8 (o := 0) rfl rfl)) ?_
        refine sv rfl (v_lenS rfl rfl ty9 rfl) ?_
        refine sv rfl (v_bin rfl rfl b_neq) ?_
        refine s_nil ?_
        refine b_nil (hK _ (AW.to (to_le (s' := ⟨[(0, slE eStr p0), (3, HV.int .i64 a1), (22, HV.bool (decide (((x5).length : Int) ≠ ((x7).length : Int))))], []⟩) (AS.le_of ⟨rfl, rfl, rfl, trivial⟩ trivial) ?_)))
        clear hK K
        refine AW.cond rfl (fun hc => ?_) (fun hc => ?_)
        · have hc := of_decide_eq_true hc
          have h := ifT hc h
          refine AW.rgs rfl fun K hK => ?_
          refine mv rfl rfl ?_
          refine b_nil (hK _ (AW.to (to_le (s' := ⟨[(2, HV.int .i64 11)], []⟩) (AS.le_of ⟨rfl, trivial⟩ trivial) ?_)))
          clear hK K
          have h := hr4 _ h
          refine AW.ret ?_
          have h := Option.some.inj h
          subst h
          exact ret_pure (hs := [HV.int .i64 11]) (q := HV.int .i64 11) (.inr rfl) (resT rfl rfl) rfl trivial
        · have hc := of_decide_eq_false hc
          have h := ifF hc h
          refine AW.skip ?_
          refine AW.rg rfl fun K hK => ?_
          refine mv rfl rfl ?_
          refine bv rfl (v_bin rfl rfl b_add) ?_
          refine mv rfl rfl ?_
          refine b_nil (hK _ ?_)
          clear hK K
          exact to_le (s' := ⟨[(0, slE eStr p0), (3, HV.int .i64 (IntKind.wrap .i64 (a1 + 1)))], []⟩) (AS.le_of ⟨rfl, rfl, trivial⟩ trivial) ⟨IntKind.wrap .i64 (a1 + 1), (), h, rfl⟩
      · have hc := of_decide_eq_false hc
        have h := ifF hc h
        refine AW.exit ?_
        exact to_le (s' := ⟨[], []⟩) (AS.le_of trivial trivial) ⟨(), (), h, rfl⟩

/-- groove/grooveref46.Least -/
noncomputable def m_ref46_Least (p0 : List (List UInt8)) : Option (Int × Int) :=
  (m_ref46_checkList p0).bind fun x1 =>
  if x1 ≠ 0 then
    some (0, x1)
  else
    if ((p0).length : Int) < 2 then
      some (0, 5)
    else
      (idx p0 0).bind fun x3 =>
      (loopW (S := Int × Int) (X := Int) (fun a5 =>
          if a5.2 < ((p0).length : Int) then
            (loopW (S := Int × Int) (X := Int × Int) (fun a9 =>
                if a9.2 < a5.2 then
                  (idx p0 a5.2).bind fun x13 =>
                  (idx p0 a9.2).bind fun x15 =>
                  (m_ref46_hamming x13 x15).bind fun x17 =>
                  some (Stp.next (min a9.1 x17, IntKind.wrap .i64 (a9.2 + 1)))
                else
                  some (Stp.exit (a9.1, a5.2))) (a5.1, 0)).bind fun a19 =>
            some (Stp.next (a19.1, IntKind.wrap .i64 (a19.2 + 1)))
          else
            some (Stp.exit a5.1)) (((x3).length : Int), 0)).bind fun a21 =>
      some (a21, 0)

set_option maxHeartbeats 8000000 in
set_option maxRecDepth 100000 in
theorem w_ref46_Least {p0 : List (List UInt8)} {r : Int × Int} (h : m_ref46_Least p0 = some r) : Pure Try.prog 27 [slE eStr p0] (· = HV.tup [HV.int .i64 r.1, HV.int .i64 r.2]) := by
  unfold m_ref46_Least at h
  refine Pure.of_body Try.func27 rfl rfl (Nat.le_of_ble_eq_true rfl) fun hf => ?_
  unfold Try.f27
  dsimp only [enumS, Nat.reduceAdd]
  refine AW.rgs rfl fun K hK => ?_
  refine mv rfl rfl ?_
  refine mv rfl rfl ?_
  refine b_nil (hK _ (AW.to (to_le (s' := ⟨[(0, slE eStr p0)], []⟩) (AS.le_of ⟨rfl, trivial⟩ trivial) ?_)))
  clear hK K
  refine AW.seq ?_
  refine AW.rgs rfl fun K hK => ?_
  refine mv rfl rfl ?_
  obtain ⟨x1, h2, h⟩ := bS h
  refine b_op rfl (o_call rfl rfl rfl rfl (ACallD.pure0 (w_ref46_checkList h2)) ?_)
  refine mv rfl rfl ?_
  refine b_nil (hK _ (AW.to (to_le (s' := ⟨[(0, slE eStr p0), (4, HV.int .i64 x1)], []⟩) (AS.le_of ⟨rfl, rfl, trivial⟩ trivial) ?_)))
  clear hK K
  refine AW.rgs rfl fun K hK => ?_
  refine mv rfl rfl ?_
  refine bv rfl (v_bin rfl rfl b_neq) ?_
  refine b_nil (hK _ (AW.to (to_le (s' := ⟨[(0, slE eStr p0), (4, HV.int .i64 x1), (11, HV.bool (decide (x1 ≠ 0)))], []⟩) (AS.le_of ⟨rfl, rfl, rfl, trivial⟩ trivial) ?_)))
  clear hK K
  refine AW.cond rfl (fun hc => ?_) (fun hc => ?_)
  · have hc := of_decide_eq_true hc
    have h := ifT hc h
    refine AW.rgs rfl fun K hK => ?_
    refine mv rfl rfl ?_
    refine mv rfl rfl ?_
    refine mv rfl rfl ?_
    refine b_nil (hK _ (AW.to (to_le (s' := ⟨[(2, HV.int .i64 0), (3, HV.int .i64 x1)], []⟩) (AS.le_of ⟨rfl, rfl, trivial⟩ trivial) ?_)))
    clear hK K
    refine AW.ret ?_
    have h := Option.some.inj h
    subst h
    exact ret_pure (hs := [HV.int .i64 0, HV.int .i64 x1]) (q := HV.tup [HV.int .i64 0, HV.int .i64 x1]) (.inr rfl) (resT rfl (resT rfl rfl)) rfl ⟨trivial, trivial, trivial⟩
  · have hc := of_decide_eq_false hc
    have h := ifF hc h
    refine AW.skip ?_
    refine AW.seq ?_
    refine AW.rgs rfl fun K hK => ?_
    refine mv rfl rfl ?_
    refine bv rfl (v_lenF rfl rfl ty30 rfl) ?_
    refine bv rfl (v_bin rfl rfl b_lss) ?_
    refine b_nil (hK _ (AW.to (to_le (s' := ⟨[(0, slE eStr p0), (15, HV.bool (decide (((p0).length : Int) < 2)))], []⟩) (AS.le_of ⟨rfl, rfl, trivial⟩ trivial) ?_)))
    clear hK K
    refine AW.cond rfl (fun hc => ?_) (fun hc => ?_)
    · have hc := of_decide_eq_true hc
      have h := ifT hc h
      refine AW.rgs rfl fun K hK => ?_
      refine mv rfl rfl ?_
      refine mv rfl rfl ?_
      refine b_nil (hK _ (AW.to (to_le (s' := ⟨[(2, HV.int .i64 0), (3, HV.int .i64 5)], []⟩) (AS.le_of ⟨rfl, rfl, trivial⟩ trivial) ?_)))
      clear hK K
      refine AW.ret ?_
      have h := Option.some.inj h
      subst h
      exact ret_pure (hs := [HV.int .i64 0, HV.int .i64 5]) (q := HV.tup [HV.int .i64 0, HV.int .i64 5]) (.inr rfl) (resT rfl (resT rfl rfl)) rfl ⟨trivial, trivial, trivial⟩
    · have hc := of_decide_eq_false hc
      have h := ifF hc h
      refine AW.skip ?_
      refine AW.rgs rfl fun K hK => ?_
      refine mv rfl rfl ?_
      obtain ⟨x3, h4, h⟩ := bS h
      refine bv rfl (v_idxF ty30 es30 rfl rfl (idx_lt h4)) ?_
      refine bv rfl (v_loadF ty9 rfl (l_cell eStr h4 (o := 0) rfl rfl)) ?_
      refine bv rfl (v_lenS rfl rfl ty9 rfl) ?_
      refine mv rfl rfl ?_
      refine b_nil (hK _ (AW.to (to_le (s' := ⟨[(0, slE eStr p0), (5, HV.int .i64 ((x3).length : Int))], []⟩) (AS.le_of ⟨rfl, rfl, trivial⟩ trivial) ?_)))
      clear hK K
      refine AW.seq ?_
      refine AW.rgs rfl fun K hK => ?_
      refine mv rfl rfl ?_
      refine b_nil (hK _ (AW.to (to_le (s' := ⟨[(0, slE eStr p0), (5, HV.int .i64 ((x3).length : Int)), (6, HV.int .i64 0)], []⟩) (AS.le_of ⟨rfl, rfl, rfl, trivial⟩ trivial) ?_)))
      clear hK K
      refine AW.lpX h (by first | exact up_then | exact up_to) (S := Int × Int) (V := Unit) (fun a v => ⟨[(0, slE eStr p0), (5, HV.int .i64 a.1), (6, HV.int .i64 a.2)], []⟩) ?_ (X := Int) (W := Unit) (fun a v => ⟨[(5, HV.int .i64 a)], []⟩) (fun a21 w22 h => ?_) (fun a5 w6 st7 h => ?_)
      · exact to_le (s' := ⟨[(0, slE eStr p0), (5, HV.int .i64 ((x3).length : Int)), (6, HV.int .i64 0)], []⟩) (AS.le_of ⟨rfl, rfl, rfl, trivial⟩ trivial) ⟨(), rfl⟩
      · refine AW.rgs rfl fun K hK => ?_
        refine mv rfl rfl ?_
        refine mv rfl rfl ?_
        refine mv rfl rfl ?_
        refine b_nil (hK _ (AW.to (to_le (s' := ⟨[(2, HV.int .i64 a21), (3, HV.int .i64 0)], []⟩) (AS.le_of ⟨rfl, rfl, trivial⟩ trivial) ?_)))
        clear hK K
        refine AW.ret ?_
        have h := Option.some.inj h
        subst h
        exact ret_pure (hs := [HV.int .i64 a21, HV.int .i64 0]) (q := HV.tup [HV.int .i64 a21, HV.int .i64 0]) (.inr rfl) (resT rfl (resT rfl rfl)) rfl ⟨trivial, trivial, trivial⟩
      · refine AW.seq ?_
        refine AW.rgs rfl fun K hK => ?_
        refine mv rfl rfl ?_
        refine mv rfl rfl ?_
        refine bv rfl (v_lenF rfl rfl ty30 rfl) ?_
        refine bv rfl (v_bin rfl rfl b_lss) ?_
        refine b_nil (hK _ (AW.to (to_le (s' := ⟨[(0, slE eStr p0), (5, HV.int .i64 a5.1), (6, HV.int .i64 a5.2), (23, HV.bool (decide (a5.2 < ((p0).length : Int))))], []⟩) (AS.le_of ⟨rfl, rfl, rfl, rfl, trivial⟩ trivial) ?_)))
        clear hK K
        refine AW.cond rfl (fun hc => ?_) (fun hc => ?_)
        · have hc := of_decide_eq_true hc
          have h := ifT hc h
          refine AW.skip ?_
          refine AW.seq (AW.block ?_)
          refine AW.rgs rfl fun K hK => ?_
          refine mv rfl rfl ?_
          refine b_nil (hK _ (AW.to (to_le (s' := ⟨[(0, slE eStr p0), (5, HV.int .i64 a5.1), (6, HV.int .i64 a5.2), (7, HV.int .i64 0)], []⟩) (AS.le_of ⟨rfl, rfl, rfl, rfl, trivial⟩ trivial) ?_)))
          clear hK K
          refine AW.lpX h (by first | exact up_then | exact up_to) (S := Int × Int) (V := Unit) (fun a v => ⟨[(0, slE eStr p0), (5, HV.int .i64 a.1), (6, HV.int .i64 a5.2), (7, HV.int .i64 a.2)], []⟩) ?_ (X := Int × Int) (W := Unit) (fun a v => ⟨[(0, slE eStr p0), (5, HV.int .i64 a.1), (6, HV.int .i64 a.2)], []⟩) (fun a19 w20 h => ?_) (fun a9 w10 st11 h => ?_)
          · exact to_le (s' := ⟨[(0, slE eStr p0), (5, HV.int .i64 a5.1), (6, HV.int .i64 a5.2), (7, HV.int .i64 0)], []⟩) (AS.le_of ⟨rfl, rfl, rfl, rfl, trivial⟩ trivial) ⟨(), rfl⟩
          · refine AW.rg rfl fun K hK => ?_
            refine mv rfl rfl ?_
            refine bv rfl (v_bin rfl rfl b_add) ?_
            refine mv rfl rfl ?_
            refine b_nil (hK _ ?_)
            clear hK K
            exact to_le (s' := ⟨[(0, slE eStr p0), (5, HV.int .i64 a19.1), (6, HV.int .i64 (IntKind.wrap .i64 (a19.2 + 1)))], []⟩) (AS.le_of ⟨rfl, rfl, rfl, trivial⟩ trivial) ⟨(a19.1, IntKind.wrap .i64 (a19.2 + 1)), (), h, rfl⟩
          · refine AW.seq ?_
            refine AW.rgs rfl fun K hK => ?_
            refine mv rfl rfl ?_
            refine mv rfl rfl ?_
            refine bv rfl (v_bin rfl rfl b_lss) ?_
            refine b_nil (hK _ (AW.to (to_le (s' := ⟨[(0, slE eStr p0), (5, HV.int .i64 a9.1), (6, HV.int .i64 a5.2), (7, HV.int .i64 a9.2), (28, HV.bool (decide (a9.2 < a5.2)))], []⟩) (AS.le_of ⟨rfl, rfl, rfl, rfl, rfl, trivial⟩ trivial) ?_)))
            clear hK K
            refine AW.cond rfl (fun hc => ?_) (fun hc => ?_)
            · have hc := of_decide_eq_true hc
              have h := ifT hc h
              refine AW.skip ?_
              refine AW.seq (AW.block ?_)
              refine AW.dg 12 follows rfl rfl fun K hK => ?_
              refine sm rfl rfl ?_
              refine sm rfl rfl ?_
              refine sm rfl rfl ?_
              obtain ⟨x13, h14, h⟩ := bS h
              refine sv rfl (v_idxF ty30 es30 rfl rfl (idx_lt h14)) ?_
              refine sv rfl (v_loadF ty9 rfl (l_cell eStr h14 (o := 0) rfl rfl)) ?_
              refine sm rfl rfl ?_
              refine sm rfl rfl ?_
              obtain ⟨x15, h16, h⟩ := bS h
              refine sv rfl (v_idxF ty30 es30 rfl rfl (idx_lt h16)) ?_
              refine sv rfl (v_loadF ty9 rfl (l_cell eStr h16 (o := 0) rfl rfl)) ?_
              obtain ⟨x17, h18, h⟩ := bS h
              refine s_op rfl rfl (ops_call rfl rfl rfl rfl (ACallD.pure0 (w_ref46_hamming h18)) ?_)
              refine sv rfl (v_min rfl rfl rfl) ?_
              refine sm rfl rfl ?_
              refine s_nil ?_
              refine b_nil (hK _ (AW.to (to_le (s' := ⟨[(0, slE eStr p0), (5, HV.int .i64 (min a9.1 x17)), (6, HV.int .i64 a5.2), (7, HV.int .i64 a9.2)], []⟩) (AS.le_of ⟨rfl, rfl, rfl, rfl, trivial⟩ trivial) ?_)))
              clear hK K
              refine AW.rg rfl fun K hK => ?_
              refine mv rfl rfl ?_
              refine bv rfl (v_bin rfl rfl b_add) ?_
              refine mv rfl rfl ?_
              refine b_nil (hK _ ?_)
              clear hK K
              exact to_le (s' := ⟨[(0, slE eStr p0), (5, HV.int .i64 (min a9.1 x17)), (6, HV.int .i64 a5.2), (7, HV.int .i64 (IntKind.wrap .i64 (a9.2 + 1)))], []⟩) (AS.le_of ⟨rfl, rfl, rfl, rfl, trivial⟩ trivial) ⟨(min a9.1 x17, IntKind.wrap .i64 (a9.2 + 1)), (), h, rfl⟩
            · have hc := of_decide_eq_false hc
              have h := ifF hc h
              refine AW.exit ?_
              exact to_le (s' := ⟨[(0, slE eStr p0), (5, HV.int .i64 a9.1), (6, HV.int .i64 a5.2)], []⟩) (AS.le_of ⟨rfl, rfl, rfl, trivial⟩ trivial) ⟨(a9.1, a5.2), (), h, rfl⟩
        · have hc := of_decide_eq_false hc
          have h := ifF hc h
          refine AW.exit ?_
          exact to_le (s' := ⟨[(5, HV.int .i64 a5.1)], []⟩) (AS.le_of ⟨rfl, trivial⟩ trivial) ⟨a5.1, (), h, rfl⟩

/-- groove/distance.Spectrum -/
noncomputable def m_distance_Spectrum (p0 : List (List UInt8)) : Option ((List (Int)) × Int) :=
  (m_distance_listed p0).bind fun x1 =>
  if x1 ≠ 0 then
    some ([], x1)
  else
    if ((p0).length : Int) = 0 then
      some ([], 5)
    else
      (idx p0 0).bind fun x3 =>
      if 0 ≤ (IntKind.wrap .i64 (((x3).length : Int) + 1) : Int) ∧ (IntKind.wrap .i64 (((x3).length : Int) + 1) : Int) ≤ IntKind.wrap .i64 (((x3).length : Int) + 1) ∧ (IntKind.wrap .i64 (((x3).length : Int) + 1) : Int) * 8 ≤ 281474976710656 then
        (y_distance_pairs p0).bind fun L8 =>
        lpO (forL (S := (List Int)) (X := Unit) (fun a10 (x12 : Int) =>
            (idx a10 x12).bind fun x16 =>
            (idx a10 x12).bind fun x18 =>
            (idx a10 x12).bind fun x20 =>
            some (Stp.next ((a10).set (x12).toNat (IntKind.wrap .i64 (x18 + 1))))) L8 (List.replicate (IntKind.wrap .i64 (((x3).length : Int) + 1)).toNat 0)) (fun a22 =>
            some (a22, 0)) fun a24 =>
            none
      else none

set_option maxHeartbeats 8000000 in
set_option maxRecDepth 100000 in
theorem w_distance_Spectrum {p0 : List (List UInt8)} {r : (List (Int)) × Int} (h : m_distance_Spectrum p0 = some r) : Pure Try.prog 28 [slE eStr p0] (· = HV.tup [slE eInt r.1, HV.int .i64 r.2]) := by
  unfold m_distance_Spectrum at h
  refine Pure.of_body Try.func28 rfl rfl (Nat.le_of_ble_eq_true rfl) fun hf => ?_
  unfold Try.f28
  dsimp only [enumS, Nat.reduceAdd]
  refine AW.rgs rfl fun K hK => ?_
  refine mv rfl rfl ?_
  refine mv rfl rfl ?_
  refine b_nil (hK _ (AW.to (to_le (s' := ⟨[(0, slE eStr p0)], []⟩) (AS.le_of ⟨rfl, trivial⟩ trivial) ?_)))
  clear hK K
  refine AW.seq ?_
  refine AW.rgs rfl fun K hK => ?_
  refine mv rfl rfl ?_
  obtain ⟨x1, h2, h⟩ := bS h
  refine b_op rfl (o_call rfl rfl rfl rfl (ACallD.pure0 (w_distance_listed h2)) ?_)
  refine mv rfl rfl ?_
  refine b_nil (hK _ (AW.to (to_le (s' := ⟨[(0, slE eStr p0), (4, HV.int .i64 x1)], []⟩) (AS.le_of ⟨rfl, rfl, trivial⟩ trivial) ?_)))
  clear hK K
  refine AW.rgs rfl fun K hK => ?_
  refine mv rfl rfl ?_
  refine bv rfl (v_bin rfl rfl b_neq) ?_
  refine b_nil (hK _ (AW.to (to_le (s' := ⟨[(0, slE eStr p0), (4, HV.int .i64 x1), (10, HV.bool (decide (x1 ≠ 0)))], []⟩) (AS.le_of ⟨rfl, rfl, rfl, trivial⟩ trivial) ?_)))
  clear hK K
  refine AW.cond rfl (fun hc => ?_) (fun hc => ?_)
  · have hc := of_decide_eq_true hc
    have h := ifT hc h
    refine AW.rgs rfl fun K hK => ?_
    refine mv rfl rfl ?_
    refine mv rfl rfl ?_
    refine mv rfl rfl ?_
    refine b_nil (hK _ (AW.to (to_le (s' := ⟨[(2, HV.v (.slice none 0 0)), (3, HV.int .i64 x1)], []⟩) (AS.le_of ⟨rfl, rfl, trivial⟩ trivial) ?_)))
    clear hK K
    refine AW.to (to_weak ⟨[(2, slE eInt ([] : List Int)), (3, HV.int .i64 x1)], []⟩ ⟨⟨_, rfl, .nil _⟩, ⟨_, rfl, .refl _⟩, trivial⟩ trivial ?_)
    refine AW.ret ?_
    have h := Option.some.inj h
    subst h
    exact ret_pure (hs := [slE eInt ([] : List Int), HV.int .i64 x1]) (q := HV.tup [slE eInt ([] : List Int), HV.int .i64 x1]) (.inr rfl) (resT rfl (resT rfl rfl)) rfl ⟨(clean_slE fun _ _ => ⟨trivial, trivial⟩), trivial, trivial⟩
  · have hc := of_decide_eq_false hc
    have h := ifF hc h
    refine AW.skip ?_
    refine AW.seq ?_
    refine AW.rgs rfl fun K hK => ?_
    refine mv rfl rfl ?_
    refine bv rfl (v_lenF rfl rfl ty30 rfl) ?_
    refine bv rfl (v_bin rfl rfl b_eql) ?_
    refine b_nil (hK _ (AW.to (to_le (s' := ⟨[(0, slE eStr p0), (14, HV.bool (decide (((p0).length : Int) = 0)))], []⟩) (AS.le_of ⟨rfl, rfl, trivial⟩ trivial) ?_)))
    clear hK K
    refine AW.cond rfl (fun hc => ?_) (fun hc => ?_)
    · have hc := of_decide_eq_true hc
      have h := ifT hc h
      refine AW.rgs rfl fun K hK => ?_
      refine mv rfl rfl ?_
      refine mv rfl rfl ?_
      refine b_nil (hK _ (AW.to (to_le (s' := ⟨[(2, HV.v (.slice none 0 0)), (3, HV.int .i64 5)], []⟩) (AS.le_of ⟨rfl, rfl, trivial⟩ trivial) ?_)))
      clear hK K
      refine AW.to (to_weak ⟨[(2, slE eInt ([] : List Int)), (3, HV.int .i64 5)], []⟩ ⟨⟨_, rfl, .nil _⟩, ⟨_, rfl, .refl _⟩, trivial⟩ trivial ?_)
      refine AW.ret ?_
      have h := Option.some.inj h
      subst h
      exact ret_pure (hs := [slE eInt ([] : List Int), HV.int .i64 5]) (q := HV.tup [slE eInt ([] : List Int), HV.int .i64 5]) (.inr rfl) (resT rfl (resT rfl rfl)) rfl ⟨(clean_slE fun _ _ => ⟨trivial, trivial⟩), trivial, trivial⟩
    · have hc := of_decide_eq_false hc
      have h := ifF hc h
      refine AW.skip ?_
      refine AW.rgs rfl fun K hK => ?_
      refine mv rfl rfl ?_
      obtain ⟨x3, h4, h⟩ := bS h
      refine bv rfl (v_idxF ty30 es30 rfl rfl (idx_lt h4)) ?_
      refine bv rfl (v_loadF ty9 rfl (l_cell eStr h4 (o := 0) rfl rfl)) ?_
      refine bv rfl (v_lenS rfl rfl ty9 rfl) ?_
      refine bv rfl (v_bin rfl rfl b_add) ?_
      obtain ⟨h6, h⟩ := ifN h
      refine b_op rfl (o_makeE (fid := 28) eInt 0 28020 rfl rfl ty42 rfl rfl ty3 rfl rfl h6 (fun v5 => ?_))
      refine b_op rfl (o_alloc (fid := 28) (zs := [HV.v (.slice none 0 0)]) 28005 rfl rfl ty42 rfl (fun v7 => ?_))
      refine b_op rfl (o_store (cs := [HV.ar 28020 v5 eInt.k 0 ((List.replicate (IntKind.wrap .i64 (((x3).length : Int) + 1)).toNat 0).length)]) (zs := [HV.ar 28020 v5 eInt.k 0 ((List.replicate (IntKind.wrap .i64 (((x3).length : Int) + 1)).toNat 0).length)]) rfl rfl rfl ty42 rfl rfl rfl rfl rfl ?_)
      refine b_nil (hK _ (AW.to (to_le (s' := ⟨[(0, slE eStr p0), (5, HV.ptr 28005 v7 0)], [(28020, v5, .arr eInt.k 3 (eInt.E (List.replicate (IntKind.wrap .i64 (((x3).length : Int) + 1)).toNat 0))), (28005, v7, .arr 1 42 [HV.ar 28020 v5 eInt.k 0 ((List.replicate (IntKind.wrap .i64 (((x3).length : Int) + 1)).toNat 0).length)])]⟩) (AS.le_of ⟨rfl, rfl, trivial⟩ ⟨rfl, rfl, trivial⟩) ?_)))
      clear hK K
      refine AW.seq ?_
      refine AW.rgs rfl fun K hK => ?_
      refine mv rfl rfl ?_
      refine b_op rfl (o_call rfl rfl rfl rfl (ACallD.pure0 (w_distance_pairs p0)) ?_)
      refine b_nil (hK _ (AW.to (to_le (s' := ⟨[(5, HV.ptr 28005 v7 0), (22, HV.fn (.func 123) [] [HV.fptr [slE eStr p0] 0])], [(28020, v5, .arr eInt.k 3 (eInt.E (List.replicate (IntKind.wrap .i64 (((x3).length : Int) + 1)).toNat 0))), (28005, v7, .arr 1 42 [HV.ar 28020 v5 eInt.k 0 ((List.replicate (IntKind.wrap .i64 (((x3).length : Int) + 1)).toNat 0).length)])]⟩) (AS.le_of ⟨rfl, rfl, trivial⟩ ⟨rfl, rfl, trivial⟩) ?_)))
      clear hK K
      refine AW.block ?_
      refine AW.to (to_le (s' := ⟨[(5, HV.ptr 28005 v7 0), (22, HV.fn (.func 123) [] [HV.fptr [slE eStr p0] 0])], [(28020, v5, .arr eInt.k 3 (eInt.E (List.replicate (IntKind.wrap .i64 (((x3).length : Int) + 1)).toNat 0))), (28005, v7, .arr 1 42 [HV.ar 28020 v5 eInt.k 0 ((List.replicate (IntKind.wrap .i64 (((x3).length : Int) + 1)).toNat 0).length)])]⟩) (AS.le_of ⟨rfl, rfl, trivial⟩ ⟨rfl, rfl, trivial⟩) ?_)
      obtain ⟨L8, h9, h⟩ := bS h
      refine AW.rangeY (c := .ret) 28901 (fun x => [HV.int .i64 x]) h (by first | exact up_then | exact up_to) rfl (iy_distance_pairs h9) (S := (List Int)) (V := Unit) (fun a v => [(28020, v5, .arr eInt.k 3 (eInt.E a)), (28005, v7, .arr 1 42 [HV.ar 28020 v5 eInt.k 0 ((a).length)])]) () (X := Unit) (W := Unit) (fun _ _ => []) (fun _ _ => rfl) (fun _ _ => rfl) rfl (fun _ => rfl) (fun a22 w23 h => ?_) (fun a24 w25 h => ?_) (fun Lo l15 v13 a10 x12 w11 st14 h => ?_)
      · refine AW.rgs rfl fun K hK => ?_
        refine bv rfl (v_loadP ty42 rfl rfl (l_lit rfl rfl)) ?_
        refine mv rfl rfl ?_
        refine mv rfl rfl ?_
        refine b_nil (hK _ (AW.to (to_le (s' := ⟨[(2, HV.ar 28020 v5 eInt.k 0 ((a22).length)), (3, HV.int .i64 0)], [(28020, v5, .arr eInt.k 3 (eInt.E a22))]⟩) (AS.le_of ⟨rfl, rfl, trivial⟩ ⟨rfl, trivial⟩) ?_)))
        clear hK K
        refine AW.to (to_frz 2 [(28020, v5, .arr eInt.k 3 (eInt.E a22))] ⟨[(2, slE eInt a22), (3, HV.int .i64 0)], []⟩ ⟨⟨_, rfl, frz_slE eInt (l := a22) rfl fun _ _ => rfl⟩, ⟨_, rfl, rfl⟩, trivial⟩ trivial ⟨rfl, trivial⟩ ⟨rfl, trivial⟩ ?_)
        refine AW.ret ?_
        have h := Option.some.inj h
        subst h
        exact ret_pure (hs := [slE eInt a22, HV.int .i64 0]) (q := HV.tup [slE eInt a22, HV.int .i64 0]) (.inr rfl) (resT rfl (resT rfl rfl)) rfl ⟨(clean_slE fun _ _ => ⟨trivial, trivial⟩), trivial, trivial⟩
      · cases h
      · refine AW.rg rfl fun K hK => ?_
        refine mv rfl rfl ?_
        refine b_nil (hK _ ?_)
        clear hK K
        refine ⟨rfl, rfl, ?_⟩
        refine AW.block ?_
        refine AW.rg rfl fun K hK => ?_
        refine bv rfl (v_loadP ty42 rfl rfl (l_lit rfl rfl)) ?_
        refine mv rfl rfl ?_
        obtain ⟨x16, h17, h⟩ := bS h
        refine bv rfl (v_idxA ty42 es42 rfl rfl (idx_lt h17) rfl) ?_
        obtain ⟨x18, h19, h⟩ := bS h
        refine bv rfl (v_loadP ty3 rfl rfl (l_cell eInt h19 (o := 0) rfl rfl)) ?_
        refine bv rfl (v_bin rfl rfl b_add) ?_
        obtain ⟨x20, h21, h⟩ := bS h
        refine bv rfl (v_idxA ty42 es42 rfl rfl (idx_lt h21) rfl) ?_
        refine b_op rfl (o_storeE eInt (l := a10) (j := x12) (v := IntKind.wrap .i64 (x18 + 1)) rfl rfl rfl ty3 rfl rfl rfl (idx_lt h21) ?_)
        refine b_nil (hK _ ?_)
        clear hK K
        exact ⟨(a10).set (x12).toNat (IntKind.wrap .i64 (x18 + 1)), (), h, (AS.le_of trivial ⟨rfl, rfl, hle rfl (by simp only [List.length_set]), trivial⟩)⟩

/-- groove/grooveref46.Spectrum -/
noncomputable def m_ref46_Spectrum (p0 : List (List UInt8)) : Option ((List (Int)) × Int) :=
  (m_ref46_checkList p0).bind fun x1 =>
  if x1 ≠ 0 then
    some ([], x1)
  else
    if ((p0).length : Int) = 0 then
      some ([], 5)
    else
      (idx p0 0).bind fun x5 =>
      if 0 ≤ (IntKind.wrap .i64 (((x5).length : Int) + 1) : Int) ∧ (IntKind.wrap .i64 (((x5).length : Int) + 1) : Int) ≤ IntKind.wrap .i64 (((x5).length : Int) + 1) ∧ (IntKind.wrap .i64 (((x5).length : Int) + 1) : Int) * 8 ≤ 281474976710656 then
        (loopW (S := Int × (List Int)) (X := (List Int)) (fun a9 =>
            if a9.1 < ((p0).length : Int) then
              (loopW (S := Int × (List Int)) (X := (List Int) × Int) (fun a13 =>
                  if a13.1 < a9.1 then
                    (idx p0 a9.1).bind fun x17 =>
                    (idx p0 a13.1).bind fun x19 =>
                    (m_ref46_hamming x17 x19).bind fun x21 =>
                    (idx a13.2 x21).bind fun x23 =>
                    (idx a13.2 x21).bind fun x25 =>
                    (idx a13.2 x21).bind fun x27 =>
                    some (Stp.next (IntKind.wrap .i64 (a13.1 + 1), (a13.2).set (x21).toNat (IntKind.wrap .i64 (x25 + 1))))
                  else
                    some (Stp.exit (a13.2, a9.1))) (0, a9.2)).bind fun a29 =>
              some (Stp.next (IntKind.wrap .i64 (a29.2 + 1), a29.1))
            else
              some (Stp.exit a9.2)) (0, List.replicate (IntKind.wrap .i64 (((x5).length : Int) + 1)).toNat 0)).bind fun a31 =>
        some (a31, 0)
      else none

set_option maxHeartbeats 8000000 in
set_option maxRecDepth 100000 in
theorem w_ref46_Spectrum {p0 : List (List UInt8)} {r : (List (Int)) × Int} (h : m_ref46_Spectrum p0 = some r) : Pure Try.prog 29 [slE eStr p0] (· = HV.tup [slE eInt r.1, HV.int .i64 r.2]) := by
  unfold m_ref46_Spectrum at h
  refine Pure.of_body Try.func29 rfl rfl (Nat.le_of_ble_eq_true rfl) fun hf => ?_
  unfold Try.f29
  dsimp only [enumS, Nat.reduceAdd]
  refine AW.rgs rfl fun K hK => ?_
  refine mv rfl rfl ?_
  refine mv rfl rfl ?_
  refine b_nil (hK _ (AW.to (to_le (s' := ⟨[(0, slE eStr p0)], []⟩) (AS.le_of ⟨rfl, trivial⟩ trivial) ?_)))
  clear hK K
  refine AW.seq ?_
  refine AW.rgs rfl fun K hK => ?_
  refine mv rfl rfl ?_
  obtain ⟨x1, h2, h⟩ := bS h
  refine b_op rfl (o_call rfl rfl rfl rfl (ACallD.pure0 (w_ref46_checkList h2)) ?_)
  refine mv rfl rfl ?_
  refine b_nil (hK _ (AW.to (to_le (s' := ⟨[(0, slE eStr p0), (4, HV.int .i64 x1)], []⟩) (AS.le_of ⟨rfl, rfl, trivial⟩ trivial) ?_)))
  clear hK K
  refine AW.rgs rfl fun K hK => ?_
  refine mv rfl rfl ?_
  refine bv rfl (v_bin rfl rfl b_neq) ?_
  refine b_nil (hK _ (AW.to (to_le (s' := ⟨[(0, slE eStr p0), (4, HV.int .i64 x1), (12, HV.bool (decide (x1 ≠ 0)))], []⟩) (AS.le_of ⟨rfl, rfl, rfl, trivial⟩ trivial) ?_)))
  clear hK K
  refine AW.cond rfl (fun hc => ?_) (fun hc => ?_)
  · have hc := of_decide_eq_true hc
    have h := ifT hc h
    refine AW.rgs rfl fun K hK => ?_
    refine b_op rfl (o_bslM (fid := 29) 29013 rfl rfl rfl (as_of (cs := []) ty42 ty3 rfl rfl rfl rfl rfl) (fun v3 => ?_))
    refine mv rfl rfl ?_
    refine mv rfl rfl ?_
    refine mv rfl rfl ?_
    refine b_nil (hK _ (AW.to (to_le (s' := ⟨[(2, HV.ar 29013 v3 eInt.k 0 0), (3, HV.int .i64 x1)], [(29013, v3, .arr eInt.k 3 [])]⟩) (AS.le_of ⟨rfl, rfl, trivial⟩ ⟨rfl, trivial⟩) ?_)))
    clear hK K
    refine AW.to (to_frz 2 [(29013, v3, .arr eInt.k 3 [])] ⟨[(2, slE eInt []), (3, HV.int .i64 x1)], []⟩ ⟨⟨_, rfl, frz_slE eInt (l := []) rfl fun _ _ => rfl⟩, ⟨_, rfl, rfl⟩, trivial⟩ trivial ⟨rfl, trivial⟩ ⟨rfl, trivial⟩ ?_)
    refine AW.ret ?_
    have h := Option.some.inj h
    subst h
    exact ret_pure (hs := [slE eInt [], HV.int .i64 x1]) (q := HV.tup [slE eInt [], HV.int .i64 x1]) (.inr rfl) (resT rfl (resT rfl rfl)) rfl ⟨(clean_slE fun _ _ => ⟨trivial, trivial⟩), trivial, trivial⟩
  · have hc := of_decide_eq_false hc
    have h := ifF hc h
    refine AW.skip ?_
    refine AW.seq ?_
    refine AW.rgs rfl fun K hK => ?_
    refine mv rfl rfl ?_
    refine bv rfl (v_lenF rfl rfl ty30 rfl) ?_
    refine bv rfl (v_bin rfl rfl b_eql) ?_
    refine b_nil (hK _ (AW.to (to_le (s' := ⟨[(0, slE eStr p0), (17, HV.bool (decide (((p0).length : Int) = 0)))], []⟩) (AS.le_of ⟨rfl, rfl, trivial⟩ trivial) ?_)))
    clear hK K
    refine AW.cond rfl (fun hc => ?_) (fun hc => ?_)
    · have hc := of_decide_eq_true hc
      have h := ifT hc h
      refine AW.rgs rfl fun K hK => ?_
      refine b_op rfl (o_bslM (fid := 29) 29018 rfl rfl rfl (as_of (cs := []) ty42 ty3 rfl rfl rfl rfl rfl) (fun v4 => ?_))
      refine mv rfl rfl ?_
      refine mv rfl rfl ?_
      refine b_nil (hK _ (AW.to (to_le (s' := ⟨[(2, HV.ar 29018 v4 eInt.k 0 0), (3, HV.int .i64 5)], [(29018, v4, .arr eInt.k 3 [])]⟩) (AS.le_of ⟨rfl, rfl, trivial⟩ ⟨rfl, trivial⟩) ?_)))
      clear hK K
      refine AW.to (to_frz 2 [(29018, v4, .arr eInt.k 3 [])] ⟨[(2, slE eInt []), (3, HV.int .i64 5)], []⟩ ⟨⟨_, rfl, frz_slE eInt (l := []) rfl fun _ _ => rfl⟩, ⟨_, rfl, rfl⟩, trivial⟩ trivial ⟨rfl, trivial⟩ ⟨rfl, trivial⟩ ?_)
      refine AW.ret ?_
      have h := Option.some.inj h
      subst h
      exact ret_pure (hs := [slE eInt [], HV.int .i64 5]) (q := HV.tup [slE eInt [], HV.int .i64 5]) (.inr rfl) (resT rfl (resT rfl rfl)) rfl ⟨(clean_slE fun _ _ => ⟨trivial, trivial⟩), trivial, trivial⟩
    · have hc := of_decide_eq_false hc
      have h := ifF hc h
      refine AW.skip ?_
      refine AW.rgs rfl fun K hK => ?_
      refine mv rfl rfl ?_
      obtain ⟨x5, h6, h⟩ := bS h
      refine bv rfl (v_idxF ty30 es30 rfl rfl (idx_lt h6)) ?_
      refine bv rfl (v_loadF ty9 rfl (l_cell eStr h6 (o := 0) rfl rfl)) ?_
      refine bv rfl (v_lenS rfl rfl ty9 rfl) ?_
      refine bv rfl (v_bin rfl rfl b_add) ?_
      obtain ⟨h8, h⟩ := ifN h
      refine b_op rfl (o_makeE (fid := 29) eInt 0 29024 rfl rfl ty42 rfl rfl ty3 rfl rfl h8 (fun v7 => ?_))
      refine mv rfl rfl ?_
      refine b_nil (hK _ (AW.to (to_le (s' := ⟨[(0, slE eStr p0), (5, HV.ar 29024 v7 eInt.k 0 ((List.replicate (IntKind.wrap .i64 (((x5).length : Int) + 1)).toNat 0).length))], [(29024, v7, .arr eInt.k 3 (eInt.E (List.replicate (IntKind.wrap .i64 (((x5).length : Int) + 1)).toNat 0)))]⟩) (AS.le_of ⟨rfl, rfl, trivial⟩ ⟨rfl, trivial⟩) ?_)))
      clear hK K
      refine AW.seq ?_
      refine AW.rgs rfl fun K hK => ?_
      refine mv rfl rfl ?_
      refine b_nil (hK _ (AW.to (to_le (s' := ⟨[(0, slE eStr p0), (5, HV.ar 29024 v7 eInt.k 0 ((List.replicate (IntKind.wrap .i64 (((x5).length : Int) + 1)).toNat 0).length)), (6, HV.int .i64 0)], [(29024, v7, .arr eInt.k 3 (eInt.E (List.replicate (IntKind.wrap .i64 (((x5).length : Int) + 1)).toNat 0)))]⟩) (AS.le_of ⟨rfl, rfl, rfl, trivial⟩ ⟨rfl, trivial⟩) ?_)))
      clear hK K
      refine AW.lpX h (by first | exact up_then | exact up_to) (S := Int × (List Int)) (V := Nat) (fun a v => ⟨[(0, slE eStr p0), (5, HV.ar 29024 v eInt.k 0 ((a.2).length)), (6, HV.int .i64 a.1)], [(29024, v, .arr eInt.k 3 (eInt.E a.2))]⟩) ?_ (X := (List Int)) (W := Nat) (fun a v => ⟨[(5, HV.ar 29024 v eInt.k 0 ((a).length))], [(29024, v, .arr eInt.k 3 (eInt.E a))]⟩) (fun a31 w32 h => ?_) (fun a9 w10 st11 h => ?_)
      · exact to_le (s' := ⟨[(0, slE eStr p0), (5, HV.ar 29024 v7 eInt.k 0 ((List.replicate (IntKind.wrap .i64 (((x5).length : Int) + 1)).toNat 0).length)), (6, HV.int .i64 0)], [(29024, v7, .arr eInt.k 3 (eInt.E (List.replicate (IntKind.wrap .i64 (((x5).length : Int) + 1)).toNat 0)))]⟩) (AS.le_of ⟨rfl, rfl, rfl, trivial⟩ ⟨rfl, trivial⟩) ⟨v7, rfl⟩
      · refine AW.rgs rfl fun K hK => ?_
        refine mv rfl rfl ?_
        refine mv rfl rfl ?_
        refine mv rfl rfl ?_
        refine b_nil (hK _ (AW.to (to_le (s' := ⟨[(2, HV.ar 29024 w32 eInt.k 0 ((a31).length)), (3, HV.int .i64 0)], [(29024, w32, .arr eInt.k 3 (eInt.E a31))]⟩) (AS.le_of ⟨rfl, rfl, trivial⟩ ⟨rfl, trivial⟩) ?_)))
        clear hK K
        refine AW.to (to_frz 2 [(29024, w32, .arr eInt.k 3 (eInt.E a31))] ⟨[(2, slE eInt a31), (3, HV.int .i64 0)], []⟩ ⟨⟨_, rfl, frz_slE eInt (l := a31) rfl fun _ _ => rfl⟩, ⟨_, rfl, rfl⟩, trivial⟩ trivial ⟨rfl, trivial⟩ ⟨rfl, trivial⟩ ?_)
        refine AW.ret ?_
        have h := Option.some.inj h
        subst h
        exact ret_pure (hs := [slE eInt a31, HV.int .i64 0]) (q := HV.tup [slE eInt a31, HV.int .i64 0]) (.inr rfl) (resT rfl (resT rfl rfl)) rfl ⟨(clean_slE fun _ _ => ⟨trivial, trivial⟩), trivial, trivial⟩
      · refine AW.seq ?_
        refine AW.rgs rfl fun K hK => ?_
        refine mv rfl rfl ?_
        refine mv rfl rfl ?_
        refine bv rfl (v_lenF rfl rfl ty30 rfl) ?_
        refine bv rfl (v_bin rfl rfl b_lss) ?_
        refine b_nil (hK _ (AW.to (to_le (s' := ⟨[(0, slE eStr p0), (5, HV.ar 29024 w10 eInt.k 0 ((a9.2).length)), (6, HV.int .i64 a9.1), (28, HV.bool (decide (a9.1 < ((p0).length : Int))))], [(29024, w10, .arr eInt.k 3 (eInt.E a9.2))]⟩) (AS.le_of ⟨rfl, rfl, rfl, rfl, trivial⟩ ⟨rfl, trivial⟩) ?_)))
        clear hK K
        refine AW.cond rfl (fun hc => ?_) (fun hc => ?_)
        · have hc := of_decide_eq_true hc
          have h := ifT hc h
          refine AW.skip ?_
          refine AW.seq (AW.block ?_)
          refine AW.rgs rfl fun K hK => ?_
          refine mv rfl rfl ?_
          refine b_nil (hK _ (AW.to (to_le (s' := ⟨[(0, slE eStr p0), (5, HV.ar 29024 w10 eInt.k 0 ((a9.2).length)), (6, HV.int .i64 a9.1), (7, HV.int .i64 0)], [(29024, w10, .arr eInt.k 3 (eInt.E a9.2))]⟩) (AS.le_of ⟨rfl, rfl, rfl, rfl, trivial⟩ ⟨rfl, trivial⟩) ?_)))
          clear hK K
          refine AW.lpX h (by first | exact up_then | exact up_to) (S := Int × (List Int)) (V := Unit) (fun a v => ⟨[(0, slE eStr p0), (5, HV.ar 29024 w10 eInt.k 0 ((a.2).length)), (6, HV.int .i64 a9.1), (7, HV.int .i64 a.1)], [(29024, w10, .arr eInt.k 3 (eInt.E a.2))]⟩) ?_ (X := (List Int) × Int) (W := Nat) (fun a v => ⟨[(0, slE eStr p0), (5, HV.ar 29024 v eInt.k 0 ((a.1).length)), (6, HV.int .i64 a.2)], [(29024, v, .arr eInt.k 3 (eInt.E a.1))]⟩) (fun a29 w30 h => ?_) (fun a13 w14 st15 h => ?_)
          · exact to_le (s' := ⟨[(0, slE eStr p0), (5, HV.ar 29024 w10 eInt.k 0 ((a9.2).length)), (6, HV.int .i64 a9.1), (7, HV.int .i64 0)], [(29024, w10, .arr eInt.k 3 (eInt.E a9.2))]⟩) (AS.le_of ⟨rfl, rfl, rfl, rfl, trivial⟩ ⟨rfl, trivial⟩) ⟨(), rfl⟩
          · refine AW.rg rfl fun K hK => ?_
            refine mv rfl rfl ?_
            refine bv rfl (v_bin rfl rfl b_add) ?_
            refine mv rfl rfl ?_
            refine b_nil (hK _ ?_)
            clear hK K
            exact to_le (s' := ⟨[(0, slE eStr p0), (5, HV.ar 29024 w30 eInt.k 0 ((a29.1).length)), (6, HV.int .i64 (IntKind.wrap .i64 (a29.2 + 1)))], [(29024, w30, .arr eInt.k 3 (eInt.E a29.1))]⟩) (AS.le_of ⟨rfl, rfl, rfl, trivial⟩ ⟨rfl, trivial⟩) ⟨(IntKind.wrap .i64 (a29.2 + 1), a29.1), w30, h, rfl⟩
          · refine AW.seq ?_
            refine AW.rgs rfl fun K hK => ?_
            refine mv rfl rfl ?_
            refine mv rfl rfl ?_
            refine bv rfl (v_bin rfl rfl b_lss) ?_
            refine b_nil (hK _ (AW.to (to_le (s' := ⟨[(0, slE eStr p0), (5, HV.ar 29024 w10 eInt.k 0 ((a13.2).length)), (6, HV.int .i64 a9.1), (7, HV.int .i64 a13.1), (33, HV.bool (decide (a13.1 < a9.1)))], [(29024, w10, .arr eInt.k 3 (eInt.E a13.2))]⟩) (AS.le_of ⟨rfl, rfl, rfl, rfl, rfl, trivial⟩ ⟨rfl, trivial⟩) ?_)))
            clear hK K
            refine AW.cond rfl (fun hc => ?_) (fun hc => ?_)
            · have hc := of_decide_eq_true hc
              have h := ifT hc h
              refine AW.skip ?_
              refine AW.seq (AW.block ?_)
              refine AW.dgs 10 follows rfl rfl fun K hK => ?_
              refine sm rfl rfl ?_
              refine sm rfl rfl ?_
              obtain ⟨x17, h18, h⟩ := bS h
              refine sv rfl (v_idxF ty30 es30 rfl rfl (idx_lt h18)) ?_
              refine sv rfl (v_loadF ty9 rfl (l_cell eStr h18 (o := 0) rfl rfl)) ?_
              refine sm rfl rfl ?_
              refine sm rfl rfl ?_
              obtain ⟨x19, h20, h⟩ := bS h
              refine sv rfl (v_idxF ty30 es30 rfl rfl (idx_lt h20)) ?_
              refine sv rfl (v_loadF ty9 rfl (l_cell eStr h20 (o := 0) rfl rfl)) ?_
              obtain ⟨x21, h22, h⟩ := bS h
              refine s_op rfl rfl (ops_call rfl rfl rfl rfl (ACallD.pure0 (w_ref46_hamming h22)) ?_)
              refine sm rfl rfl ?_
              refine s_nil ?_
              refine b_nil (hK _ (AW.to (to_le (s' := ⟨[(0, slE eStr p0), (5, HV.ar 29024 w10 eInt.k 0 ((a13.2).length)), (6, HV.int .i64 a9.1), (7, HV.int .i64 a13.1), (8, HV.int .i64 x21)], [(29024, w10, .arr eInt.k 3 (eInt.E a13.2))]⟩) (AS.le_of ⟨rfl, rfl, rfl, rfl, rfl, trivial⟩ ⟨rfl, trivial⟩) ?_)))
              clear hK K
              refine AW.rg rfl fun K hK => ?_
              refine mv rfl rfl ?_
              refine mv rfl rfl ?_
              refine mv rfl rfl ?_
              refine mv rfl rfl ?_
              obtain ⟨x23, h24, h⟩ := bS h
              refine bv rfl (v_idxA ty42 es42 rfl rfl (idx_lt h24) rfl) ?_
              obtain ⟨x25, h26, h⟩ := bS h
              refine bv rfl (v_loadP ty3 rfl rfl (l_cell eInt h26 (o := 0) rfl rfl)) ?_
              refine bv rfl (v_bin rfl rfl b_add) ?_
              obtain ⟨x27, h28, h⟩ := bS h
              refine bv rfl (v_idxA ty42 es42 rfl rfl (idx_lt h28) rfl) ?_
              refine b_op rfl (o_storeE eInt (l := a13.2) (j := x21) (v := IntKind.wrap .i64 (x25 + 1)) rfl rfl rfl ty3 rfl rfl rfl (idx_lt h28) ?_)
              refine b_nil (hK _ (AW.to (to_le (s' := ⟨[(0, slE eStr p0), (5, HV.ar 29024 w10 eInt.k 0 (((a13.2).set (x21).toNat (IntKind.wrap .i64 (x25 + 1))).length)), (6, HV.int .i64 a9.1), (7, HV.int .i64 a13.1)], [(29024, w10, .arr eInt.k 3 (eInt.E ((a13.2).set (x21).toNat (IntKind.wrap .i64 (x25 + 1)))))]⟩) (AS.le_of ⟨rfl, arl (by simp only [List.length_set]), rfl, rfl, trivial⟩ ⟨rfl, trivial⟩) ?_)))
              clear hK K
              refine AW.rg rfl fun K hK => ?_
              refine mv rfl rfl ?_
              refine bv rfl (v_bin rfl rfl b_add) ?_
              refine mv rfl rfl ?_
              refine b_nil (hK _ ?_)
              clear hK K
              exact to_le (s' := ⟨[(0, slE eStr p0), (5, HV.ar 29024 w10 eInt.k 0 (((a13.2).set (x21).toNat (IntKind.wrap .i64 (x25 + 1))).length)), (6, HV.int .i64 a9.1), (7, HV.int .i64 (IntKind.wrap .i64 (a13.1 + 1)))], [(29024, w10, .arr eInt.k 3 (eInt.E ((a13.2).set (x21).toNat (IntKind.wrap .i64 (x25 + 1)))))]⟩) (AS.le_of ⟨rfl, rfl, rfl, rfl, trivial⟩ ⟨rfl, trivial⟩) ⟨(IntKind.wrap .i64 (a13.1 + 1), (a13.2).set (x21).toNat (IntKind.wrap .i64 (x25 + 1))), (), h, rfl⟩
            · have hc := of_decide_eq_false hc
              have h := ifF hc h
              refine AW.exit ?_
              exact to_le (s' := ⟨[(0, slE eStr p0), (5, HV.ar 29024 w10 eInt.k 0 ((a13.2).length)), (6, HV.int .i64 a9.1)], [(29024, w10, .arr eInt.k 3 (eInt.E a13.2))]⟩) (AS.le_of ⟨rfl, rfl, rfl, trivial⟩ ⟨rfl, trivial⟩) ⟨(a13.2, a9.1), w10, h, rfl⟩
        · have hc := of_decide_eq_false hc
          have h := ifF hc h
          refine AW.exit ?_
          exact to_le (s' := ⟨[(5, HV.ar 29024 w10 eInt.k 0 ((a9.2).length))], [(29024, w10, .arr eInt.k 3 (eInt.E a9.2))]⟩) (AS.le_of ⟨rfl, trivial⟩ ⟨rfl, trivial⟩) ⟨a9.2, w10, h, rfl⟩

/-- groove/distance.nearest[string] -/
noncomputable def m_distance_nearest_string (p0 : List (List UInt8)) (p1 : (List UInt8) → Option (Int)) : Option (Int × Int) :=
  (idx p0 0).bind fun x1 =>
  (p1 x1).bind fun x3 =>
  (loopW (S := Int × Int × Int) (X := Int × Int) (fun a5 =>
      if a5.2.2 < ((p0).length : Int) then
        jp (fun (a9 : Int × Int) =>
          some (Stp.next (a9.1, a9.2, IntKind.wrap .i64 (a5.2.2 + 1))))
          fun k11 =>
          (idx p0 a5.2.2).bind fun x12 =>
          (p1 x12).bind fun x14 =>
          if x14 < a5.2.1 then
            k11 (a5.2.2, x14)
          else
            k11 (a5.1, a5.2.1)
      else
        some (Stp.exit (a5.1, a5.2.1))) (0, x3, 0)).bind fun a16 =>
  some (a16.1, a16.2)

set_option maxHeartbeats 8000000 in
set_option maxRecDepth 100000 in
theorem w_distance_nearest_string {p0 : List (List UInt8)} {p1 : (List UInt8) → Option (Int)} {g1 : FuncId} {z1 : List HV} {r : Int × Int} (h : m_distance_nearest_string p0 p1 = some r) (hf1 : ∀ a0 b, p1 a0 = some b → Pure Try.prog g1 ([HV.str a0] ++ z1) (· = HV.int .i64 b)) : Pure Try.prog 75 [slE eStr p0, HV.fn (.func g1) [] z1] (· = HV.tup [HV.int .i64 r.1, HV.int .i64 r.2]) := by
  unfold m_distance_nearest_string at h
  refine Pure.of_body Try.func75 rfl rfl (Nat.le_of_ble_eq_true rfl) fun hf => ?_
  unfold Try.f75
  dsimp only [enumS, Nat.reduceAdd]
  refine AW.rgs rfl fun K hK => ?_
  refine mv rfl rfl ?_
  refine mv rfl rfl ?_
  refine b_nil (hK _ (AW.to (to_le (s' := ⟨[(0, slE eStr p0), (1, HV.fn (.func g1) [] z1)], []⟩) (AS.le_of ⟨rfl, rfl, trivial⟩ trivial) ?_)))
  clear hK K
  refine AW.rgs rfl fun K hK => ?_
  refine mv rfl rfl ?_
  refine mv rfl rfl ?_
  obtain ⟨x1, h2, h⟩ := bS h
  refine bv rfl (v_idxF ty30 es30 rfl rfl (idx_lt h2)) ?_
  refine bv rfl (v_loadF ty9 rfl (l_cell eStr h2 (o := 0) rfl rfl)) ?_
  obtain ⟨x3, h4, h⟩ := bS h
  refine b_op rfl (o_call rfl rfl rfl rfl (ACallD.pure0 (hf1 _ _ h4)) ?_)
  refine mv rfl rfl ?_
  refine mv rfl rfl ?_
  refine b_nil (hK _ (AW.to (to_le (s' := ⟨[(0, slE eStr p0), (1, HV.fn (.func g1) [] z1), (6, HV.int .i64 0), (7, HV.int .i64 x3)], []⟩) (AS.le_of ⟨rfl, rfl, rfl, rfl, trivial⟩ trivial) ?_)))
  clear hK K
  refine AW.seq ?_
  refine AW.rgs rfl fun K hK => ?_
  refine mv rfl rfl ?_
  refine bv rfl (v_lenF rfl rfl ty30 rfl) ?_
  refine mv rfl rfl ?_
  refine b_nil (hK _ (AW.to (to_le (s' := ⟨[(1, HV.fn (.func g1) [] z1), (6, HV.int .i64 0), (7, HV.int .i64 x3), (16, slE eStr p0), (17, HV.int .i64 ((p0).length : Int)), (18, HV.int .i64 0)], []⟩) (AS.le_of ⟨rfl, rfl, rfl, rfl, rfl, rfl, trivial⟩ trivial) ?_)))
  clear hK K
  refine AW.lpX h (by first | exact up_then | exact up_to) (S := Int × Int × Int) (V := Unit) (fun a v => ⟨[(1, HV.fn (.func g1) [] z1), (6, HV.int .i64 a.1), (7, HV.int .i64 a.2.1), (16, slE eStr p0), (17, HV.int .i64 ((p0).length : Int)), (18, HV.int .i64 a.2.2)], []⟩) ?_ (X := Int × Int) (W := Unit) (fun a v => ⟨[(6, HV.int .i64 a.1), (7, HV.int .i64 a.2)], []⟩) (fun a16 w17 h => ?_) (fun a5 w6 st7 h => ?_)
  · exact to_le (s' := ⟨[(1, HV.fn (.func g1) [] z1), (6, HV.int .i64 0), (7, HV.int .i64 x3), (16, slE eStr p0), (17, HV.int .i64 ((p0).length : Int)), (18, HV.int .i64 0)], []⟩) (AS.le_of ⟨rfl, rfl, rfl, rfl, rfl, rfl, trivial⟩ trivial) ⟨(), rfl⟩
  · refine AW.rgs rfl fun K hK => ?_
    refine mv rfl rfl ?_
    refine mv rfl rfl ?_
    refine mv rfl rfl ?_
    refine mv rfl rfl ?_
    refine b_nil (hK _ (AW.to (to_le (s' := ⟨[(4, HV.int .i64 a16.1), (5, HV.int .i64 a16.2)], []⟩) (AS.le_of ⟨rfl, rfl, trivial⟩ trivial) ?_)))
    clear hK K
    refine AW.ret ?_
    have h := Option.some.inj h
    subst h
    exact ret_pure (hs := [HV.int .i64 a16.1, HV.int .i64 a16.2]) (q := HV.tup [HV.int .i64 a16.1, HV.int .i64 a16.2]) (.inr rfl) (resT rfl (resT rfl rfl)) rfl ⟨trivial, trivial, trivial⟩
  · refine AW.rgs rfl fun K hK => ?_
    refine bv rfl (v_bin rfl rfl b_lss) ?_
    refine b_nil (hK _ (AW.to (to_le (s' := ⟨[(1, HV.fn (.func g1) [] z1), (6, HV.int .i64 a5.1), (7, HV.int .i64 a5.2.1), (16, slE eStr p0), (17, HV.int .i64 ((p0).length : Int)), (18, HV.int .i64 a5.2.2), (19, HV.bool (decide (a5.2.2 < ((p0).length : Int))))], []⟩) (AS.le_of ⟨rfl, rfl, rfl, rfl, rfl, rfl, rfl, trivial⟩ trivial) ?_)))
    clear hK K
    refine AW.cseq rfl (fun hc => ?_) (fun hc => ?_)
    · have hc := of_decide_eq_true hc
      have h := ifT hc h
      refine AW.skip ?_
      refine AW.seqJ h (S := Int × Int) (V := Unit) (fun a v => ⟨[(1, HV.fn (.func g1) [] z1), (6, HV.int .i64 a.1), (7, HV.int .i64 a.2), (16, slE eStr p0), (17, HV.int .i64 ((p0).length : Int)), (18, HV.int .i64 a5.2.2)], []⟩) (fun a9 w10 h => ?_) (fun k11 h => ?_)
      · refine AW.rg rfl fun K hK => ?_
        refine bv rfl (v_bin rfl rfl b_add) ?_
        refine mv rfl rfl ?_
        refine b_nil (hK _ ?_)
        clear hK K
        exact to_le (s' := ⟨[(1, HV.fn (.func g1) [] z1), (6, HV.int .i64 a9.1), (7, HV.int .i64 a9.2), (16, slE eStr p0), (17, HV.int .i64 ((p0).length : Int)), (18, HV.int .i64 (IntKind.wrap .i64 (a5.2.2 + 1)))], []⟩) (AS.le_of ⟨rfl, rfl, rfl, rfl, rfl, rfl, trivial⟩ trivial) ⟨(a9.1, a9.2, IntKind.wrap .i64 (a5.2.2 + 1)), (), h, rfl⟩
      · refine AW.block ?_
        refine AW.rgs rfl fun K hK => ?_
        refine mv rfl rfl ?_
        obtain ⟨x12, h13, h⟩ := bS h
        refine bv rfl (v_idxF ty30 es30 rfl rfl (idx_lt h13)) ?_
        refine bv rfl (v_loadF ty9 rfl (l_cell eStr h13 (o := 0) rfl rfl)) ?_
        refine mv rfl rfl ?_
        refine mv rfl rfl ?_
        refine b_nil (hK _ (AW.to (to_le (s' := ⟨[(1, HV.fn (.func g1) [] z1), (6, HV.int .i64 a5.1), (7, HV.int .i64 a5.2.1), (8, HV.int .i64 a5.2.2), (9, HV.str x12), (16, slE eStr p0), (17, HV.int .i64 ((p0).length : Int)), (18, HV.int .i64 a5.2.2)], []⟩) (AS.le_of ⟨rfl, rfl, rfl, rfl, rfl, rfl, rfl, rfl, trivial⟩ trivial) ?_)))
        clear hK K
        refine AW.rgs rfl fun K hK => ?_
        refine mv rfl rfl ?_
        refine mv rfl rfl ?_
        obtain ⟨x14, h15, h⟩ := bS h
        refine b_op rfl (o_call rfl rfl rfl rfl (ACallD.pure0 (hf1 _ _ h15)) ?_)
        refine mv rfl rfl ?_
        refine b_nil (hK _ (AW.to (to_le (s' := ⟨[(1, HV.fn (.func g1) [] z1), (6, HV.int .i64 a5.1), (7, HV.int .i64 a5.2.1), (8, HV.int .i64 a5.2.2), (10, HV.int .i64 x14), (16, slE eStr p0), (17, HV.int .i64 ((p0).length : Int)), (18, HV.int .i64 a5.2.2)], []⟩) (AS.le_of ⟨rfl, rfl, rfl, rfl, rfl, rfl, rfl, rfl, trivial⟩ trivial) ?_)))
        clear hK K
        refine AW.rgs rfl fun K hK => ?_
        refine mv rfl rfl ?_
        refine mv rfl rfl ?_
        refine bv rfl (v_bin rfl rfl b_lss) ?_
        refine b_nil (hK _ (AW.to (to_le (s' := ⟨[(1, HV.fn (.func g1) [] z1), (6, HV.int .i64 a5.1), (7, HV.int .i64 a5.2.1), (8, HV.int .i64 a5.2.2), (10, HV.int .i64 x14), (16, slE eStr p0), (17, HV.int .i64 ((p0).length : Int)), (18, HV.int .i64 a5.2.2), (28, HV.bool (decide (x14 < a5.2.1)))], []⟩) (AS.le_of ⟨rfl, rfl, rfl, rfl, rfl, rfl, rfl, rfl, rfl, trivial⟩ trivial) ?_)))
        clear hK K
        refine AW.cond rfl (fun hc => ?_) (fun hc => ?_)
        · have hc := of_decide_eq_true hc
          have h := ifT hc h
          refine AW.rg rfl fun K hK => ?_
          refine mv rfl rfl ?_
          refine mv rfl rfl ?_
          refine mv rfl rfl ?_
          refine mv rfl rfl ?_
          refine b_nil (hK _ ?_)
          clear hK K
          exact to_le (s' := ⟨[(1, HV.fn (.func g1) [] z1), (6, HV.int .i64 a5.2.2), (7, HV.int .i64 x14), (16, slE eStr p0), (17, HV.int .i64 ((p0).length : Int)), (18, HV.int .i64 a5.2.2)], []⟩) (AS.le_of ⟨rfl, rfl, rfl, rfl, rfl, rfl, trivial⟩ trivial) ⟨(a5.2.2, x14), (), h, rfl⟩
        · have hc := of_decide_eq_false hc
          have h := ifF hc h
          refine AW.skip ?_
          exact to_le (s' := ⟨[(1, HV.fn (.func g1) [] z1), (6, HV.int .i64 a5.1), (7, HV.int .i64 a5.2.1), (16, slE eStr p0), (17, HV.int .i64 ((p0).length : Int)), (18, HV.int .i64 a5.2.2)], []⟩) (AS.le_of ⟨rfl, rfl, rfl, rfl, rfl, rfl, trivial⟩ trivial) ⟨(a5.1, a5.2.1), (), h, rfl⟩
    · have hc := of_decide_eq_false hc
      have h := ifF hc h
      refine AW.exit ?_
      exact to_le (s' := ⟨[(6, HV.int .i64 a5.1), (7, HV.int .i64 a5.2.1)], []⟩) (AS.le_of ⟨rfl, rfl, trivial⟩ trivial) ⟨(a5.1, a5.2.1), (), h, rfl⟩

/-- groove/distance.Nearest$1 -/
noncomputable def m_distance_Nearest_1 (p0 : List UInt8) (c0 : List UInt8) : Option (Int) :=
  (m_distance_hamming p0 c0).bind fun x1 =>
  some x1

set_option maxHeartbeats 8000000 in
set_option maxRecDepth 100000 in
theorem w_distance_Nearest_1 {p0 : List UInt8} {c0 : List UInt8} {r : Int} (h : m_distance_Nearest_1 p0 c0 = some r) : Pure Try.prog 76 [HV.str p0, HV.fptr [HV.str c0] 0] (· = HV.int .i64 r) := by
  unfold m_distance_Nearest_1 at h
  refine Pure.of_body Try.func76 rfl rfl (Nat.le_of_ble_eq_true rfl) fun hf => ?_
  unfold Try.f76
  dsimp only [enumS, Nat.reduceAdd]
  refine AW.rgs rfl fun K hK => ?_
  refine mv rfl rfl ?_
  refine b_nil (hK _ (AW.to (to_le (s' := ⟨[(0, HV.str p0), (1, HV.fptr [HV.str c0] 0)], []⟩) (AS.le_of ⟨rfl, rfl, trivial⟩ trivial) ?_)))
  clear hK K
  refine AW.rgs rfl fun K hK => ?_
  refine mv rfl rfl ?_
  refine bv rfl (v_loadF ty9 rfl (l_lit rfl rfl)) ?_
  obtain ⟨x1, h2, h⟩ := bS h
  refine b_op rfl (o_call rfl rfl rfl rfl (ACallD.pure0 (w_distance_hamming h2)) ?_)
  refine mv rfl rfl ?_
  refine b_nil (hK _ (AW.to (to_le (s' := ⟨[(3, HV.int .i64 x1)], []⟩) (AS.le_of ⟨rfl, trivial⟩ trivial) ?_)))
  clear hK K
  refine AW.ret ?_
  have h := Option.some.inj h
  subst h
  exact ret_pure (hs := [HV.int .i64 x1]) (q := HV.int .i64 x1) (.inr rfl) (resT rfl rfl) rfl trivial

/-- groove/distance.Nearest -/
noncomputable def m_distance_Nearest (p0 : List (List UInt8)) (p1 : List UInt8) : Option (Int × Int × Int) :=
  if ((p0).length : Int) = 0 then
    some (0, 0, 5)
  else
    lpO (loopW (S := Int) (X := Ou (Unit) (Int × Int × Int)) (fun a1 =>
        if a1 < ((p0).length : Int) then
          (idx p0 a1).bind fun x5 =>
          if ((x5).length : Int) ≠ ((p1).length : Int) then
            some (Stp.exit (Ou.ret (0, 0, 11)))
          else
            some (Stp.next (IntKind.wrap .i64 (a1 + 1)))
        else
          some (Stp.exit (Ou.go ()))) 0) (fun a7 =>
        (m_distance_nearest_string p0 (fun b0 => m_distance_Nearest_1 b0 p1)).bind fun x9 =>
        some (x9.1, x9.2, 0)) some

set_option maxHeartbeats 8000000 in
set_option maxRecDepth 100000 in
theorem w_distance_Nearest {p0 : List (List UInt8)} {p1 : List UInt8} {r : Int × Int × Int} (h : m_distance_Nearest p0 p1 = some r) : Pure Try.prog 30 [slE eStr p0, HV.str p1] (· = HV.tup [HV.int .i64 r.1, HV.int .i64 r.2.1, HV.int .i64 r.2.2]) := by
  unfold m_distance_Nearest at h
  refine Pure.of_body Try.func30 rfl rfl (Nat.le_of_ble_eq_true rfl) fun hf => ?_
  unfold Try.f30
  dsimp only [enumS, Nat.reduceAdd]
  refine AW.rgs rfl fun K hK => ?_
  refine b_op rfl (o_box rfl rfl rfl ?_)
  refine mv rfl rfl ?_
  refine mv rfl rfl ?_
  refine mv rfl rfl ?_
  refine b_nil (hK _ (AW.to (to_le (s' := ⟨[(0, slE eStr p0), (3, HV.fptr [HV.str p1] 0)], []⟩) (AS.le_of ⟨rfl, rfl, trivial⟩ trivial) ?_)))
  clear hK K
  refine AW.seq ?_
  refine AW.rgs rfl fun K hK => ?_
  refine mv rfl rfl ?_
  refine bv rfl (v_lenF rfl rfl ty30 rfl) ?_
  refine bv rfl (v_bin rfl rfl b_eql) ?_
  refine b_nil (hK _ (AW.to (to_le (s' := ⟨[(0, slE eStr p0), (3, HV.fptr [HV.str p1] 0), (13, HV.bool (decide (((p0).length : Int) = 0)))], []⟩) (AS.le_of ⟨rfl, rfl, rfl, trivial⟩ trivial) ?_)))
  clear hK K
  refine AW.cond rfl (fun hc => ?_) (fun hc => ?_)
  · have hc := of_decide_eq_true hc
    have h := ifT hc h
    refine AW.rgs rfl fun K hK => ?_
    refine mv rfl rfl ?_
    refine mv rfl rfl ?_
    refine mv rfl rfl ?_
    refine b_nil (hK _ (AW.to (to_le (s' := ⟨[(4, HV.int .i64 0), (5, HV.int .i64 0), (6, HV.int .i64 5)], []⟩) (AS.le_of ⟨rfl, rfl, rfl, trivial⟩ trivial) ?_)))
    clear hK K
    refine AW.ret ?_
    have h := Option.some.inj h
    subst h
    exact ret_pure (hs := [HV.int .i64 0, HV.int .i64 0, HV.int .i64 5]) (q := HV.tup [HV.int .i64 0, HV.int .i64 0, HV.int .i64 5]) (.inr rfl) (resT rfl (resT rfl (resT rfl rfl))) rfl ⟨trivial, trivial, trivial, trivial⟩
  · have hc := of_decide_eq_false hc
    have h := ifF hc h
    refine AW.skip ?_
    refine AW.seq ?_
    refine AW.rgs rfl fun K hK => ?_
    refine mv rfl rfl ?_
    refine bv rfl (v_lenF rfl rfl ty30 rfl) ?_
    refine mv rfl rfl ?_
    refine b_nil (hK _ (AW.to (to_le (s' := ⟨[(0, slE eStr p0), (3, HV.fptr [HV.str p1] 0), (14, slE eStr p0), (15, HV.int .i64 ((p0).length : Int)), (16, HV.int .i64 0)], []⟩) (AS.le_of ⟨rfl, rfl, rfl, rfl, rfl, trivial⟩ trivial) ?_)))
    clear hK K
    refine AW.lpR h (by first | exact up_then | exact up_to) (S := Int) (V := Unit) (fun a v => ⟨[(0, slE eStr p0), (3, HV.fptr [HV.str p1] 0), (14, slE eStr p0), (15, HV.int .i64 ((p0).length : Int)), (16, HV.int .i64 a)], []⟩) ?_ (X := Unit) (W := Unit) (fun a v => ⟨[(0, slE eStr p0), (3, HV.fptr [HV.str p1] 0)], []⟩) (fun a7 w8 h => ?_) (fun a1 w2 st3 h hr4=> ?_)
    · exact to_le (s' := ⟨[(0, slE eStr p0), (3, HV.fptr [HV.str p1] 0), (14, slE eStr p0), (15, HV.int .i64 ((p0).length : Int)), (16, HV.int .i64 0)], []⟩) (AS.le_of ⟨rfl, rfl, rfl, rfl, rfl, trivial⟩ trivial) ⟨(), rfl⟩
    · refine AW.rgs rfl fun K hK => ?_
      refine mv rfl rfl ?_
      refine bv rfl (v_func rfl rfl) ?_
      obtain ⟨x9, h10, h⟩ := bS h
      refine b_op rfl (o_call rfl rfl rfl rfl (ACallD.pure0 (w_distance_nearest_string h10 (fun _ _ h => w_distance_Nearest_1 h))) ?_)
      refine mv rfl rfl ?_
      refine bv rfl (v_extract rfl rfl) ?_
      refine bv rfl (v_extract rfl rfl) ?_
      refine mv rfl rfl ?_
      refine mv rfl rfl ?_
      refine b_nil (hK _ (AW.to (to_le (s' := ⟨[(9, HV.int .i64 x9.1), (10, HV.int .i64 x9.2)], []⟩) (AS.le_of ⟨rfl, rfl, trivial⟩ trivial) ?_)))
      clear hK K
      refine AW.rgs rfl fun K hK => ?_
      refine mv rfl rfl ?_
      refine mv rfl rfl ?_
      refine mv rfl rfl ?_
      refine mv rfl rfl ?_
      refine mv rfl rfl ?_
      refine b_nil (hK _ (AW.to (to_le (s' := ⟨[(4, HV.int .i64 x9.1), (5, HV.int .i64 x9.2), (6, HV.int .i64 0)], []⟩) (AS.le_of ⟨rfl, rfl, rfl, trivial⟩ trivial) ?_)))
      clear hK K
      refine AW.ret ?_
      have h := Option.some.inj h
      subst h
      exact ret_pure (hs := [HV.int .i64 x9.1, HV.int .i64 x9.2, HV.int .i64 0]) (q := HV.tup [HV.int .i64 x9.1, HV.int .i64 x9.2, HV.int .i64 0]) (.inr rfl) (resT rfl (resT rfl (resT rfl rfl))) rfl ⟨trivial, trivial, trivial, trivial⟩
    · refine AW.rgs rfl fun K hK => ?_
      refine bv rfl (v_bin rfl rfl b_lss) ?_
      refine b_nil (hK _ (AW.to (to_le (s' := ⟨[(0, slE eStr p0), (3, HV.fptr [HV.str p1] 0), (14, slE eStr p0), (15, HV.int .i64 ((p0).length : Int)), (16, HV.int .i64 a1), (17, HV.bool (decide (a1 < ((p0).length : Int))))], []⟩) (AS.le_of ⟨rfl, rfl, rfl, rfl, rfl, rfl, trivial⟩ trivial) ?_)))
      clear hK K
      refine AW.cseq rfl (fun hc => ?_) (fun hc => ?_)
      · have hc := of_decide_eq_true hc
        have h := ifT hc h
        refine AW.skip ?_
        refine AW.seq (AW.block ?_)
        refine AW.rgs rfl fun K hK => ?_
        obtain ⟨x5, h6, h⟩ := bS h
        refine bv rfl (v_idxF ty30 es30 rfl rfl (idx_lt h6)) ?_
        refine bv rfl (v_loadF ty9 rfl (l_cell eStr h6 (o := 0) rfl rfl)) ?_
        refine mv rfl rfl ?_
        refine b_nil (hK _ (AW.to (to_le (s' := ⟨[(0, slE eStr p0), (3, HV.fptr [HV.str p1] 0), (8, HV.str x5), (14, slE eStr p0), (15, HV.int .i64 ((p0).length : Int)), (16, HV.int .i64 a1)], []⟩) (AS.le_of ⟨rfl, rfl, rfl, rfl, rfl, rfl, trivial⟩ trivial) ?_)))
        clear hK K
        refine AW.rgs rfl fun K hK => ?_
        refine mv rfl rfl ?_
        refine bv rfl (v_lenS rfl rfl ty9 rfl) ?_
        refine bv rfl (v_loadF ty9 rfl (l_lit rfl rfl)) ?_
        refine bv rfl (v_lenS rfl rfl ty9 rfl) ?_
        refine bv rfl (v_bin rfl rfl b_neq) ?_
        refine b_nil (hK _ (AW.to (to_le (s' := ⟨[(0, slE eStr p0), (3, HV.fptr [HV.str p1] 0), (14, slE eStr p0), (15, HV.int .i64 ((p0).length : Int)), (16, HV.int .i64 a1), (24, HV.bool (decide (((x5).length : Int) ≠ ((p1).length : Int))))], []⟩) (AS.le_of ⟨rfl, rfl, rfl, rfl, rfl, rfl, trivial⟩ trivial) ?_)))
        clear hK K
        refine AW.cond rfl (fun hc => ?_) (fun hc => ?_)
        · have hc := of_decide_eq_true hc
          have h := ifT hc h
          refine AW.rgs rfl fun K hK => ?_
          refine mv rfl rfl ?_
          refine mv rfl rfl ?_
          refine mv rfl rfl ?_
          refine b_nil (hK _ (AW.to (to_le (s' := ⟨[(4, HV.int .i64 0), (5, HV.int .i64 0), (6, HV.int .i64 11)], []⟩) (AS.le_of ⟨rfl, rfl, rfl, trivial⟩ trivial) ?_)))
          clear hK K
          have h := hr4 _ h
          refine AW.ret ?_
          have h := Option.some.inj h
          subst h
          exact ret_pure (hs := [HV.int .i64 0, HV.int .i64 0, HV.int .i64 11]) (q := HV.tup [HV.int .i64 0, HV.int .i64 0, HV.int .i64 11]) (.inr rfl) (resT rfl (resT rfl (resT rfl rfl))) rfl ⟨trivial, trivial, trivial, trivial⟩
        · have hc := of_decide_eq_false hc
          have h := ifF hc h
          refine AW.skip ?_
          refine AW.rg rfl fun K hK => ?_
          refine bv rfl (v_bin rfl rfl b_add) ?_
          refine mv rfl rfl ?_
          refine b_nil (hK _ ?_)
          clear hK K
          exact to_le (s' := ⟨[(0, slE eStr p0), (3, HV.fptr [HV.str p1] 0), (14, slE eStr p0), (15, HV.int .i64 ((p0).length : Int)), (16, HV.int .i64 (IntKind.wrap .i64 (a1 + 1)))], []⟩) (AS.le_of ⟨rfl, rfl, rfl, rfl, rfl, trivial⟩ trivial) ⟨IntKind.wrap .i64 (a1 + 1), (), h, rfl⟩
      · have hc := of_decide_eq_false hc
        have h := ifF hc h
        refine AW.exit ?_
        exact to_le (s' := ⟨[(0, slE eStr p0), (3, HV.fptr [HV.str p1] 0)], []⟩) (AS.le_of ⟨rfl, rfl, trivial⟩ trivial) ⟨(), (), h, rfl⟩

/-- groove/grooveref46.Nearest -/
noncomputable def m_ref46_Nearest (p0 : List (List UInt8)) (p1 : List UInt8) : Option (Int × Int × Int) :=
  if ((p0).length : Int) = 0 then
    some (0, 0, 5)
  else
    lpO (loopW (S := Int) (X := Ou (Unit) (Int × Int × Int)) (fun a1 =>
        if a1 < ((p0).length : Int) then
          (idx p0 a1).bind fun x5 =>
          if ((x5).length : Int) ≠ ((p1).length : Int) then
            some (Stp.exit (Ou.ret (0, 0, 11)))
          else
            some (Stp.next (IntKind.wrap .i64 (a1 + 1)))
        else
          some (Stp.exit (Ou.go ()))) 0) (fun a7 =>
        (loopW (S := Int × Int) (X := Int) (fun a9 =>
            if a9.2 < ((p0).length : Int) then
              jp (fun (a13 : Int) =>
                some (Stp.next (a13, IntKind.wrap .i64 (a9.2 + 1))))
                fun k15 =>
                (idx p0 a9.2).bind fun x16 =>
                (m_ref46_hamming x16 p1).bind fun x18 =>
                (idx p0 a9.1).bind fun x20 =>
                (m_ref46_hamming x20 p1).bind fun x22 =>
                if x18 < x22 then
                  k15 a9.2
                else
                  k15 a9.1
            else
              some (Stp.exit a9.1)) (0, 1)).bind fun a24 =>
        (idx p0 a24).bind fun x26 =>
        (m_ref46_hamming x26 p1).bind fun x28 =>
        some (a24, x28, 0)) some

set_option maxHeartbeats 8000000 in
set_option maxRecDepth 100000 in
theorem w_ref46_Nearest {p0 : List (List UInt8)} {p1 : List UInt8} {r : Int × Int × Int} (h : m_ref46_Nearest p0 p1 = some r) : Pure Try.prog 31 [slE eStr p0, HV.str p1] (· = HV.tup [HV.int .i64 r.1, HV.int .i64 r.2.1, HV.int .i64 r.2.2]) := by
  unfold m_ref46_Nearest at h
  refine Pure.of_body Try.func31 rfl rfl (Nat.le_of_ble_eq_true rfl) fun hf => ?_
  unfold Try.f31
  dsimp only [enumS, Nat.reduceAdd]
  refine AW.rgs rfl fun K hK => ?_
  refine mv rfl rfl ?_
  refine mv rfl rfl ?_
  refine mv rfl rfl ?_
  refine b_nil (hK _ (AW.to (to_le (s' := ⟨[(0, slE eStr p0), (1, HV.str p1)], []⟩) (AS.le_of ⟨rfl, rfl, trivial⟩ trivial) ?_)))
  clear hK K
  refine AW.seq ?_
  refine AW.rgs rfl fun K hK => ?_
  refine mv rfl rfl ?_
  refine bv rfl (v_lenF rfl rfl ty30 rfl) ?_
  refine bv rfl (v_bin rfl rfl b_eql) ?_
  refine b_nil (hK _ (AW.to (to_le (s' := ⟨[(0, slE eStr p0), (1, HV.str p1), (12, HV.bool (decide (((p0).length : Int) = 0)))], []⟩) (AS.le_of ⟨rfl, rfl, rfl, trivial⟩ trivial) ?_)))
  clear hK K
  refine AW.cond rfl (fun hc => ?_) (fun hc => ?_)
  · have hc := of_decide_eq_true hc
    have h := ifT hc h
    refine AW.rgs rfl fun K hK => ?_
    refine mv rfl rfl ?_
    refine mv rfl rfl ?_
    refine mv rfl rfl ?_
    refine b_nil (hK _ (AW.to (to_le (s' := ⟨[(4, HV.int .i64 0), (5, HV.int .i64 0), (6, HV.int .i64 5)], []⟩) (AS.le_of ⟨rfl, rfl, rfl, trivial⟩ trivial) ?_)))
    clear hK K
    refine AW.ret ?_
    have h := Option.some.inj h
    subst h
    exact ret_pure (hs := [HV.int .i64 0, HV.int .i64 0, HV.int .i64 5]) (q := HV.tup [HV.int .i64 0, HV.int .i64 0, HV.int .i64 5]) (.inr rfl) (resT rfl (resT rfl (resT rfl rfl))) rfl ⟨trivial, trivial, trivial, trivial⟩
  · have hc := of_decide_eq_false hc
    have h := ifF hc h
    refine AW.skip ?_
    refine AW.seq ?_
    refine AW.rgs rfl fun K hK => ?_
    refine mv rfl rfl ?_
    refine b_nil (hK _ (AW.to (to_le (s' := ⟨[(0, slE eStr p0), (1, HV.str p1), (7, HV.int .i64 0)], []⟩) (AS.le_of ⟨rfl, rfl, rfl, trivial⟩ trivial) ?_)))
    clear hK K
    refine AW.lpR h (by first | exact up_then | exact up_to) (S := Int) (V := Unit) (fun a v => ⟨[(0, slE eStr p0), (1, HV.str p1), (7, HV.int .i64 a)], []⟩) ?_ (X := Unit) (W := Unit) (fun a v => ⟨[(0, slE eStr p0), (1, HV.str p1)], []⟩) (fun a7 w8 h => ?_) (fun a1 w2 st3 h hr4=> ?_)
    · exact to_le (s' := ⟨[(0, slE eStr p0), (1, HV.str p1), (7, HV.int .i64 0)], []⟩) (AS.le_of ⟨rfl, rfl, rfl, trivial⟩ trivial) ⟨(), rfl⟩
    · refine AW.rgs rfl fun K hK => ?_
      refine mv rfl rfl ?_
      refine b_nil (hK _ (AW.to (to_le (s' := ⟨[(0, slE eStr p0), (1, HV.str p1), (8, HV.int .i64 0)], []⟩) (AS.le_of ⟨rfl, rfl, rfl, trivial⟩ trivial) ?_)))
      clear hK K
      refine AW.seq ?_
      refine AW.rgs rfl fun K hK => ?_
      refine mv rfl rfl ?_
      refine b_nil (hK _ (AW.to (to_le (s' := ⟨[(0, slE eStr p0), (1, HV.str p1), (8, HV.int .i64 0), (9, HV.int .i64 1)], []⟩) (AS.le_of ⟨rfl, rfl, rfl, rfl, trivial⟩ trivial) ?_)))
      clear hK K
      refine AW.lpX h (by first | exact up_then | exact up_to) (S := Int × Int) (V := Unit) (fun a v => ⟨[(0, slE eStr p0), (1, HV.str p1), (8, HV.int .i64 a.1), (9, HV.int .i64 a.2)], []⟩) ?_ (X := Int) (W := Unit) (fun a v => ⟨[(0, slE eStr p0), (1, HV.str p1), (8, HV.int .i64 a)], []⟩) (fun a24 w25 h => ?_) (fun a9 w10 st11 h => ?_)
      · exact to_le (s' := ⟨[(0, slE eStr p0), (1, HV.str p1), (8, HV.int .i64 0), (9, HV.int .i64 1)], []⟩) (AS.le_of ⟨rfl, rfl, rfl, rfl, trivial⟩ trivial) ⟨(), rfl⟩
      · refine AW.rgs rfl fun K hK => ?_
        refine mv rfl rfl ?_
        refine mv rfl rfl ?_
        refine mv rfl rfl ?_
        obtain ⟨x26, h27, h⟩ := bS h
        refine bv rfl (v_idxF ty30 es30 rfl rfl (idx_lt h27)) ?_
        refine bv rfl (v_loadF ty9 rfl (l_cell eStr h27 (o := 0) rfl rfl)) ?_
        refine mv rfl rfl ?_
        obtain ⟨x28, h29, h⟩ := bS h
        refine b_op rfl (o_call rfl rfl rfl rfl (ACallD.pure0 (w_ref46_hamming h29)) ?_)
        refine mv rfl rfl ?_
        refine mv rfl rfl ?_
        refine mv rfl rfl ?_
        refine b_nil (hK _ (AW.to (to_le (s' := ⟨[(4, HV.int .i64 a24), (5, HV.int .i64 x28), (6, HV.int .i64 0)], []⟩) (AS.le_of ⟨rfl, rfl, rfl, trivial⟩ trivial) ?_)))
        clear hK K
        refine AW.ret ?_
        have h := Option.some.inj h
        subst h
        exact ret_pure (hs := [HV.int .i64 a24, HV.int .i64 x28, HV.int .i64 0]) (q := HV.tup [HV.int .i64 a24, HV.int .i64 x28, HV.int .i64 0]) (.inr rfl) (resT rfl (resT rfl (resT rfl rfl))) rfl ⟨trivial, trivial, trivial, trivial⟩
      · refine AW.seq ?_
        refine AW.rgs rfl fun K hK => ?_
        refine mv rfl rfl ?_
        refine mv rfl rfl ?_
        refine bv rfl (v_lenF rfl rfl ty30 rfl) ?_
        refine bv rfl (v_bin rfl rfl b_lss) ?_
        refine b_nil (hK _ (AW.to (to_le (s' := ⟨[(0, slE eStr p0), (1, HV.str p1), (8, HV.int .i64 a9.1), (9, HV.int .i64 a9.2), (30, HV.bool (decide (a9.2 < ((p0).length : Int))))], []⟩) (AS.le_of ⟨rfl, rfl, rfl, rfl, rfl, trivial⟩ trivial) ?_)))
        clear hK K
        refine AW.cond rfl (fun hc => ?_) (fun hc => ?_)
        · have hc := of_decide_eq_true hc
          have h := ifT hc h
          refine AW.skip ?_
          refine AW.seqJ h (S := Int) (V := Unit) (fun a v => ⟨[(0, slE eStr p0), (1, HV.str p1), (8, HV.int .i64 a), (9, HV.int .i64 a9.2)], []⟩) (fun a13 w14 h => ?_) (fun k15 h => ?_)
          · refine AW.rg rfl fun K hK => ?_
            refine mv rfl rfl ?_
            refine bv rfl (v_bin rfl rfl b_add) ?_
            refine mv rfl rfl ?_
            refine b_nil (hK _ ?_)
            clear hK K
            exact to_le (s' := ⟨[(0, slE eStr p0), (1, HV.str p1), (8, HV.int .i64 a13), (9, HV.int .i64 (IntKind.wrap .i64 (a9.2 + 1)))], []⟩) (AS.le_of ⟨rfl, rfl, rfl, rfl, trivial⟩ trivial) ⟨(a13, IntKind.wrap .i64 (a9.2 + 1)), (), h, rfl⟩
          · refine AW.block ?_
            refine AW.dgs 13 follows rfl rfl fun K hK => ?_
            refine sm rfl rfl ?_
            refine sm rfl rfl ?_
            obtain ⟨x16, h17, h⟩ := bS h
            refine sv rfl (v_idxF ty30 es30 rfl rfl (idx_lt h17)) ?_
            refine sv rfl (v_loadF ty9 rfl (l_cell eStr h17 (o := 0) rfl rfl)) ?_
            refine sm rfl rfl ?_
            obtain ⟨x18, h19, h⟩ := bS h
            refine s_op rfl rfl (ops_call rfl rfl rfl rfl (ACallD.pure0 (w_ref46_hamming h19)) ?_)
            refine sm rfl rfl ?_
            refine sm rfl rfl ?_
            obtain ⟨x20, h21, h⟩ := bS h
            refine sv rfl (v_idxF ty30 es30 rfl rfl (idx_lt h21)) ?_
            refine sv rfl (v_loadF ty9 rfl (l_cell eStr h21 (o := 0) rfl rfl)) ?_
            refine sm rfl rfl ?_
            obtain ⟨x22, h23, h⟩ := bS h
            refine s_op rfl rfl (ops_call rfl rfl rfl rfl (ACallD.pure0 (w_ref46_hamming h23)) ?_)
            refine sv rfl (v_bin rfl rfl b_lss) ?_
            refine s_nil ?_
            refine b_nil (hK _ (AW.to (to_le (s' := ⟨[(0, slE eStr p0), (1, HV.str p1), (8, HV.int .i64 a9.1), (9, HV.int .i64 a9.2), (45, HV.bool (decide (x18 < x22)))], []⟩) (AS.le_of ⟨rfl, rfl, rfl, rfl, rfl, trivial⟩ trivial) ?_)))
            clear hK K
            refine AW.cond rfl (fun hc => ?_) (fun hc => ?_)
            · have hc := of_decide_eq_true hc
              have h := ifT hc h
              refine AW.rg rfl fun K hK => ?_
              refine mv rfl rfl ?_
              refine mv rfl rfl ?_
              refine b_nil (hK _ ?_)
              clear hK K
              exact to_le (s' := ⟨[(0, slE eStr p0), (1, HV.str p1), (8, HV.int .i64 a9.2), (9, HV.int .i64 a9.2)], []⟩) (AS.le_of ⟨rfl, rfl, rfl, rfl, trivial⟩ trivial) ⟨a9.2, (), h, rfl⟩
            · have hc := of_decide_eq_false hc
              have h := ifF hc h
              refine AW.skip ?_
              exact to_le (s' := ⟨[(0, slE eStr p0), (1, HV.str p1), (8, HV.int .i64 a9.1), (9, HV.int .i64 a9.2)], []⟩) (AS.le_of ⟨rfl, rfl, rfl, rfl, trivial⟩ trivial) ⟨a9.1, (), h, rfl⟩
        · have hc := of_decide_eq_false hc
          have h := ifF hc h
          refine AW.exit ?_
          exact to_le (s' := ⟨[(0, slE eStr p0), (1, HV.str p1), (8, HV.int .i64 a9.1)], []⟩) (AS.le_of ⟨rfl, rfl, rfl, trivial⟩ trivial) ⟨a9.1, (), h, rfl⟩
    · refine AW.seq ?_
      refine AW.rgs rfl fun K hK => ?_
      refine mv rfl rfl ?_
      refine mv rfl rfl ?_
      refine bv rfl (v_lenF rfl rfl ty30 rfl) ?_
      refine bv rfl (v_bin rfl rfl b_lss) ?_
      refine b_nil (hK _ (AW.to (to_le (s' := ⟨[(0, slE eStr p0), (1, HV.str p1), (7, HV.int .i64 a1), (16, HV.bool (decide (a1 < ((p0).length : Int))))], []⟩) (AS.le_of ⟨rfl, rfl, rfl, rfl, trivial⟩ trivial) ?_)))
      clear hK K
      refine AW.cond rfl (fun hc => ?_) (fun hc => ?_)
      · have hc := of_decide_eq_true hc
        have h := ifT hc h
        refine AW.skip ?_
        refine AW.seq (AW.block ?_)
        refine AW.rgs rfl fun K hK => ?_
        refine mv rfl rfl ?_
        refine mv rfl rfl ?_
        obtain ⟨x5, h6, h⟩ := bS h
        refine bv rfl (v_idxF ty30 es30 rfl rfl (idx_lt h6)) ?_
        refine bv rfl (v_loadF ty9 rfl (l_cell eStr h6 (o := 0) rfl rfl)) ?_
        refine bv rfl (v_lenS rfl rfl ty9 rfl) ?_
        refine mv rfl rfl ?_
        refine bv rfl (v_lenS rfl rfl ty9 rfl) ?_
        refine bv rfl (v_bin rfl rfl b_neq) ?_
        refine b_nil (hK _ (AW.to (to_le (s' := ⟨[(0, slE eStr p0), (1, HV.str p1), (7, HV.int .i64 a1), (26, HV.bool (decide (((x5).length : Int) ≠ ((p1).length : Int))))], []⟩) (AS.le_of ⟨rfl, rfl, rfl, rfl, trivial⟩ trivial) ?_)))
        clear hK K
        refine AW.cond rfl (fun hc => ?_) (fun hc => ?_)
        · have hc := of_decide_eq_true hc
          have h := ifT hc h
          refine AW.rgs rfl fun K hK => ?_
          refine mv rfl rfl ?_
          refine mv rfl rfl ?_
          refine mv rfl rfl ?_
          refine b_nil (hK _ (AW.to (to_le (s' := ⟨[(4, HV.int .i64 0), (5, HV.int .i64 0), (6, HV.int .i64 11)], []⟩) (AS.le_of ⟨rfl, rfl, rfl, trivial⟩ trivial) ?_)))
          clear hK K
          have h := hr4 _ h
          refine AW.ret ?_
          have h := Option.some.inj h
          subst h
          exact ret_pure (hs := [HV.int .i64 0, HV.int .i64 0, HV.int .i64 11]) (q := HV.tup [HV.int .i64 0, HV.int .i64 0, HV.int .i64 11]) (.inr rfl) (resT rfl (resT rfl (resT rfl rfl))) rfl ⟨trivial, trivial, trivial, trivial⟩
        · have hc := of_decide_eq_false hc
          have h := ifF hc h
          refine AW.skip ?_
          refine AW.rg rfl fun K hK => ?_
          refine mv rfl rfl ?_
          refine bv rfl (v_bin rfl rfl b_add) ?_
          refine mv rfl rfl ?_
          refine b_nil (hK _ ?_)
          clear hK K
          exact to_le (s' := ⟨[(0, slE eStr p0), (1, HV.str p1), (7, HV.int .i64 (IntKind.wrap .i64 (a1 + 1)))], []⟩) (AS.le_of ⟨rfl, rfl, rfl, trivial⟩ trivial) ⟨IntKind.wrap .i64 (a1 + 1), (), h, rfl⟩
      · have hc := of_decide_eq_false hc
        have h := ifF hc h
        refine AW.exit ?_
        exact to_le (s' := ⟨[(0, slE eStr p0), (1, HV.str p1)], []⟩) (AS.le_of ⟨rfl, rfl, trivial⟩ trivial) ⟨(), (), h, rfl⟩

/-- slices.Equal[[]int,int] -/
noncomputable def m_slices_Equal_Lint_int (p0 : List (Int)) (p1 : List (Int)) : Option (Bool) :=
  if ((p0).length : Int) ≠ ((p1).length : Int) then
    some false
  else
    lpO (loopW (S := Int) (X := Ou (Unit) (Bool)) (fun a1 =>
        if a1 < ((p0).length : Int) then
          (idx p0 a1).bind fun x5 =>
          (idx p1 a1).bind fun x7 =>
          if x5 ≠ x7 then
            some (Stp.exit (Ou.ret false))
          else
            some (Stp.next (IntKind.wrap .i64 (a1 + 1)))
        else
          some (Stp.exit (Ou.go ()))) 0) (fun a9 =>
        some true) some

set_option maxHeartbeats 8000000 in
set_option maxRecDepth 100000 in
theorem w_slices_Equal_Lint_int {p0 : List (Int)} {p1 : List (Int)} {r : Bool} (h : m_slices_Equal_Lint_int p0 p1 = some r) : Pure Try.prog 32 [slE eInt p0, slE eInt p1] (· = HV.bool r) := by
  unfold m_slices_Equal_Lint_int at h
  refine Pure.of_body Try.func32 rfl rfl (Nat.le_of_ble_eq_true rfl) fun hf => ?_
  unfold Try.f32
  dsimp only [enumS, Nat.reduceAdd]
  refine AW.rgs rfl fun K hK => ?_
  refine mv rfl rfl ?_
  refine b_nil (hK _ (AW.to (to_le (s' := ⟨[(0, slE eInt p0), (1, slE eInt p1)], []⟩) (AS.le_of ⟨rfl, rfl, trivial⟩ trivial) ?_)))
  clear hK K
  refine AW.seq ?_
  refine AW.rgs rfl fun K hK => ?_
  refine mv rfl rfl ?_
  refine bv rfl (v_lenF rfl rfl ty42 rfl) ?_
  refine mv rfl rfl ?_
  refine bv rfl (v_lenF rfl rfl ty42 rfl) ?_
  refine bv rfl (v_bin rfl rfl b_neq) ?_
  refine b_nil (hK _ (AW.to (to_le (s' := ⟨[(0, slE eInt p0), (1, slE eInt p1), (10, HV.bool (decide (((p0).length : Int) ≠ ((p1).length : Int))))], []⟩) (AS.le_of ⟨rfl, rfl, rfl, trivial⟩ trivial) ?_)))
  clear hK K
  refine AW.cond rfl (fun hc => ?_) (fun hc => ?_)
  · have hc := of_decide_eq_true hc
    have h := ifT hc h
    refine AW.rgs rfl fun K hK => ?_
    refine mv rfl rfl ?_
    refine b_nil (hK _ (AW.to (to_le (s' := ⟨[(4, HV.bool false)], []⟩) (AS.le_of ⟨rfl, trivial⟩ trivial) ?_)))
    clear hK K
    refine AW.ret ?_
    have h := Option.some.inj h
    subst h
    exact ret_pure (hs := [HV.bool false]) (q := HV.bool false) (.inr rfl) (resT rfl rfl) rfl trivial
  · have hc := of_decide_eq_false hc
    have h := ifF hc h
    refine AW.skip ?_
    refine AW.seq ?_
    refine AW.rgs rfl fun K hK => ?_
    refine mv rfl rfl ?_
    refine bv rfl (v_lenF rfl rfl ty42 rfl) ?_
    refine mv rfl rfl ?_
    refine b_nil (hK _ (AW.to (to_le (s' := ⟨[(0, slE eInt p0), (1, slE eInt p1), (12, HV.int .i64 ((p0).length : Int)), (13, HV.int .i64 0)], []⟩) (AS.le_of ⟨rfl, rfl, rfl, rfl, trivial⟩ trivial) ?_)))
    clear hK K
    refine AW.lpR h (by first | exact up_then | exact up_to) (S := Int) (V := Unit) (fun a v => ⟨[(0, slE eInt p0), (1, slE eInt p1), (12, HV.int .i64 ((p0).length : Int)), (13, HV.int .i64 a)], []⟩) ?_ (X := Unit) (W := Unit) (fun a v => ⟨[], []⟩) (fun a9 w10 h => ?_) (fun a1 w2 st3 h hr4=> ?_)
    · exact to_le (s' := ⟨[(0, slE eInt p0), (1, slE eInt p1), (12, HV.int .i64 ((p0).length : Int)), (13, HV.int .i64 0)], []⟩) (AS.le_of ⟨rfl, rfl, rfl, rfl, trivial⟩ trivial) ⟨(), rfl⟩
    · refine AW.rgs rfl fun K hK => ?_
      refine mv rfl rfl ?_
      refine b_nil (hK _ (AW.to (to_le (s' := ⟨[(4, HV.bool true)], []⟩) (AS.le_of ⟨rfl, trivial⟩ trivial) ?_)))
      clear hK K
      refine AW.ret ?_
      have h := Option.some.inj h
      subst h
      exact ret_pure (hs := [HV.bool true]) (q := HV.bool true) (.inr rfl) (resT rfl rfl) rfl trivial
    · refine AW.rgs rfl fun K hK => ?_
      refine bv rfl (v_bin rfl rfl b_lss) ?_
      refine b_nil (hK _ (AW.to (to_le (s' := ⟨[(0, slE eInt p0), (1, slE eInt p1), (12, HV.int .i64 ((p0).length : Int)), (13, HV.int .i64 a1), (14, HV.bool (decide (a1 < ((p0).length : Int))))], []⟩) (AS.le_of ⟨rfl, rfl, rfl, rfl, rfl, trivial⟩ trivial) ?_)))
      clear hK K
      refine AW.cseq rfl (fun hc => ?_) (fun hc => ?_)
      · have hc := of_decide_eq_true hc
        have h := ifT hc h
        refine AW.skip ?_
        refine AW.seq (AW.block ?_)
        refine AW.rgs rfl fun K hK => ?_
        refine mv rfl rfl ?_
        refine mv rfl rfl ?_
        refine b_nil (hK _ (AW.to (to_le (s' := ⟨[(0, slE eInt p0), (1, slE eInt p1), (5, HV.int .i64 a1), (12, HV.int .i64 ((p0).length : Int)), (13, HV.int .i64 a1)], []⟩) (AS.le_of ⟨rfl, rfl, rfl, rfl, rfl, trivial⟩ trivial) ?_)))
        clear hK K
        refine AW.dgs 9 follows rfl rfl fun K hK => ?_
        refine sm rfl rfl ?_
        refine sm rfl rfl ?_
        obtain ⟨x5, h6, h⟩ := bS h
        refine sv rfl (v_idxF ty42 es42 rfl rfl (idx_lt h6)) ?_
        refine sv rfl (v_loadF ty3 rfl (l_cell eInt h6 (o := 0) rfl rfl)) ?_
        refine sm rfl rfl ?_
        refine sm rfl rfl ?_
        obtain ⟨x7, h8, h⟩ := bS h
        refine sv rfl (v_idxF ty42 es42 rfl rfl (idx_lt h8)) ?_
        refine sv rfl (v_loadF ty3 rfl (l_cell eInt h8 (o := 0) rfl rfl)) ?_
        refine sv rfl (v_bin rfl rfl b_neq) ?_
        refine s_nil ?_
        refine b_nil (hK _ (AW.to (to_le (s' := ⟨[(0, slE eInt p0), (1, slE eInt p1), (12, HV.int .i64 ((p0).length : Int)), (13, HV.int .i64 a1), (24, HV.bool (decide (x5 ≠ x7)))], []⟩) (AS.le_of ⟨rfl, rfl, rfl, rfl, rfl, trivial⟩ trivial) ?_)))
        clear hK K
        refine AW.cond rfl (fun hc => ?_) (fun hc => ?_)
        · have hc := of_decide_eq_true hc
          have h := ifT hc h
          refine AW.rgs rfl fun K hK => ?_
          refine mv rfl rfl ?_
          refine b_nil (hK _ (AW.to (to_le (s' := ⟨[(4, HV.bool false)], []⟩) (AS.le_of ⟨rfl, trivial⟩ trivial) ?_)))
          clear hK K
          have h := hr4 _ h
          refine AW.ret ?_
          have h := Option.some.inj h
          subst h
          exact ret_pure (hs := [HV.bool false]) (q := HV.bool false) (.inr rfl) (resT rfl rfl) rfl trivial
        · have hc := of_decide_eq_false hc
          have h := ifF hc h
          refine AW.skip ?_
          refine AW.rg rfl fun K hK => ?_
          refine bv rfl (v_bin rfl rfl b_add) ?_
          refine mv rfl rfl ?_
          refine b_nil (hK _ ?_)
          clear hK K
          exact to_le (s' := ⟨[(0, slE eInt p0), (1, slE eInt p1), (12, HV.int .i64 ((p0).length : Int)), (13, HV.int .i64 (IntKind.wrap .i64 (a1 + 1)))], []⟩) (AS.le_of ⟨rfl, rfl, rfl, rfl, trivial⟩ trivial) ⟨IntKind.wrap .i64 (a1 + 1), (), h, rfl⟩
      · have hc := of_decide_eq_false hc
        have h := ifF hc h
        refine AW.exit ?_
        exact to_le (s' := ⟨[], []⟩) (AS.le_of trivial trivial) ⟨(), (), h, rfl⟩

/-- groove/distance.Check -/
noncomputable def m_distance_Check (p0 : List (List UInt8)) (p1 : Int) : Option (Int) :=
  (m_distance_listed p0).bind fun x2 =>
  if x2 ≠ 0 then
    some x2
  else
    (y_distance_pairs p0).bind fun L4 =>
    lpO (forL (S := Unit) (X := Unit) (fun a6 (x8 : Int) =>
        if x8 < p1 then
          some (Stp.exit ())
        else
          some (Stp.next ())) L4 ()) (fun a12 =>
        some 0) fun a14 =>
        some 23

set_option maxHeartbeats 8000000 in
set_option maxRecDepth 100000 in
theorem w_distance_Check {p0 : List (List UInt8)} {p1 : Int} {r : Int} (h : m_distance_Check p0 p1 = some r) : Pure Try.prog 33 [slE eStr p0, HV.int .i64 p1] (· = HV.int .i64 r) := by
  unfold m_distance_Check at h
  refine Pure.of_body Try.func33 rfl rfl (Nat.le_of_ble_eq_true rfl) fun hf => ?_
  unfold Try.f33
  dsimp only [enumS, Nat.reduceAdd]
  refine AW.rgs rfl fun K hK => ?_
  refine b_op rfl (o_box rfl rfl rfl ?_)
  refine b_op rfl (o_alloc (fid := 33) (zs := [HV.int .i64 0]) 33004 rfl rfl ty27 rfl (fun v1 => ?_))
  refine b_nil (hK _ (AW.to (to_le (s' := ⟨[(0, slE eStr p0), (3, HV.fptr [HV.int .i64 p1] 0), (4, HV.ptr 33004 v1 0)], [(33004, v1, .arr 1 27 [HV.int .i64 0])]⟩) (AS.le_of ⟨rfl, rfl, rfl, trivial⟩ ⟨rfl, trivial⟩) ?_)))
  clear hK K
  refine AW.seq ?_
  refine AW.rgs rfl fun K hK => ?_
  refine mv rfl rfl ?_
  obtain ⟨x2, h3, h⟩ := bS h
  refine b_op rfl (o_call rfl rfl rfl rfl (ACallD.pure0 (w_distance_listed h3)) ?_)
  refine mv rfl rfl ?_
  refine b_nil (hK _ (AW.to (to_le (s' := ⟨[(0, slE eStr p0), (3, HV.fptr [HV.int .i64 p1] 0), (4, HV.ptr 33004 v1 0), (5, HV.int .i64 x2)], [(33004, v1, .arr 1 27 [HV.int .i64 0])]⟩) (AS.le_of ⟨rfl, rfl, rfl, rfl, trivial⟩ ⟨rfl, trivial⟩) ?_)))
  clear hK K
  refine AW.rgs rfl fun K hK => ?_
  refine mv rfl rfl ?_
  refine bv rfl (v_bin rfl rfl b_neq) ?_
  refine b_nil (hK _ (AW.to (to_le (s' := ⟨[(0, slE eStr p0), (3, HV.fptr [HV.int .i64 p1] 0), (4, HV.ptr 33004 v1 0), (5, HV.int .i64 x2), (10, HV.bool (decide (x2 ≠ 0)))], [(33004, v1, .arr 1 27 [HV.int .i64 0])]⟩) (AS.le_of ⟨rfl, rfl, rfl, rfl, rfl, trivial⟩ ⟨rfl, trivial⟩) ?_)))
  clear hK K
  refine AW.cond rfl (fun hc => ?_) (fun hc => ?_)
  · have hc := of_decide_eq_true hc
    have h := ifT hc h
    refine AW.rgs rfl fun K hK => ?_
    refine mv rfl rfl ?_
    refine b_op rfl (o_store (cs := [HV.int .i64 x2]) (zs := [HV.int .i64 x2]) rfl rfl rfl ty27 rfl rfl rfl rfl rfl ?_)
    refine b_nil (hK _ (AW.to (to_le (s' := ⟨[(4, HV.ptr 33004 v1 0)], [(33004, v1, .arr 1 27 [HV.int .i64 x2])]⟩) (AS.le_of ⟨rfl, trivial⟩ ⟨rfl, trivial⟩) ?_)))
    clear hK K
    refine AW.ret ?_
    have h := Option.some.inj h
    subst h
    exact ret_pure (hs := [HV.int .i64 x2]) (q := HV.int .i64 x2) (.inr rfl) (resP ty27 rfl rfl (l_lit rfl rfl) rfl) rfl trivial
  · have hc := of_decide_eq_false hc
    have h := ifF hc h
    refine AW.skip ?_
    refine AW.seq ?_
    refine AW.rgs rfl fun K hK => ?_
    refine mv rfl rfl ?_
    refine b_op rfl (o_call rfl rfl rfl rfl (ACallD.pure0 (w_distance_pairs p0)) ?_)
    refine b_nil (hK _ (AW.to (to_le (s' := ⟨[(3, HV.fptr [HV.int .i64 p1] 0), (4, HV.ptr 33004 v1 0), (13, HV.fn (.func 123) [] [HV.fptr [slE eStr p0] 0])], [(33004, v1, .arr 1 27 [HV.int .i64 0])]⟩) (AS.le_of ⟨rfl, rfl, rfl, trivial⟩ ⟨rfl, trivial⟩) ?_)))
    clear hK K
    refine AW.block ?_
    refine AW.to (to_le (s' := ⟨[(3, HV.fptr [HV.int .i64 p1] 0), (4, HV.ptr 33004 v1 0), (13, HV.fn (.func 123) [] [HV.fptr [slE eStr p0] 0])], [(33004, v1, .arr 1 27 [HV.int .i64 0])]⟩) (AS.le_of ⟨rfl, rfl, rfl, trivial⟩ ⟨rfl, trivial⟩) ?_)
    obtain ⟨L4, h5, h⟩ := bS h
    refine AW.rangeY (c := .ret) 33901 (fun x => [HV.int .i64 x]) h (by first | exact up_then | exact up_to) rfl (iy_distance_pairs h5) (S := Unit) (V := Unit) (fun a v => [(33004, v1, .arr 1 27 [HV.int .i64 0])]) () (X := Unit) (W := Unit) (fun a v => [(33004, v1, .arr 1 27 [HV.int .i64 23])]) (fun _ _ => rfl) (fun _ _ => rfl) rfl (fun _ => rfl) (fun a12 w13 h => ?_) (fun a14 w15 h => ?_) (fun Lo l11 v9 a6 x8 w7 st10 h => ?_)
    · refine AW.rgs rfl fun K hK => ?_
      refine b_op rfl (o_store (cs := [HV.int .i64 0]) (zs := [HV.int .i64 0]) rfl rfl rfl ty27 rfl rfl rfl rfl rfl ?_)
      refine b_nil (hK _ (AW.to (to_le (s' := ⟨[(4, HV.ptr 33004 v1 0)], [(33004, v1, .arr 1 27 [HV.int .i64 0])]⟩) (AS.le_of ⟨rfl, trivial⟩ ⟨rfl, trivial⟩) ?_)))
      clear hK K
      refine AW.ret ?_
      have h := Option.some.inj h
      subst h
      exact ret_pure (hs := [HV.int .i64 0]) (q := HV.int .i64 0) (.inr rfl) (resP ty27 rfl rfl (l_lit rfl rfl) rfl) rfl trivial
    · refine AW.ret ?_
      have h := Option.some.inj h
      subst h
      exact ret_pure (hs := [HV.int .i64 23]) (q := HV.int .i64 23) (.inr rfl) (resP ty27 rfl rfl (l_lit rfl rfl) rfl) rfl trivial
    · refine AW.rg rfl fun K hK => ?_
      refine mv rfl rfl ?_
      refine b_nil (hK _ ?_)
      clear hK K
      refine ⟨rfl, rfl, ?_⟩
      refine AW.block ?_
      refine AW.rgs rfl fun K hK => ?_
      refine mv rfl rfl ?_
      refine bv rfl (v_loadF ty3 rfl (l_lit rfl rfl)) ?_
      refine bv rfl (v_bin rfl rfl b_lss) ?_
      refine b_nil (hK _ (AW.to (to_le (s' := ⟨[(3, HV.fptr [HV.int .i64 p1] 0), (4, HV.ptr 33004 v1 0), (14, HV.int .i64 x8), (17, HV.bool (decide (x8 < p1)))], [(33901, v9, Lo .busy none), (33004, v1, .arr 1 27 [HV.int .i64 0])]⟩) (AS.le_of ⟨rfl, rfl, rfl, rfl, trivial⟩ ⟨rfl, rfl, trivial⟩) ?_)))
      clear hK K
      refine AW.cond rfl (fun hc => ?_) (fun hc => ?_)
      · have hc := of_decide_eq_true hc
        have h := ifT hc h
        refine AW.rgs rfl fun K hK => ?_
        refine b_op rfl (o_store (cs := [HV.int .i64 23]) (zs := [HV.int .i64 23]) rfl rfl rfl ty27 rfl rfl rfl rfl rfl ?_)
        refine b_nil (hK _ (AW.to (to_le (s' := ⟨[(4, HV.ptr 33004 v1 0)], [(33901, v9, Lo .busy none), (33004, v1, .arr 1 27 [HV.int .i64 23])]⟩) (AS.le_of ⟨rfl, trivial⟩ ⟨rfl, rfl, trivial⟩) ?_)))
        clear hK K
        refine AW.ret ?_
        exact ⟨rfl, (), (), h, (AS.le_of trivial ⟨rfl, rfl, trivial⟩)⟩
      · have hc := of_decide_eq_false hc
        have h := ifF hc h
        refine AW.skip ?_
        exact ⟨(), (), h, (AS.le_of trivial ⟨rfl, rfl, trivial⟩)⟩

/-- groove/grooveref46.Check -/
noncomputable def m_ref46_Check (p0 : List (List UInt8)) (p1 : Int) : Option (Int) :=
  (m_ref46_checkList p0).bind fun x1 =>
  if x1 ≠ 0 then
    some x1
  else
    lpO (loopW (S := Int) (X := Ou (Unit) (Int)) (fun a3 =>
        if a3 < ((p0).length : Int) then
          lpO (loopW (S := Int) (X := Ou (Int) (Int)) (fun a7 =>
              if a7 < a3 then
                (idx p0 a3).bind fun x11 =>
                (idx p0 a7).bind fun x13 =>
                (m_ref46_hamming x11 x13).bind fun x15 =>
                if x15 < p1 then
                  some (Stp.exit (Ou.ret 23))
                else
                  some (Stp.next (IntKind.wrap .i64 (a7 + 1)))
              else
                some (Stp.exit (Ou.go a3))) 0) (fun a17 =>
              some (Stp.next (IntKind.wrap .i64 (a17 + 1)))) (fun r => some (Stp.exit (Ou.ret r)))
        else
          some (Stp.exit (Ou.go ()))) 0) (fun a19 =>
        some 0) some

set_option maxHeartbeats 8000000 in
set_option maxRecDepth 100000 in
theorem w_ref46_Check {p0 : List (List UInt8)} {p1 : Int} {r : Int} (h : m_ref46_Check p0 p1 = some r) : Pure Try.prog 34 [slE eStr p0, HV.int .i64 p1] (· = HV.int .i64 r) := by
  unfold m_ref46_Check at h
  refine Pure.of_body Try.func34 rfl rfl (Nat.le_of_ble_eq_true rfl) fun hf => ?_
  unfold Try.f34
  dsimp only [enumS, Nat.reduceAdd]
  refine AW.rgs rfl fun K hK => ?_
  refine mv rfl rfl ?_
  refine b_nil (hK _ (AW.to (to_le (s' := ⟨[(0, slE eStr p0), (1, HV.int .i64 p1)], []⟩) (AS.le_of ⟨rfl, rfl, trivial⟩ trivial) ?_)))
  clear hK K
  refine AW.seq ?_
  refine AW.rgs rfl fun K hK => ?_
  refine mv rfl rfl ?_
  obtain ⟨x1, h2, h⟩ := bS h
  refine b_op rfl (o_call rfl rfl rfl rfl (ACallD.pure0 (w_ref46_checkList h2)) ?_)
  refine mv rfl rfl ?_
  refine b_nil (hK _ (AW.to (to_le (s' := ⟨[(0, slE eStr p0), (1, HV.int .i64 p1), (5, HV.int .i64 x1)], []⟩) (AS.le_of ⟨rfl, rfl, rfl, trivial⟩ trivial) ?_)))
  clear hK K
  refine AW.rgs rfl fun K hK => ?_
  refine mv rfl rfl ?_
  refine bv rfl (v_bin rfl rfl b_neq) ?_
  refine b_nil (hK _ (AW.to (to_le (s' := ⟨[(0, slE eStr p0), (1, HV.int .i64 p1), (5, HV.int .i64 x1), (11, HV.bool (decide (x1 ≠ 0)))], []⟩) (AS.le_of ⟨rfl, rfl, rfl, rfl, trivial⟩ trivial) ?_)))
  clear hK K
  refine AW.cond rfl (fun hc => ?_) (fun hc => ?_)
  · have hc := of_decide_eq_true hc
    have h := ifT hc h
    refine AW.rgs rfl fun K hK => ?_
    refine mv rfl rfl ?_
    refine mv rfl rfl ?_
    refine b_nil (hK _ (AW.to (to_le (s' := ⟨[(4, HV.int .i64 x1)], []⟩) (AS.le_of ⟨rfl, trivial⟩ trivial) ?_)))
    clear hK K
    refine AW.ret ?_
    have h := Option.some.inj h
    subst h
    exact ret_pure (hs := [HV.int .i64 x1]) (q := HV.int .i64 x1) (.inr rfl) (resT rfl rfl) rfl trivial
  · have hc := of_decide_eq_false hc
    have h := ifF hc h
    refine AW.skip ?_
    refine AW.seq ?_
    refine AW.rgs rfl fun K hK => ?_
    refine mv rfl rfl ?_
    refine b_nil (hK _ (AW.to (to_le (s' := ⟨[(0, slE eStr p0), (1, HV.int .i64 p1), (6, HV.int .i64 0)], []⟩) (AS.le_of ⟨rfl, rfl, rfl, trivial⟩ trivial) ?_)))
    clear hK K
    refine AW.lpR h (by first | exact up_then | exact up_to) (S := Int) (V := Unit) (fun a v => ⟨[(0, slE eStr p0), (1, HV.int .i64 p1), (6, HV.int .i64 a)], []⟩) ?_ (X := Unit) (W := Unit) (fun a v => ⟨[], []⟩) (fun a19 w20 h => ?_) (fun a3 w4 st5 h hr6=> ?_)
    · exact to_le (s' := ⟨[(0, slE eStr p0), (1, HV.int .i64 p1), (6, HV.int .i64 0)], []⟩) (AS.le_of ⟨rfl, rfl, rfl, trivial⟩ trivial) ⟨(), rfl⟩
    · refine AW.rgs rfl fun K hK => ?_
      refine mv rfl rfl ?_
      refine b_nil (hK _ (AW.to (to_le (s' := ⟨[(4, HV.int .i64 0)], []⟩) (AS.le_of ⟨rfl, trivial⟩ trivial) ?_)))
      clear hK K
      refine AW.ret ?_
      have h := Option.some.inj h
      subst h
      exact ret_pure (hs := [HV.int .i64 0]) (q := HV.int .i64 0) (.inr rfl) (resT rfl rfl) rfl trivial
    · refine AW.seq ?_
      refine AW.rgs rfl fun K hK => ?_
      refine mv rfl rfl ?_
      refine mv rfl rfl ?_
      refine bv rfl (v_lenF rfl rfl ty30 rfl) ?_
      refine bv rfl (v_bin rfl rfl b_lss) ?_
      refine b_nil (hK _ (AW.to (to_le (s' := ⟨[(0, slE eStr p0), (1, HV.int .i64 p1), (6, HV.int .i64 a3), (16, HV.bool (decide (a3 < ((p0).length : Int))))], []⟩) (AS.le_of ⟨rfl, rfl, rfl, rfl, trivial⟩ trivial) ?_)))
      clear hK K
      refine AW.cond rfl (fun hc => ?_) (fun hc => ?_)
      · have hc := of_decide_eq_true hc
        have h := ifT hc h
        refine AW.skip ?_
        refine AW.seq (AW.block ?_)
        refine AW.rgs rfl fun K hK => ?_
        refine mv rfl rfl ?_
        refine b_nil (hK _ (AW.to (to_le (s' := ⟨[(0, slE eStr p0), (1, HV.int .i64 p1), (6, HV.int .i64 a3), (7, HV.int .i64 0)], []⟩) (AS.le_of ⟨rfl, rfl, rfl, rfl, trivial⟩ trivial) ?_)))
        clear hK K
        refine AW.lpR h (by first | exact up_then | exact up_to) (S := Int) (V := Unit) (fun a v => ⟨[(0, slE eStr p0), (1, HV.int .i64 p1), (6, HV.int .i64 a3), (7, HV.int .i64 a)], []⟩) ?_ (X := Int) (W := Unit) (fun a v => ⟨[(0, slE eStr p0), (1, HV.int .i64 p1), (6, HV.int .i64 a)], []⟩) (fun a17 w18 h => ?_) (fun a7 w8 st9 h hr10=> ?_)
        · exact to_le (s' := ⟨[(0, slE eStr p0), (1, HV.int .i64 p1), (6, HV.int .i64 a3), (7, HV.int .i64 0)], []⟩) (AS.le_of ⟨rfl, rfl, rfl, rfl, trivial⟩ trivial) ⟨(), rfl⟩
        · refine AW.rg rfl fun K hK => ?_
          refine mv rfl rfl ?_
          refine bv rfl (v_bin rfl rfl b_add) ?_
          refine mv rfl rfl ?_
          refine b_nil (hK _ ?_)
          clear hK K
          exact to_le (s' := ⟨[(0, slE eStr p0), (1, HV.int .i64 p1), (6, HV.int .i64 (IntKind.wrap .i64 (a17 + 1)))], []⟩) (AS.le_of ⟨rfl, rfl, rfl, trivial⟩ trivial) ⟨IntKind.wrap .i64 (a17 + 1), (), h, rfl⟩
        · refine AW.seq ?_
          refine AW.rgs rfl fun K hK => ?_
          refine mv rfl rfl ?_
          refine mv rfl rfl ?_
          refine bv rfl (v_bin rfl rfl b_lss) ?_
          refine b_nil (hK _ (AW.to (to_le (s' := ⟨[(0, slE eStr p0), (1, HV.int .i64 p1), (6, HV.int .i64 a3), (7, HV.int .i64 a7), (21, HV.bool (decide (a7 < a3)))], []⟩) (AS.le_of ⟨rfl, rfl, rfl, rfl, rfl, trivial⟩ trivial) ?_)))
          clear hK K
          refine AW.cond rfl (fun hc => ?_) (fun hc => ?_)
          · have hc := of_decide_eq_true hc
            have h := ifT hc h
            refine AW.skip ?_
            refine AW.seq (AW.block ?_)
            refine AW.dgs 11 follows rfl rfl fun K hK => ?_
            refine sm rfl rfl ?_
            refine sm rfl rfl ?_
            obtain ⟨x11, h12, h⟩ := bS h
            refine sv rfl (v_idxF ty30 es30 rfl rfl (idx_lt h12)) ?_
            refine sv rfl (v_loadF ty9 rfl (l_cell eStr h12 (o := 0) rfl rfl)) ?_
            refine sm rfl rfl ?_
            refine sm rfl rfl ?_
            obtain ⟨x13, h14, h⟩ := bS h
            refine sv rfl (v_idxF ty30 es30 rfl rfl (idx_lt h14)) ?_
            refine sv rfl (v_loadF ty9 rfl (l_cell eStr h14 (o := 0) rfl rfl)) ?_
            obtain ⟨x15, h16, h⟩ := bS h
            refine s_op rfl rfl (ops_call rfl rfl rfl rfl (ACallD.pure0 (w_ref46_hamming h16)) ?_)
            refine sm rfl rfl ?_
            refine sv rfl (v_bin rfl rfl b_lss) ?_
            refine s_nil ?_
            refine b_nil (hK _ (AW.to (to_le (s' := ⟨[(0, slE eStr p0), (1, HV.int .i64 p1), (6, HV.int .i64 a3), (7, HV.int .i64 a7), (34, HV.bool (decide (x15 < p1)))], []⟩) (AS.le_of ⟨rfl, rfl, rfl, rfl, rfl, trivial⟩ trivial) ?_)))
            clear hK K
            refine AW.cond rfl (fun hc => ?_) (fun hc => ?_)
            · have hc := of_decide_eq_true hc
              have h := ifT hc h
              refine AW.rgs rfl fun K hK => ?_
              refine mv rfl rfl ?_
              refine b_nil (hK _ (AW.to (to_le (s' := ⟨[(4, HV.int .i64 23)], []⟩) (AS.le_of ⟨rfl, trivial⟩ trivial) ?_)))
              clear hK K
              have h := hr10 _ h
              have h := hr6 _ h
              refine AW.ret ?_
              have h := Option.some.inj h
              subst h
              exact ret_pure (hs := [HV.int .i64 23]) (q := HV.int .i64 23) (.inr rfl) (resT rfl rfl) rfl trivial
            · have hc := of_decide_eq_false hc
              have h := ifF hc h
              refine AW.skip ?_
              refine AW.rg rfl fun K hK => ?_
              refine mv rfl rfl ?_
              refine bv rfl (v_bin rfl rfl b_add) ?_
              refine mv rfl rfl ?_
              refine b_nil (hK _ ?_)
              clear hK K
              exact to_le (s' := ⟨[(0, slE eStr p0), (1, HV.int .i64 p1), (6, HV.int .i64 a3), (7, HV.int .i64 (IntKind.wrap .i64 (a7 + 1)))], []⟩) (AS.le_of ⟨rfl, rfl, rfl, rfl, trivial⟩ trivial) ⟨IntKind.wrap .i64 (a7 + 1), (), h, rfl⟩
          · have hc := of_decide_eq_false hc
            have h := ifF hc h
            refine AW.exit ?_
            exact to_le (s' := ⟨[(0, slE eStr p0), (1, HV.int .i64 p1), (6, HV.int .i64 a3)], []⟩) (AS.le_of ⟨rfl, rfl, rfl, trivial⟩ trivial) ⟨a3, (), h, rfl⟩
      · have hc := of_decide_eq_false hc
        have h := ifF hc h
        refine AW.exit ?_
        exact to_le (s' := ⟨[], []⟩) (AS.le_of trivial trivial) ⟨(), (), h, rfl⟩

end Go.AW

/- Laws of the loops of models. -/
namespace Go.AW
open Go

/-- counting up, with an invariant -/
theorem loopN {S X : Type} {body : S → Option (Stp S X)} {Q : X → Prop} (n : Nat) (I : Nat → S → Prop)
    (step : ∀ i s, i < n → I i s → (∃ s', body s = some (.next s') ∧ I (i + 1) s') ∨ ∃ x, body s = some (.exit x) ∧ Q x) (fin : ∀ s, I n s → ∃ x, body s = some (.exit x) ∧ Q x) :
    ∀ (k : Nat) (s : S), k ≤ n → I k s → ∃ x, loopW body s = some x ∧ Q x := by
  intro k s hk h
  obtain ⟨d, rfl⟩ : ∃ d, n = k + d := ⟨n - k, by omega⟩
  induction d generalizing k s with
  | zero =>
    obtain ⟨x, h1, h2⟩ := fin s h
    exact ⟨x, loopW_exit h1, h2⟩
  | succ d ih =>
    rcases step k s (by omega) h with ⟨s', h1, h2⟩ | ⟨x, h1, h2⟩
    · have e : k + (d + 1) = (k + 1) + d := by omega
      rw [e] at step fin
      obtain ⟨x, h3, h4⟩ := ih (k + 1) s' h2 step fin (by omega)
      exact ⟨x, by rw [loopW_next h1]; exact h3, h4⟩
    · exact ⟨x, loopW_exit h1, h2⟩

/-- a loop that folds -/
theorem loop_fold {S A X : Type} {body : S → Option (Stp S X)} (st : Nat → A → S) (n : Nat) (g : A → Nat → A) (fin : A → X) (P : A → Prop) (hP : ∀ i a, i < n → P a → P (g a i))
    (h : ∀ i a, i < n → P a → body (st i a) = some (.next (st (i + 1) (g a i)))) (hf : ∀ a, P a → body (st n a) = some (.exit (fin a))) (a : A) (ha : P a) {s0 : S} (hs0 : s0 = st 0 a) : loopW body s0 = some (fin ((List.range n).foldl g a)) := by
  subst hs0
  have hPk : ∀ i, i ≤ n → P ((List.range i).foldl g a) := by
    intro i
    induction i with
    | zero => exact fun _ => ha
    | succ i ih => intro hi; rw [List.range_succ, List.foldl_append]; exact hP i _ (by omega) (ih (by omega))
  obtain ⟨x, hx, hq⟩ := loopN (body := body) (Q := fun x => x = fin ((List.range n).foldl g a)) n (fun i s => s = st i ((List.range i).foldl g a)) (fun i s hi hs => by
    subst hs
    refine .inl ⟨_, h i _ hi (hPk i (by omega)), ?_⟩
    rw [List.range_succ, List.foldl_append]
    rfl) (fun s hs => by subst hs; exact ⟨_, hf _ (hPk n (Nat.le_refl _)), rfl⟩) 0 (st 0 a) (Nat.zero_le _) rfl
  rw [hx, hq]

/-- a loop that looks for something -/
theorem loop_any {S X : Type} {body : S → Option (Stp S X)} (st : Nat → S) (n : Nat) (p : Nat → Bool) (xr xf : X) (h : ∀ i, i < n → body (st i) = if p i = true then some (.exit xr) else some (.next (st (i + 1)))) (hf : body (st n) = some (.exit xf)) {s0 : S} (hs0 : s0 = st 0) :
    loopW body s0 = some (if (List.range n).any p = true then xr else xf) := by
  subst hs0
  obtain ⟨x, hx, hq⟩ := loopN (body := body) (Q := fun x => x = if (List.range n).any p = true then xr else xf) n (fun i s => s = st i ∧ (List.range i).any p = false) (fun i s hi ⟨hs, ha⟩ => by
    subst hs
    rw [h i hi]
    by_cases hp : p i = true
    · refine .inr ⟨xr, by rw [if_pos hp], ?_⟩
      rw [if_pos]
      exact List.any_eq_true.2 ⟨i, List.mem_range.2 hi, hp⟩
    · refine .inl ⟨_, by rw [if_neg hp], rfl, ?_⟩
      rw [List.range_succ, List.any_append, ha]
      simpa using hp) (fun s ⟨hs, ha⟩ => by subst hs; exact ⟨xf, hf, by rw [if_neg]; rw [ha]; simp⟩) 0 (st 0) (Nat.zero_le _) ⟨rfl, rfl⟩
  rw [hx, hq]

/-- a loop whose states are known -/
theorem loop_is {S X : Type} {body : S → Option (Stp S X)} (st : Nat → S) (n : Nat) (x : X) (h : ∀ i, i < n → body (st i) = some (.next (st (i + 1)))) (hf : body (st n) = some (.exit x)) {s0 : S} (hs0 : s0 = st 0) : loopW body s0 = some x := by
  subst hs0
  obtain ⟨y, hy, hq⟩ := loopN (body := body) (Q := fun y => y = x) n (fun i s => s = st i) (fun i s hi hs => by subst hs; exact .inl ⟨_, h i hi, rfl⟩) (fun s hs => by subst hs; exact ⟨x, hf, rfl⟩) 0 (st 0) (Nat.zero_le _) rfl
  rw [hy, hq]

theorem bindL {X R : Type} {o : Option X} {x : X} {M : X → Option R} {r : Option R} (h : o = some x) (k : M x = r) : o.bind M = r := by rw [h]; exact k
theorem lpL {V R Y : Type} {o : Option (Ou V R)} {x : Ou V R} {M : V → Option Y} {Rt : R → Option Y} {r : Option Y} (h : o = some x) (k : lpO (some x) M Rt = r) : lpO o M Rt = r := by rw [h]; exact k

theorem forL_fold {S α X : Type} {body : S → α → Option (Stp S X)} (f : S → α → S) (P : S → Prop) : ∀ (L : List α) (s : S), (∀ s x, x ∈ L → P s → body s x = some (.next (f s x)) ∧ P (f s x)) → P s → forL body L s = some (.go (L.foldl f s))
  | [], _, _, _ => rfl
  | x :: L, s, h, hs => by
    obtain ⟨h1, h2⟩ := h s x (List.mem_cons_self ..) hs
    simp only [forL, h1]
    exact forL_fold f P L _ (fun s y hy => h s y (List.mem_cons_of_mem _ hy)) h2

theorem forL_any {α X : Type} {body : Unit → α → Option (Stp Unit X)} (p : α → Bool) (xr : X) (h : ∀ s x, body s x = if p x = true then some (.exit xr) else some (.next ())) : ∀ (L : List α), forL body L () = some (if L.any p = true then .ret xr else .go ())
  | [] => rfl
  | x :: L => by
    simp only [forL, h]
    by_cases hp : p x = true
    · simp only [if_pos hp, List.any_cons, hp, Bool.true_or, if_true]
    · have hp' := Bool.eq_false_iff.2 hp
      simp only [hp', forL_any p xr h L, List.any_cons, Bool.false_or, Bool.false_eq_true, if_false]

theorem nx {i n : Nat} (hn : n ≤ 9223372036854775807) (h : i < n) : IntKind.wrap .i64 ((i : Int) + 1) = ((i + 1 : Nat) : Int) := by
  rw [w64 (by omega) (by omega)]; omega
theorem ix {α : Type} {l : List α} {i : Nat} (h : i < l.length) : idx l (i : Int) = some l[i] := by rw [idx_nat, List.getElem?_eq_getElem h]
theorem ix0 {α : Type} {l : List α} (h : 0 < l.length) : idx l 0 = some l[0] := ix h
theorem lt_int {i n : Nat} (h : i < n) : (i : Int) < (n : Int) := by omega
theorem not_lt_int (n : Nat) : ¬ (n : Int) < (n : Int) := by omega
end Go.AW

namespace Go.AW
open Go Go.Proofs

def leastN (l : List (List UInt8)) : Int := (pairsL l).foldl min ((l.headD []).length : Int)

theorem w72 (l : List (List UInt8)) (h0 : 0 < l.length) (hlen : ∀ u ∈ l, ∀ v ∈ l, u.length = v.length) : Pure Try.prog 72 [strs l] (· = .int .i64 (leastN l)) := by
  refine Pure.of_body Try.func72 rfl rfl (Nat.le_of_ble_eq_true rfl) fun hf => ?_
  have hm : l.length ≤ 9223372036854775807 := hf.1.1
  have hhd : l.headD [] = l[0] := by cases l with
    | nil => simp at h0
    | cons x xs => rfl
  obtain ⟨f, _⟩ : ∃ f : Nat, True := ⟨72, trivial⟩
  unfold Try.f72
  dsimp only [enumS]
  refine AW.rseq (fid := f) (mt := []) [0] rfl fun K hK => ?_
  simp only [go_sem, reduceIte, Nat.reduceEqDiff, Int.reduceLE]
  refine hK _ ?_
  clear hK K
  refine AW.rseq (fid := f) (mt := []) [0, 3] rfl fun K hK => ?_
  simp only [go_sem, strs, reduceIte, Nat.reduceEqDiff, Int.reduceLE, Int.toNat_zero, Nat.zero_mul, strs_at h0, HV.one]
  refine ⟨by omega, fun v1 => ⟨rfl, by simp, hK _ ?_⟩⟩
  clear hK K
  refine AW.seq ?_
  refine AW.rseq (fid := f) (mt := []) [3, 10] rfl fun K hK => ?_
  simp only [go_sem, reduceIte, Nat.reduceEqDiff, Int.reduceLE]
  refine (w74 l).use fun r hr => ?_
  subst hr
  refine hK _ ?_
  clear hK K
  refine AW.block ?_
  have n1 : f * 1000 + 900 ≠ f * 1000 + 3 := by simp
  refine AW.rangeFuncL (f * 1000 + 900) rfl fun fn lver L hL => ?_
  dsimp only [List.set, List.length_cons, List.length_nil, Nat.reduceAdd] at hL ⊢
  refine w123 hm hlen (fun pre H => hget H (f * 1000 + 3) = some (v1, .arr 1 3 [.int .i64 (pre.foldl min (l[0].length : Int))]) ∧ hget H (f * 1000 + 900) = some (lver, L .ready none)) (fun _ => False) ⟨?_, ?_⟩ ?_ ?_ (fun _ h => h.elim)
  · rw [hget_hset, if_neg (Ne.symm n1)]; exact hget_0
  · rw [hget_hset, if_pos rfl]
  · rintro pre x rest H1 hx ⟨ha, hlp⟩
    rw [hL] at hlp
    refine ⟨_, _, _, _, _, _, hlp, rfl, by simp, fun ll => ?_⟩
    dsimp only [setPs]
    refine AW.region (fid := f) (mt := []) [3, 4] rfl fun K hK => ?_
    simp only [go_sem, reduceIte, Nat.reduceEqDiff, Int.reduceLE]
    refine hK _ ?_
    clear hK K
    refine ⟨rfl, hlp, ?_⟩
    refine AW.block ?_
    refine AW.region (fid := f) (mt := []) [3] rfl fun K hK => ?_
    simp only [go_sem, reduceIte, Nat.reduceEqDiff, Int.reduceLE, hget_hset, Nat.add_left_cancel_iff, ha, List.getElem?_cons_zero, Nat.add_zero, HV.one, List.length_cons, List.length_nil, Nat.zero_add, Nat.reduceAdd, Nat.reduceLeDiff, List.set_cons_zero]
    refine ⟨.inl trivial, hK _ ?_⟩
    clear hK K
    refine ⟨?_, true, rfl, fun _ => ⟨?_, ?_⟩, fun e => by cases e⟩
    · rw [hget_hset, if_neg n1, hget_hset, if_pos rfl]
    · rw [hget_hset, if_neg (Ne.symm n1), hget_hset, if_pos rfl, List.foldl_append]
      rfl
    · rw [hget_hset, if_pos rfl, hL]
  · rintro H1 ⟨ha, hlp⟩
    refine ⟨.ready, none, hlp, by simp, ?_⟩
    dsimp only [blockQ, thenQ]
    clear hL
    refine AW.rseq (fid := f) (mt := []) [2] rfl fun K hK => ?_
    simp only [go_sem, reduceIte, Nat.reduceEqDiff, Int.reduceLE, hget_hset, Nat.add_left_cancel_iff, ha, List.getElem?_cons_zero, Nat.add_zero]
    refine hK _ ?_
    clear hK K
    refine AW.ret ⟨.inr rfl, ?_⟩
    simp only [go_sem, reduceIte, Nat.reduceEqDiff]
    exact ⟨_, [], Conv.drop (fun _ _ h => by cases h), by simp only [leastN, hhd], trivial, rfl⟩

def leastE (l : List (List UInt8)) : Int × Int := if listedE l ≠ 0 then (0, listedE l) else if l.length < 2 then (0, 5) else (leastN l, 0)

theorem same_len {l : List (List UInt8)} (h : listedE l = 0) : ∀ u ∈ l, ∀ v ∈ l, u.length = v.length := by
  unfold listedE at h
  split at h
  · cases h
  · split at h
    · rename_i hw
      intro u hu v hv
      rw [hw u hu, hw v hv]
    · cases h
end Go.AW

namespace Go.AW
open Go Go.Proofs
set_option linter.unusedSimpArgs false

theorem w23 (l : List (List UInt8)) : Pure Try.prog 23 [strs l] (· = pairOf (leastE l)) := by
  refine Pure.of_body Try.func23 rfl rfl (Nat.le_of_ble_eq_true rfl) fun hf => ?_
  unfold Try.f23
  dsimp only [enumS]
  refine AW.rseq (fid := 23) (mt := []) [0] rfl fun K hK => ?_
  simp only [go_sem, reduceIte, Nat.reduceEqDiff, Int.reduceLE]
  refine hK _ ?_
  clear hK K
  refine AW.seq ?_
  refine AW.rseq (fid := 23) (mt := []) [0, 4] rfl fun K hK => ?_
  simp only [go_sem, reduceIte, Nat.reduceEqDiff, Int.reduceLE]
  refine (w71 l).use fun r hr => ?_
  subst hr
  refine hK _ ?_
  clear hK K
  refine AW.rseq (fid := 23) (mt := []) [0, 4, 8] rfl fun K hK => ?_
  simp only [go_sem, reduceIte, Nat.reduceEqDiff, Int.reduceLE]
  refine hK _ ?_
  clear hK K
  refine AW.cond rfl (fun hc => ?_) (fun hc => ?_)
  · have hne : listedE l ≠ 0 := by simpa using hc
    refine AW.rseq (fid := 23) (mt := []) [2, 3] rfl fun K hK => ?_
    simp only [go_sem, reduceIte, Nat.reduceEqDiff, Int.reduceLE]
    refine hK _ ?_
    clear hK K
    refine AW.ret ⟨.inr rfl, ?_⟩
    simp only [go_sem, reduceIte, Nat.reduceEqDiff]
    exact ⟨_, _, Conv.refl _ _, by simp [pairOf, leastE, hne], ⟨trivial, trivial, trivial⟩, rfl⟩
  · have heq : listedE l = 0 := by simpa using hc
    refine AW.skip ?_
    refine AW.seq ?_
    refine AW.rseq (fid := 23) (mt := []) [0, 12] rfl fun K hK => ?_
    simp only [go_sem, reduceIte, Nat.reduceEqDiff, Int.reduceLE, strs]
    refine hK _ ?_
    clear hK K
    refine AW.cond rfl (fun hc => ?_) (fun hc => ?_)
    · have h2 : l.length < 2 := by have := of_decide_eq_true hc; omega
      refine AW.rseq (fid := 23) (mt := []) [2, 3] rfl fun K hK => ?_
      simp only [go_sem, reduceIte, Nat.reduceEqDiff, Int.reduceLE]
      refine hK _ ?_
      clear hK K
      refine AW.ret ⟨.inr rfl, ?_⟩
      simp only [go_sem, reduceIte, Nat.reduceEqDiff]
      exact ⟨_, _, Conv.refl _ _, by simp [pairOf, leastE, heq, h2], ⟨trivial, trivial, trivial⟩, rfl⟩
    · have h2 : ¬ l.length < 2 := by have := of_decide_eq_false hc; omega
      refine AW.skip ?_
      refine AW.rseq (fid := 23) (mt := []) [2, 3] rfl fun K hK => ?_
      simp only [go_sem, reduceIte, Nat.reduceEqDiff, Int.reduceLE]
      refine (w72 l (by omega) (same_len heq)).use fun r hr => ?_
      subst hr
      refine hK _ ?_
      clear hK K
      refine AW.ret ⟨.inr rfl, ?_⟩
      simp only [go_sem, reduceIte, Nat.reduceEqDiff]
      exact ⟨_, _, Conv.refl _ _, by simp [pairOf, leastE, heq, h2], ⟨trivial, trivial, trivial⟩, rfl⟩

end Go.AW

namespace Go.AW
open Go

theorem mem_pairs {l : List (List UInt8)} {x : Int} : x ∈ pairsL l ↔ ∃ i k, k < i ∧ i < l.length ∧ x = (ham (l.getD i []) (l.getD k []) : Int) := by
  simp only [pairsL, prows, prow, List.mem_flatMap, List.mem_map, List.mem_range]
  constructor
  · rintro ⟨i, hi, k, hk, rfl⟩
    exact ⟨i, k, hk, hi, rfl⟩
  · rintro ⟨i, k, hk, hi, rfl⟩
    exact ⟨i, hi, k, hk, rfl⟩

theorem foldl_min_le : ∀ (xs : List Int) (c : Int), xs.foldl min c ≤ c ∧ ∀ x ∈ xs, xs.foldl min c ≤ x
  | [], c => ⟨Int.le_refl _, fun x hx => by cases hx⟩
  | a :: xs, c => by
    obtain ⟨h1, h2⟩ := foldl_min_le xs (min c a)
    simp only [List.foldl_cons]
    refine ⟨Int.le_trans h1 (Int.min_le_left _ _), fun x hx => ?_⟩
    rcases List.mem_cons.1 hx with rfl | hx
    · exact Int.le_trans h1 (Int.min_le_right _ _)
    · exact h2 x hx

theorem foldl_min_mem : ∀ (xs : List Int) (c : Int), xs.foldl min c = c ∨ xs.foldl min c ∈ xs
  | [], c => .inl rfl
  | a :: xs, c => by
    simp only [List.foldl_cons]
    rcases foldl_min_mem xs (min c a) with h | h
    · rw [h]
      rcases Int.le_total c a with hca | hca
      · rw [Int.min_eq_left hca]; exact .inl rfl
      · rw [Int.min_eq_right hca]; exact .inr (List.mem_cons_self ..)
    · exact .inr (List.mem_cons_of_mem _ h)

/-- a list without one element -/
def cutL (l : List (List UInt8)) (k : Nat) : List (List UInt8) := l.take k ++ l.drop (k + 1)

theorem cutL_len {l : List (List UInt8)} {k : Nat} (hk : k < l.length) : (cutL l k).length = l.length - 1 := by
  simp [cutL]; omega

theorem cutL_get {l : List (List UInt8)} {k : Nat} (hk : k < l.length) (i : Nat) : (cutL l k).getD i [] = l.getD (if i < k then i else i + 1) [] := by
  simp only [cutL, List.getD_eq_getElem?_getD]
  by_cases hi : i < k
  · rw [if_pos hi, List.getElem?_append_left (by simp; omega), List.getElem?_take_of_lt hi]
  · rw [if_neg hi, List.getElem?_append_right (by simp; omega), List.getElem?_drop]
    have : k + 1 + (i - (l.take k).length) = i + 1 := by simp; omega
    rw [this]

theorem cutL_sub {l : List (List UInt8)} {k : Nat} : ∀ w ∈ cutL l k, w ∈ l := fun w hw => by
  rcases List.mem_append.1 hw with h | h
  · exact List.mem_of_mem_take h
  · exact List.mem_of_mem_drop h

theorem pairs_cut {l : List (List UInt8)} {k : Nat} (hk : k < l.length) {x : Int} (h : x ∈ pairsL (cutL l k)) : x ∈ pairsL l := by
  obtain ⟨i, j, hj, hi, rfl⟩ := mem_pairs.1 h
  rw [cutL_len hk] at hi
  rw [cutL_get hk, cutL_get hk]
  refine mem_pairs.2 ⟨if i < k then i else i + 1, if j < k then j else j + 1, ?_, ?_, rfl⟩
  · split <;> split <;> omega
  · split <;> omega

/-- without one of three or more texts -/
theorem least_cut {l : List (List UInt8)} {k : Nat} (hk : k < l.length) (h3 : 3 ≤ l.length) (hok : listedE l = 0) : (leastE (cutL l k)).2 = 0 ∧ (leastE l).1 ≤ (leastE (cutL l k)).1 ∧ (leastE l).2 = 0 := by
  have hs := same_len hok
  have hlen := cutL_len hk
  have h4 : l.length ≤ 4096 := by
    unfold listedE at hok
    split at hok
    · cases hok
    · omega
  have h0 : 0 < l.length := by omega
  have h0' : 0 < (cutL l k).length := by omega
  have hd : ∀ m : List (List UInt8), 0 < m.length → m.headD [] ∈ m := fun m hm => by
    cases m with
    | nil => simp at hm
    | cons a m => exact List.mem_cons_self ..
  have hok' : listedE (cutL l k) = 0 := by
    unfold listedE
    rw [if_neg (by omega), if_pos]
    intro w hw
    exact hs w (cutL_sub w hw) _ (cutL_sub _ (hd _ h0'))
  have e1 : leastE (cutL l k) = (leastN (cutL l k), 0) := by
    unfold leastE
    rw [if_neg (by rw [hok']; simp), if_neg (by omega)]
  have e2 : leastE l = (leastN l, 0) := by
    unfold leastE
    rw [if_neg (by rw [hok]; simp), if_neg (by omega)]
  rw [e1, e2]
  refine ⟨rfl, ?_, rfl⟩
  show leastN l ≤ leastN (cutL l k)
  have hh : ((cutL l k).headD []).length = (l.headD []).length := hs _ (cutL_sub _ (hd _ h0')) _ (hd _ h0)
  obtain ⟨hc, hx⟩ := foldl_min_le (pairsL l) ((l.headD []).length : Int)
  rcases foldl_min_mem (pairsL (cutL l k)) (((cutL l k).headD []).length : Int) with h | h
  · unfold leastN
    rw [h, hh]
    exact hc
  · exact hx _ (pairs_cut hk h)
end Go.AW

/- What the functions of chapter 46 and its reference compute on lists of texts. -/
namespace Go.AW
open Go Go.Proofs
set_option linter.unusedSimpArgs false


theorem toNat_ne {a b : UInt8} : ((a.toNat : Int) ≠ (b.toNat : Int)) ↔ a ≠ b := by
  rw [ne_eq, ne_eq, Int.ofNat_inj, UInt8.toNat_inj]

theorem ref_hamming : m_ref46_hamming = m_distance_hamming := rfl
theorem ref_listed : m_ref46_checkList = m_distance_listed := rfl
theorem ref_Hamming : m_ref46_Hamming = m_distance_Hamming := rfl

theorem hamming_eq {u v : List UInt8} (hl : u.length ≤ v.length) (hm : u.length ≤ 9223372036854775807) : m_distance_hamming u v = some (ham u v : Int) := by
  unfold m_distance_hamming
  refine bindL (loop_is (fun i => ((ham (u.take i) (v.take i) : Int), (i : Int))) u.length (ham u v : Int) (fun i hi => ?_) ?_ (by simp [ham])) rfl
  · have hi2 : i < v.length := by omega
    dsimp only
    rw [if_pos (lt_int hi), ix hi, ix hi2]
    simp only [jp, Option.bind_some, nx hm hi, ham_take u v i hi hi2]
    have hle := ham_le (u.take i) (v.take i)
    rw [List.length_take] at hle
    by_cases he : u[i] = v[i]
    · rw [if_neg (by rw [toNat_ne]; exact fun h => h he), if_pos he]
      rfl
    · rw [if_pos (toNat_ne.2 he), if_neg he, w64 (by omega) (by omega)]
      rfl
  · dsimp only
    rw [if_neg (not_lt_int _), List.take_length, ham_take_left]

theorem listed_eq {l : List (List UInt8)} : m_distance_listed l = some (listedE l) := by
  unfold m_distance_listed listedE
  by_cases h4 : 4096 < l.length
  · rw [if_pos (by omega), if_pos h4]
  · rw [if_neg (by omega), if_neg h4]
    have hm : l.length ≤ 9223372036854775807 := by omega
    refine lpL (loop_any (fun i => (i : Int)) l.length (fun i => decide ((l.getD i []).length ≠ (l.headD []).length)) (Ou.ret 11) (Ou.go ()) (fun i hi => ?_) (by rw [if_neg (not_lt_int _)]) rfl) ?_
    · have h0 : 0 < l.length := by omega
      have hd : l.headD [] = l[0] := by cases l with
        | nil => simp at h0
        | cons x xs => rfl
      rw [if_pos (lt_int hi), ix hi, ix0 h0]
      simp only [Option.bind_some, nx hm hi, hd, getD_at hi, decide_eq_true_eq]
      by_cases he : l[i].length = l[0].length
      · rw [if_neg (by omega), if_neg (by omega)]
      · rw [if_pos (by omega), if_pos he]
    by_cases ha : ∀ w ∈ l, w.length = (l.headD []).length
    · rw [if_pos ha, if_neg]
      · rfl
      · intro hx
        obtain ⟨i, hi, hp⟩ := List.any_eq_true.1 hx
        have hi := List.mem_range.1 hi
        rw [getD_at hi] at hp
        exact (of_decide_eq_true hp) (ha _ (List.getElem_mem hi))
    · rw [if_neg ha, if_pos]
      · rfl
      · refine List.any_eq_true.2 ?_
        apply Classical.byContradiction
        intro hno
        refine ha fun w hw => ?_
        obtain ⟨i, hi, rfl⟩ := List.getElem_of_mem hw
        apply Classical.byContradiction
        intro hne
        exact hno ⟨i, List.mem_range.2 hi, by rw [getD_at hi]; exact decide_eq_true hne⟩

theorem uni_of {l : List (List UInt8)} (h : listedE l = 0) : uni l = true := by
  have := same_len h
  exact List.all_eq_true.2 fun u hu => List.all_eq_true.2 fun v hv => decide_eq_true (this u hu v hv)
theorem len_of {l : List (List UInt8)} (h : listedE l = 0) : l.length ≤ 4096 := by
  unfold listedE at h
  split at h
  · cases h
  · omega
theorem pairs_eq {l : List (List UInt8)} (h : listedE l = 0) : y_distance_pairs l = some (pairsL l) := by
  unfold y_distance_pairs
  have := len_of h
  rw [if_pos ⟨uni_of h, by omega⟩]

/-- a row of the pairs -/
theorem row_fold {A : Type} (l : List (List UInt8)) (f : A → Int → A) (i : Nat) (a : A) : (List.range i).foldl (fun a k => f a (ham (l.getD i []) (l.getD k []) : Int)) a = (prow l i).foldl f a := by
  rw [prow, List.foldl_map]
theorem pairs_fold {A : Type} (l : List (List UInt8)) (f : A → Int → A) (a : A) : (List.range l.length).foldl (fun a i => (prow l i).foldl f a) a = (pairsL l).foldl f a := by
  rw [pairsL, prows, List.foldl_flatMap]

theorem ham_eq {l : List (List UInt8)} (hl : ∀ u ∈ l, ∀ v ∈ l, u.length = v.length) (hb : ∀ u ∈ l, u.length ≤ 9223372036854775807) {i k : Nat} (hi : i < l.length) (hk : k < l.length) : m_distance_hamming l[i] l[k] = some (ham (l.getD i []) (l.getD k []) : Int) := by
  rw [hamming_eq (by rw [hl _ (List.getElem_mem hi) _ (List.getElem_mem hk)]; exact Nat.le_refl _) (hb _ (List.getElem_mem hi)), getD_at hi, getD_at hk]

theorem least_eq {l : List (List UInt8)} (hok : listedE l = 0) (h0 : 0 < l.length) : m_distance_least l = some (leastN l) := by
  unfold m_distance_least leastN
  have hd : l.headD [] = l[0] := by cases l with
    | nil => simp at h0
    | cons x xs => rfl
  rw [ix0 h0, pairs_eq hok, hd]
  simp only [Option.bind_some]
  rw [forL_fold (fun a x => min a x) (fun _ => True) _ _ (fun s x _ _ => ⟨rfl, trivial⟩) trivial]
  rfl

theorem Least_eq (l : List (List UInt8)) : m_distance_Least l = some (leastE l) := by
  unfold m_distance_Least leastE
  rw [listed_eq]
  simp only [Option.bind_some]
  by_cases h : listedE l = 0
  · have hn : ¬ (listedE l ≠ 0) := by omega
    rw [if_neg hn, if_neg hn]
    by_cases h2 : l.length < 2
    · have h3 : ((l.length : Int) < 2) := by omega
      rw [if_pos h3, if_pos h2]
    · have h3 : ¬ ((l.length : Int) < 2) := by omega
      rw [if_neg h3, if_neg h2, least_eq h (by omega)]
      rfl
  · rw [if_pos h, if_pos h]

theorem refLeast_eq (l : List (List UInt8)) (hb : ∀ u ∈ l, u.length ≤ 9223372036854775807) : m_ref46_Least l = some (leastE l) := by
  unfold m_ref46_Least leastE
  rw [ref_listed, listed_eq]
  simp only [Option.bind_some]
  by_cases h : listedE l = 0
  · have hn : ¬ (listedE l ≠ 0) := by omega
    rw [if_neg hn, if_neg hn]
    have hs := same_len h
    have hm := len_of h
    by_cases h2 : l.length < 2
    · have h3 : ((l.length : Int) < 2) := by omega
      rw [if_pos h3, if_pos h2]
    · have h3 : ¬ ((l.length : Int) < 2) := by omega
      rw [if_neg h3, if_neg h2]
      have h0 : 0 < l.length := by omega
      have hd : l.headD [] = l[0] := by cases l with
        | nil => simp at h0
        | cons x xs => rfl
      rw [ix0 h0]
      simp only [Option.bind_some]
      refine bindL (loop_fold (fun i (a : Int) => (a, (i : Int))) l.length (fun a i => (prow l i).foldl min a) id (fun _ => True) (fun _ _ _ _ => trivial) (fun i a hi _ => ?_) (fun a _ => ?_) ((l[0].length : Int)) trivial rfl) ?_
      · dsimp only
        rw [if_pos (lt_int hi)]
        refine bindL (loop_fold (fun k (a : Int) => (a, (k : Int))) i (fun a k => min a (ham (l.getD i []) (l.getD k []) : Int)) (fun a => (a, (i : Int))) (fun _ => True) (fun _ _ _ _ => trivial) (fun k a hk _ => ?_) (fun a _ => ?_) a trivial rfl) ?_
        · have hk' : k < l.length := by omega
          dsimp only
          rw [if_pos (lt_int hk), ix hi, ix hk']
          simp only [Option.bind_some, ref_hamming, ham_eq hs hb hi hk', nx (by omega : i ≤ _) hk]
        · dsimp only
          rw [if_neg (not_lt_int _)]
        · rw [row_fold l min i a]
          simp only [nx (by omega : l.length ≤ _) hi]
      · dsimp only
        rw [if_neg (not_lt_int _)]
        rfl
      · rw [pairs_fold l min, leastN, hd]
        rfl
  · rw [if_pos h, if_pos h]

/-- how often each distance occurs -/
def cntF (a : List Int) (d : Int) : List Int := a.set d.toNat (IntKind.wrap .i64 (a.getD d.toNat 0 + 1))
def specN (l : List (List UInt8)) : List Int := (pairsL l).foldl cntF (List.replicate ((l.headD []).length + 1) 0)
def specE (l : List (List UInt8)) : List Int × Int := if listedE l ≠ 0 then ([], listedE l) else if l.length = 0 then ([], 5) else (specN l, 0)

theorem cntF_len (a : List Int) (d : Int) : (cntF a d).length = a.length := List.length_set
theorem ix_get {a : List Int} {d : Int} (h0 : 0 ≤ d) (h : d < a.length) : idx a d = some (a.getD d.toNat 0) := by
  obtain ⟨n, rfl⟩ := Int.eq_ofNat_of_zero_le h0
  rw [ix (by omega)]
  simp [List.getD, show n < a.length by omega]
theorem pair_le {l : List (List UInt8)} (hl : ∀ u ∈ l, ∀ v ∈ l, u.length = v.length) {x : Int} (h : x ∈ pairsL l) : 0 ≤ x ∧ x < ((l.headD []).length + 1 : Nat) := by
  obtain ⟨i, k, hk, hi, rfl⟩ := mem_pairs.1 h
  have h0 : 0 < l.length := by omega
  have hd : l.headD [] ∈ l := by cases l with
    | nil => simp at h0
    | cons x xs => exact List.mem_cons_self ..
  have h1 := ham_le (l.getD i []) (l.getD k [])
  rw [getD_at hi] at h1
  rw [hl _ (List.getElem_mem hi) _ hd] at h1
  rw [getD_at hi]
  omega

theorem Spectrum_eq (l : List (List UInt8)) (hb : ∀ u ∈ l, u.length ≤ 1000000) : m_distance_Spectrum l = some (specE l) := by
  unfold m_distance_Spectrum specE
  rw [listed_eq]
  simp only [Option.bind_some]
  by_cases h : listedE l = 0
  · have hn : ¬ (listedE l ≠ 0) := by omega
    rw [if_neg hn, if_neg hn]
    have hs := same_len h
    by_cases h2 : l.length = 0
    · have h3 : ((l.length : Int) = 0) := by omega
      rw [if_pos h3, if_pos h2]
    · have h3 : ¬ ((l.length : Int) = 0) := by omega
      rw [if_neg h3, if_neg h2]
      have h0 : 0 < l.length := by omega
      have hd : l.headD [] = l[0] := by cases l with
        | nil => simp at h0
        | cons x xs => rfl
      have hb0 := hb _ (List.getElem_mem h0)
      rw [ix0 h0]
      simp only [Option.bind_some]
      have hw : IntKind.wrap .i64 ((l[0].length : Int) + 1) = ((l[0].length + 1 : Nat) : Int) := by rw [w64 (by omega) (by omega)]; omega
      rw [hw, if_pos (by omega), pairs_eq h]
      simp only [Option.bind_some, Int.toNat_natCast]
      refine lpL (forL_fold cntF (fun a => a.length = (l.headD []).length + 1) _ _ (fun a x hx ha => ?_) (by rw [List.length_replicate, hd])) ?_
      · obtain ⟨p1, p2⟩ := pair_le hs hx
        have := ix_get p1 (by rw [ha]; exact p2)
        simp only [this, Option.bind_some]
        exact ⟨rfl, by rw [cntF_len, ha]⟩
      · rw [specN, hd]
        rfl
  · rw [if_pos h, if_pos h]

theorem refSpectrum_eq (l : List (List UInt8)) (hb : ∀ u ∈ l, u.length ≤ 1000000) : m_ref46_Spectrum l = some (specE l) := by
  unfold m_ref46_Spectrum specE
  rw [ref_listed, listed_eq]
  simp only [Option.bind_some]
  by_cases h : listedE l = 0
  · have hn : ¬ (listedE l ≠ 0) := by omega
    rw [if_neg hn, if_neg hn]
    have hs := same_len h
    have hm := len_of h
    by_cases h2 : l.length = 0
    · have h3 : ((l.length : Int) = 0) := by omega
      rw [if_pos h3, if_pos h2]
    · have h3 : ¬ ((l.length : Int) = 0) := by omega
      rw [if_neg h3, if_neg h2]
      have h0 : 0 < l.length := by omega
      have hd : l.headD [] = l[0] := by cases l with
        | nil => simp at h0
        | cons x xs => rfl
      have hb0 := hb _ (List.getElem_mem h0)
      rw [ix0 h0]
      simp only [Option.bind_some]
      have hw : IntKind.wrap .i64 ((l[0].length : Int) + 1) = ((l[0].length + 1 : Nat) : Int) := by rw [w64 (by omega) (by omega)]; omega
      rw [hw, if_pos (by omega)]
      simp only [Int.toNat_natCast]
      have hP : ∀ (xs : List Int) (a : List Int), a.length = (l.headD []).length + 1 → (xs.foldl cntF a).length = (l.headD []).length + 1 := by
        intro xs
        induction xs with
        | nil => exact fun _ h => h
        | cons x xs ih => exact fun a h => ih _ (by rw [cntF_len]; exact h)
      have hin : ∀ i k, i < l.length → k < i → (ham (l.getD i []) (l.getD k []) : Int) ∈ pairsL l := fun i k hi hk => mem_pairs.2 ⟨i, k, hk, hi, rfl⟩
      refine bindL (loop_fold (fun i (a : List Int) => ((i : Int), a)) l.length (fun a i => (prow l i).foldl cntF a) id (fun a => a.length = (l.headD []).length + 1) (fun i a _ ha => hP _ _ ha) (fun i a hi ha => ?_) (fun a _ => ?_) (List.replicate (l[0].length + 1) 0) (by rw [List.length_replicate, hd]) rfl) ?_
      · dsimp only
        rw [if_pos (lt_int hi)]
        refine bindL (loop_fold (fun k (a : List Int) => ((k : Int), a)) i (fun a k => cntF a (ham (l.getD i []) (l.getD k []) : Int)) (fun a => (a, (i : Int))) (fun a => a.length = (l.headD []).length + 1) (fun k a _ ha => by rw [cntF_len]; exact ha) (fun k a hk ha => ?_) (fun a _ => ?_) a ha rfl) ?_
        · have hk' : k < l.length := by omega
          dsimp only
          obtain ⟨p1, p2⟩ := pair_le hs (hin i k hi hk)
          have hx := ix_get p1 (by rw [ha]; exact p2)
          rw [if_pos (lt_int hk), ix hi, ix hk']
          simp only [Option.bind_some, ref_hamming, ham_eq hs (fun u hu => Nat.le_trans (hb u hu) (by omega)) hi hk', nx (by omega : i ≤ _) hk, hx]
          rfl
        · dsimp only
          rw [if_neg (not_lt_int _)]
        · rw [row_fold l cntF i a]
          simp only [nx (by omega : l.length ≤ _) hi]
      · dsimp only
        rw [if_neg (not_lt_int _)]
        rfl
      · rw [pairs_fold l cntF, specN, hd]
        rfl
  · rw [if_pos h, if_pos h]

/-- the check of a distance -/
def checkE (l : List (List UInt8)) (d : Int) : Int := if listedE l ≠ 0 then listedE l else if (pairsL l).any (fun x => decide (x < d)) = true then 23 else 0

theorem Check_eq (l : List (List UInt8)) (d : Int) : m_distance_Check l d = some (checkE l d) := by
  unfold m_distance_Check checkE
  rw [listed_eq]
  simp only [Option.bind_some]
  by_cases h : listedE l = 0
  · have hn : ¬ (listedE l ≠ 0) := by omega
    rw [if_neg hn, if_neg hn, pairs_eq h]
    simp only [Option.bind_some]
    refine lpL (forL_any (fun x => decide (x < d)) () (fun s x => ?_) _) ?_
    · simp only [decide_eq_true_eq]
    · split <;> rfl
  · rw [if_pos h, if_pos h]

theorem refCheck_eq (l : List (List UInt8)) (d : Int) (hb : ∀ u ∈ l, u.length ≤ 1000000) : m_ref46_Check l d = some (checkE l d) := by
  unfold m_ref46_Check checkE
  rw [ref_listed, listed_eq]
  simp only [Option.bind_some]
  by_cases h : listedE l = 0
  · have hn : ¬ (listedE l ≠ 0) := by omega
    rw [if_neg hn, if_neg hn]
    have hs := same_len h
    have hm := len_of h
    refine lpL (loop_any (fun i => (i : Int)) l.length (fun i => (prow l i).any fun x => decide (x < d)) (Ou.ret 23) (Ou.go ()) (fun i hi => ?_) (by rw [if_neg (not_lt_int _)]) rfl) ?_
    · rw [if_pos (lt_int hi)]
      refine lpL (loop_any (fun k => (k : Int)) i (fun k => decide ((ham (l.getD i []) (l.getD k []) : Int) < d)) (Ou.ret 23) (Ou.go (i : Int)) (fun k hk => ?_) (by rw [if_neg (not_lt_int _)]) rfl) ?_
      · have hk' : k < l.length := by omega
        rw [if_pos (lt_int hk), ix hi, ix hk']
        simp only [Option.bind_some, ref_hamming, ham_eq hs (fun u hu => Nat.le_trans (hb u hu) (by omega)) hi hk', nx (by omega : i ≤ _) hk, decide_eq_true_eq]
      · have e : (List.range i).any (fun k => decide ((ham (l.getD i []) (l.getD k []) : Int) < d)) = (prow l i).any fun x => decide (x < d) := by
          rw [prow, List.any_map]; rfl
        rw [e]
        split
        · rfl
        · simp only [lpO, nx (by omega : l.length ≤ _) hi]
    · have e : ((List.range l.length).any fun i => (prow l i).any fun x => decide (x < d)) = (pairsL l).any fun x => decide (x < d) := by
        rw [pairsL, prows, List.any_flatMap]
      rw [e]
      split <;> rfl
  · rw [if_pos h, if_pos h]

/-- two lists of numbers -/
theorem EqualI_eq {a b : List Int} (hm : a.length ≤ 9223372036854775807) : m_slices_Equal_Lint_int a b = some (decide (a = b)) := by
  unfold m_slices_Equal_Lint_int
  by_cases hl : a.length = b.length
  · rw [if_neg (by omega)]
    refine lpL (loop_any (fun i => (i : Int)) a.length (fun i => decide (a.getD i 0 ≠ b.getD i 0)) (Ou.ret false) (Ou.go ()) (fun i hi => ?_) (by rw [if_neg (not_lt_int _)]) rfl) ?_
    · have hi' : i < b.length := by omega
      have e1 : a.getD i 0 = a[i] := by simp [List.getD, hi]
      have e2 : b.getD i 0 = b[i] := by simp [List.getD, hi']
      rw [if_pos (lt_int hi), ix hi, ix hi']
      simp only [Option.bind_some, nx hm hi, e1, e2, decide_eq_true_eq]
    · by_cases he : a = b
      · subst he
        rw [if_neg]
        · simp [lpO]
        · simp
      · rw [if_pos]
        · simp [lpO, he]
        · refine List.any_eq_true.2 ?_
          apply Classical.byContradiction
          intro hno
          refine he (List.ext_getElem hl fun i h1 h2 => ?_)
          apply Classical.byContradiction
          intro hne
          refine hno ⟨i, List.mem_range.2 h1, decide_eq_true ?_⟩
          rwa [show a.getD i 0 = a[i] by simp [List.getD, h1], show b.getD i 0 = b[i] by simp [List.getD, h2]]
  · rw [if_pos (by omega)]
    have : a ≠ b := fun e => hl (by rw [e])
    simp [this]
end Go.AW

namespace Go.AW
open Go Go.Proofs
set_option linter.unusedVariables false
/-- groove/groovelaw46.DistanceLists -/
noncomputable def m_law46_DistanceLists (p0 : List (List UInt8)) (p1 : List UInt8) (p2 : Int) : Option (Bool) :=
  jp (fun (a1 : Bool) =>
    if a1 = true then
      (m_law46_awake).bind fun x4 =>
      some x4
    else
      jp (fun (a6 : Unit) =>
        (m_distance_Least p0).bind fun x9 =>
        (m_ref46_Least p0).bind fun x11 =>
        (m_distance_Spectrum p0).bind fun x13 =>
        (m_ref46_Spectrum p0).bind fun x15 =>
        (m_distance_Nearest p0 p1).bind fun x17 =>
        (m_ref46_Nearest p0 p1).bind fun x19 =>
        jp (fun (a21 : Bool) =>
          some a21)
          fun k23 =>
          if x9.1 = x11.1 then
            if x9.2 = x11.2 then
              (m_slices_Equal_Lint_int x13.1 x15.1).bind fun x24 =>
              if x24 = true then
                if x13.2 = x15.2 then
                  if x17.1 = x19.1 then
                    if x17.2.1 = x19.2.1 then
                      if x17.2.2 = x19.2.2 then
                        (m_distance_Check p0 p2).bind fun x26 =>
                        (m_ref46_Check p0 p2).bind fun x28 =>
                        if x26 = x28 then
                          (m_law46_awake).bind fun x30 =>
                          k23 x30
                        else
                          k23 false
                      else
                        k23 false
                    else
                      k23 false
                  else
                    k23 false
                else
                  k23 false
              else
                k23 false
            else
              k23 false
          else
            k23 false)
        fun k8 =>
        if 0 < ((p0).length : Int) then
          (idx p0 0).bind fun x40 =>
          (m_distance_Hamming x40 p1).bind fun x42 =>
          (idx p0 0).bind fun x44 =>
          (m_ref46_Hamming x44 p1).bind fun x46 =>
          jp (fun (a48 : Bool) =>
            if a48 = true then
              some false
            else
              k8 ())
            fun k50 =>
            if x42.1 ≠ x46.1 then
              k50 true
            else
              k50 (decide (x42.2 ≠ x46.2))
        else
          k8 ())
    fun k3 =>
    (m_ref46_Great p0).bind fun x52 =>
    if x52 = true then
      k3 true
    else
      k3 (decide (20 < ((p1).length : Int)))

set_option maxHeartbeats 8000000 in
set_option maxRecDepth 100000 in
theorem w_law46_DistanceLists {p0 : List (List UInt8)} {p1 : List UInt8} {p2 : Int} {r : Bool} (h : m_law46_DistanceLists p0 p1 p2 = some r) : Pure Try.prog 6 [slE eStr p0, HV.str p1, HV.int .i64 p2] (· = HV.bool r) := by
  unfold m_law46_DistanceLists at h
  refine Pure.of_body Try.func6 rfl rfl (Nat.le_of_ble_eq_true rfl) fun hf => ?_
  unfold Try.f6
  dsimp only [enumS, Nat.reduceAdd]
  refine AW.rgs rfl fun K hK => ?_
  refine mv rfl rfl ?_
  refine b_nil (hK _ (AW.to (to_le (s' := ⟨[(0, slE eStr p0), (1, HV.str p1), (2, HV.int .i64 p2)], []⟩) (AS.le_of ⟨rfl, rfl, rfl, trivial⟩ trivial) ?_)))
  clear hK K
  refine AW.seq ?_
  refine AW.seqJ h (S := Bool) (V := Unit) (fun a v => ⟨[(0, slE eStr p0), (1, HV.str p1), (2, HV.int .i64 p2), (31, HV.bool a)], []⟩) (fun a1 w2 h => ?_) (fun k3 h => ?_)
  · refine AW.cond rfl (fun hc => ?_) (fun hc => ?_)
    · have h := ifT hc h
      refine AW.rgs rfl fun K hK => ?_
      obtain ⟨x4, h5, h⟩ := bS h
      refine b_op rfl (o_call rfl rfl rfl rfl (ACallD.pure0 (w_law46_awake h5)) ?_)
      refine mv rfl rfl ?_
      refine b_nil (hK _ (AW.to (to_le (s' := ⟨[(6, HV.bool x4)], []⟩) (AS.le_of ⟨rfl, trivial⟩ trivial) ?_)))
      clear hK K
      refine AW.ret ?_
      have h := Option.some.inj h
      subst h
      exact ret_pure (hs := [HV.bool x4]) (q := HV.bool x4) (.inr rfl) (resT rfl rfl) rfl trivial
    · have h := ifF (bF' hc) h
      refine AW.skip ?_
      refine AW.seq ?_
      refine AW.rgs rfl fun K hK => ?_
      refine mv rfl rfl ?_
      refine bv rfl (v_lenF rfl rfl ty30 rfl) ?_
      refine bv rfl (v_bin rfl rfl b_gtr) ?_
      refine b_nil (hK _ (AW.to (to_le (s' := ⟨[(0, slE eStr p0), (1, HV.str p1), (2, HV.int .i64 p2), (35, HV.bool (decide (0 < ((p0).length : Int))))], []⟩) (AS.le_of ⟨rfl, rfl, rfl, rfl, trivial⟩ trivial) ?_)))
      clear hK K
      refine AW.lastJ h (by first | exact up_then | exact up_to) (S := Unit) (V := Unit) (fun a v => ⟨[(0, slE eStr p0), (1, HV.str p1), (2, HV.int .i64 p2)], []⟩) (fun a6 w7 h => ?_) (fun k8 h => ?_)
      · refine AW.rgs rfl fun K hK => ?_
        refine mv rfl rfl ?_
        obtain ⟨x9, h10, h⟩ := bS h
        refine b_op rfl (o_call rfl rfl rfl rfl (ACallD.pure0 (w_distance_Least h10)) ?_)
        refine mv rfl rfl ?_
        refine bv rfl (v_extract rfl rfl) ?_
        refine bv rfl (v_extract rfl rfl) ?_
        refine mv rfl rfl ?_
        refine mv rfl rfl ?_
        refine b_nil (hK _ (AW.to (to_le (s' := ⟨[(0, slE eStr p0), (1, HV.str p1), (2, HV.int .i64 p2), (11, HV.int .i64 x9.1), (12, HV.int .i64 x9.2)], []⟩) (AS.le_of ⟨rfl, rfl, rfl, rfl, rfl, trivial⟩ trivial) ?_)))
        clear hK K
        refine AW.rgs rfl fun K hK => ?_
        refine mv rfl rfl ?_
        obtain ⟨x11, h12, h⟩ := bS h
        refine b_op rfl (o_call rfl rfl rfl rfl (ACallD.pure0 (w_ref46_Least h12)) ?_)
        refine mv rfl rfl ?_
        refine bv rfl (v_extract rfl rfl) ?_
        refine bv rfl (v_extract rfl rfl) ?_
        refine mv rfl rfl ?_
        refine mv rfl rfl ?_
        refine b_nil (hK _ (AW.to (to_le (s' := ⟨[(0, slE eStr p0), (1, HV.str p1), (2, HV.int .i64 p2), (11, HV.int .i64 x9.1), (12, HV.int .i64 x9.2), (13, HV.int .i64 x11.1), (14, HV.int .i64 x11.2)], []⟩) (AS.le_of ⟨rfl, rfl, rfl, rfl, rfl, rfl, rfl, trivial⟩ trivial) ?_)))
        clear hK K
        refine AW.rgs rfl fun K hK => ?_
        refine mv rfl rfl ?_
        obtain ⟨x13, h14, h⟩ := bS h
        refine b_op rfl (o_call rfl rfl rfl rfl (ACallD.pure0 (w_distance_Spectrum h14)) ?_)
        refine mv rfl rfl ?_
        refine bv rfl (v_extract rfl rfl) ?_
        refine bv rfl (v_extract rfl rfl) ?_
        refine mv rfl rfl ?_
        refine mv rfl rfl ?_
        refine b_nil (hK _ (AW.to (to_le (s' := ⟨[(0, slE eStr p0), (1, HV.str p1), (2, HV.int .i64 p2), (11, HV.int .i64 x9.1), (12, HV.int .i64 x9.2), (13, HV.int .i64 x11.1), (14, HV.int .i64 x11.2), (15, slE eInt x13.1), (16, HV.int .i64 x13.2)], []⟩) (AS.le_of ⟨rfl, rfl, rfl, rfl, rfl, rfl, rfl, rfl, rfl, trivial⟩ trivial) ?_)))
        clear hK K
        refine AW.rgs rfl fun K hK => ?_
        refine mv rfl rfl ?_
        obtain ⟨x15, h16, h⟩ := bS h
        refine b_op rfl (o_call rfl rfl rfl rfl (ACallD.pure0 (w_ref46_Spectrum h16)) ?_)
        refine mv rfl rfl ?_
        refine bv rfl (v_extract rfl rfl) ?_
        refine bv rfl (v_extract rfl rfl) ?_
        refine mv rfl rfl ?_
        refine mv rfl rfl ?_
        refine b_nil (hK _ (AW.to (to_le (s' := ⟨[(0, slE eStr p0), (1, HV.str p1), (2, HV.int .i64 p2), (11, HV.int .i64 x9.1), (12, HV.int .i64 x9.2), (13, HV.int .i64 x11.1), (14, HV.int .i64 x11.2), (15, slE eInt x13.1), (16, HV.int .i64 x13.2), (17, slE eInt x15.1), (18, HV.int .i64 x15.2)], []⟩) (AS.le_of ⟨rfl, rfl, rfl, rfl, rfl, rfl, rfl, rfl, rfl, rfl, rfl, trivial⟩ trivial) ?_)))
        clear hK K
        refine AW.rgs rfl fun K hK => ?_
        refine mv rfl rfl ?_
        refine mv rfl rfl ?_
        obtain ⟨x17, h18, h⟩ := bS h
        refine b_op rfl (o_call rfl rfl rfl rfl (ACallD.pure0 (w_distance_Nearest h18)) ?_)
        refine mv rfl rfl ?_
        refine bv rfl (v_extract rfl rfl) ?_
        refine bv rfl (v_extract rfl rfl) ?_
        refine bv rfl (v_extract rfl rfl) ?_
        refine mv rfl rfl ?_
        refine mv rfl rfl ?_
        refine mv rfl rfl ?_
        refine b_nil (hK _ (AW.to (to_le (s' := ⟨[(0, slE eStr p0), (1, HV.str p1), (2, HV.int .i64 p2), (11, HV.int .i64 x9.1), (12, HV.int .i64 x9.2), (13, HV.int .i64 x11.1), (14, HV.int .i64 x11.2), (15, slE eInt x13.1), (16, HV.int .i64 x13.2), (17, slE eInt x15.1), (18, HV.int .i64 x15.2), (19, HV.int .i64 x17.1), (20, HV.int .i64 x17.2.1), (21, HV.int .i64 x17.2.2)], []⟩) (AS.le_of ⟨rfl, rfl, rfl, rfl, rfl, rfl, rfl, rfl, rfl, rfl, rfl, rfl, rfl, rfl, trivial⟩ trivial) ?_)))
        clear hK K
        refine AW.rgs rfl fun K hK => ?_
        refine mv rfl rfl ?_
        refine mv rfl rfl ?_
        obtain ⟨x19, h20, h⟩ := bS h
        refine b_op rfl (o_call rfl rfl rfl rfl (ACallD.pure0 (w_ref46_Nearest h20)) ?_)
        refine mv rfl rfl ?_
        refine bv rfl (v_extract rfl rfl) ?_
        refine bv rfl (v_extract rfl rfl) ?_
        refine bv rfl (v_extract rfl rfl) ?_
        refine mv rfl rfl ?_
        refine mv rfl rfl ?_
        refine mv rfl rfl ?_
        refine b_nil (hK _ (AW.to (to_le (s' := ⟨[(0, slE eStr p0), (2, HV.int .i64 p2), (11, HV.int .i64 x9.1), (12, HV.int .i64 x9.2), (13, HV.int .i64 x11.1), (14, HV.int .i64 x11.2), (15, slE eInt x13.1), (16, HV.int .i64 x13.2), (17, slE eInt x15.1), (18, HV.int .i64 x15.2), (19, HV.int .i64 x17.1), (20, HV.int .i64 x17.2.1), (21, HV.int .i64 x17.2.2), (22, HV.int .i64 x19.1), (23, HV.int .i64 x19.2.1), (24, HV.int .i64 x19.2.2)], []⟩) (AS.le_of ⟨rfl, rfl, rfl, rfl, rfl, rfl, rfl, rfl, rfl, rfl, rfl, rfl, rfl, rfl, rfl, rfl, trivial⟩ trivial) ?_)))
        clear hK K
        refine AW.seqJ h (S := Bool) (V := Unit) (fun a v => ⟨[(6, HV.bool a)], []⟩) (fun a21 w22 h => ?_) (fun k23 h => ?_)
        · refine AW.ret ?_
          have h := Option.some.inj h
          subst h
          exact ret_pure (hs := [HV.bool a21]) (q := HV.bool a21) (.inr rfl) (resT rfl rfl) rfl trivial
        · refine AW.rg rfl fun K hK => ?_
          refine mv rfl rfl ?_
          refine mv rfl rfl ?_
          refine bv rfl (v_bin rfl rfl b_eql) ?_
          refine mv rfl rfl ?_
          by_cases hg39 : x9.1 = x11.1
          · have h := ifT hg39 h
            refine b_T rfl rfl rfl rfl (decide_eq_true hg39) (o_val rfl (mv_val rfl rfl).2 ?_)
            refine b_T rfl rfl rfl rfl rfl (o_val rfl (mv_val rfl rfl).2 ?_)
            refine b_T rfl rfl rfl rfl rfl (o_val rfl (v_bin rfl rfl b_eql) ?_)
            refine bv rfl (v_pickT rfl rfl rfl) ?_
            refine mv rfl rfl ?_
            by_cases hg38 : x9.2 = x11.2
            · have h := ifT hg38 h
              refine b_T rfl rfl rfl rfl (decide_eq_true hg38) (o_val rfl (mv_val rfl rfl).2 ?_)
              refine b_T rfl rfl rfl rfl rfl (o_val rfl (mv_val rfl rfl).2 ?_)
              obtain ⟨x24, h25, h⟩ := bS h
              refine b_T rfl rfl rfl rfl rfl (o_call rfl rfl rfl rfl (ACallD.pure0 (w_slices_Equal_Lint_int h25)) ?_)
              refine bv rfl (v_pickT rfl rfl rfl) ?_
              refine mv rfl rfl ?_
              by_cases hg37 : x24 = true
              · have h := ifT hg37 h
                refine b_T rfl rfl rfl rfl hg37 (o_val rfl (mv_val rfl rfl).2 ?_)
                refine b_T rfl rfl rfl rfl rfl (o_val rfl (mv_val rfl rfl).2 ?_)
                refine b_T rfl rfl rfl rfl rfl (o_val rfl (v_bin rfl rfl b_eql) ?_)
                refine bv rfl (v_pickT rfl rfl rfl) ?_
                refine mv rfl rfl ?_
                by_cases hg36 : x13.2 = x15.2
                · have h := ifT hg36 h
                  refine b_T rfl rfl rfl rfl (decide_eq_true hg36) (o_val rfl (mv_val rfl rfl).2 ?_)
                  refine b_T rfl rfl rfl rfl rfl (o_val rfl (mv_val rfl rfl).2 ?_)
                  refine b_T rfl rfl rfl rfl rfl (o_val rfl (v_bin rfl rfl b_eql) ?_)
                  refine bv rfl (v_pickT rfl rfl rfl) ?_
                  refine mv rfl rfl ?_
                  by_cases hg35 : x17.1 = x19.1
                  · have h := ifT hg35 h
                    refine b_T rfl rfl rfl rfl (decide_eq_true hg35) (o_val rfl (mv_val rfl rfl).2 ?_)
                    refine b_T rfl rfl rfl rfl rfl (o_val rfl (mv_val rfl rfl).2 ?_)
                    refine b_T rfl rfl rfl rfl rfl (o_val rfl (v_bin rfl rfl b_eql) ?_)
                    refine bv rfl (v_pickT rfl rfl rfl) ?_
                    refine mv rfl rfl ?_
                    by_cases hg34 : x17.2.1 = x19.2.1
                    · have h := ifT hg34 h
                      refine b_T rfl rfl rfl rfl (decide_eq_true hg34) (o_val rfl (mv_val rfl rfl).2 ?_)
                      refine b_T rfl rfl rfl rfl rfl (o_val rfl (mv_val rfl rfl).2 ?_)
                      refine b_T rfl rfl rfl rfl rfl (o_val rfl (v_bin rfl rfl b_eql) ?_)
                      refine bv rfl (v_pickT rfl rfl rfl) ?_
                      refine mv rfl rfl ?_
                      by_cases hg33 : x17.2.2 = x19.2.2
                      · have h := ifT hg33 h
                        refine b_T rfl rfl rfl rfl (decide_eq_true hg33) (o_val rfl (mv_val rfl rfl).2 ?_)
                        refine b_T rfl rfl rfl rfl rfl (o_val rfl (mv_val rfl rfl).2 ?_)
                        obtain ⟨x26, h27, h⟩ := bS h
                        refine b_T rfl rfl rfl rfl rfl (o_call rfl rfl rfl rfl (ACallD.pure0 (w_distance_Check h27)) ?_)
                        refine b_T rfl rfl rfl rfl rfl (o_val rfl (mv_val rfl rfl).2 ?_)
                        refine b_T rfl rfl rfl rfl rfl (o_val rfl (mv_val rfl rfl).2 ?_)
                        obtain ⟨x28, h29, h⟩ := bS h
                        refine b_T rfl rfl rfl rfl rfl (o_call rfl rfl rfl rfl (ACallD.pure0 (w_ref46_Check h29)) ?_)
                        refine b_T rfl rfl rfl rfl rfl (o_val rfl (v_bin rfl rfl b_eql) ?_)
                        refine bv rfl (v_pickT rfl rfl rfl) ?_
                        refine mv rfl rfl ?_
                        by_cases hg32 : x26 = x28
                        · have h := ifT hg32 h
                          obtain ⟨x30, h31, h⟩ := bS h
                          refine b_T rfl rfl rfl rfl (decide_eq_true hg32) (o_call rfl rfl rfl rfl (ACallD.pure0 (w_law46_awake h31)) ?_)
                          refine bv rfl (v_pickT rfl rfl rfl) ?_
                          refine mv rfl rfl ?_
                          refine b_nil (hK _ ?_)
                          clear hK K
                          exact to_le (s' := ⟨[(6, HV.bool x30)], []⟩) (AS.le_of ⟨rfl, trivial⟩ trivial) ⟨x30, (), h, rfl⟩
                        · have h := ifF hg32 h
                          refine b_F rfl rfl rfl rfl rfl (decide_eq_false hg32) ?_
                          refine bv rfl (v_pickF rfl rfl rfl) ?_
                          refine mv rfl rfl ?_
                          refine b_nil (hK _ ?_)
                          clear hK K
                          exact to_le (s' := ⟨[(6, HV.bool false)], []⟩) (AS.le_of ⟨rfl, trivial⟩ trivial) ⟨false, (), h, rfl⟩
                      · have h := ifF hg33 h
                        refine b_F rfl rfl rfl rfl rfl (decide_eq_false hg33) ?_
                        refine b_F rfl rfl rfl rfl rfl rfl ?_
                        refine b_F rfl rfl rfl rfl rfl rfl ?_
                        refine b_F rfl rfl rfl rfl rfl rfl ?_
                        refine b_F rfl rfl rfl rfl rfl rfl ?_
                        refine b_F rfl rfl rfl rfl rfl rfl ?_
                        refine b_F rfl rfl rfl rfl rfl rfl ?_
                        refine bv rfl (v_pickF rfl rfl rfl) ?_
                        refine mv rfl rfl ?_
                        refine b_F rfl rfl rfl rfl rfl rfl ?_
                        refine bv rfl (v_pickF rfl rfl rfl) ?_
                        refine mv rfl rfl ?_
                        refine b_nil (hK _ ?_)
                        clear hK K
                        exact to_le (s' := ⟨[(6, HV.bool false)], []⟩) (AS.le_of ⟨rfl, trivial⟩ trivial) ⟨false, (), h, rfl⟩
                    · have h := ifF hg34 h
                      refine b_F rfl rfl rfl rfl rfl (decide_eq_false hg34) ?_
                      refine b_F rfl rfl rfl rfl rfl rfl ?_
                      refine b_F rfl rfl rfl rfl rfl rfl ?_
                      refine bv rfl (v_pickF rfl rfl rfl) ?_
                      refine mv rfl rfl ?_
                      refine b_F rfl rfl rfl rfl rfl rfl ?_
                      refine b_F rfl rfl rfl rfl rfl rfl ?_
                      refine b_F rfl rfl rfl rfl rfl rfl ?_
                      refine b_F rfl rfl rfl rfl rfl rfl ?_
                      refine b_F rfl rfl rfl rfl rfl rfl ?_
                      refine b_F rfl rfl rfl rfl rfl rfl ?_
                      refine b_F rfl rfl rfl rfl rfl rfl ?_
                      refine bv rfl (v_pickF rfl rfl rfl) ?_
                      refine mv rfl rfl ?_
                      refine b_F rfl rfl rfl rfl rfl rfl ?_
                      refine bv rfl (v_pickF rfl rfl rfl) ?_
                      refine mv rfl rfl ?_
                      refine b_nil (hK _ ?_)
                      clear hK K
                      exact to_le (s' := ⟨[(6, HV.bool false)], []⟩) (AS.le_of ⟨rfl, trivial⟩ trivial) ⟨false, (), h, rfl⟩
                  · have h := ifF hg35 h
                    refine b_F rfl rfl rfl rfl rfl (decide_eq_false hg35) ?_
                    refine b_F rfl rfl rfl rfl rfl rfl ?_
                    refine b_F rfl rfl rfl rfl rfl rfl ?_
                    refine bv rfl (v_pickF rfl rfl rfl) ?_
                    refine mv rfl rfl ?_
                    refine b_F rfl rfl rfl rfl rfl rfl ?_
                    refine b_F rfl rfl rfl rfl rfl rfl ?_
                    refine b_F rfl rfl rfl rfl rfl rfl ?_
                    refine bv rfl (v_pickF rfl rfl rfl) ?_
                    refine mv rfl rfl ?_
                    refine b_F rfl rfl rfl rfl rfl rfl ?_
                    refine b_F rfl rfl rfl rfl rfl rfl ?_
                    refine b_F rfl rfl rfl rfl rfl rfl ?_
                    refine b_F rfl rfl rfl rfl rfl rfl ?_
                    refine b_F rfl rfl rfl rfl rfl rfl ?_
                    refine b_F rfl rfl rfl rfl rfl rfl ?_
                    refine b_F rfl rfl rfl rfl rfl rfl ?_
                    refine bv rfl (v_pickF rfl rfl rfl) ?_
                    refine mv rfl rfl ?_
                    refine b_F rfl rfl rfl rfl rfl rfl ?_
                    refine bv rfl (v_pickF rfl rfl rfl) ?_
                    refine mv rfl rfl ?_
                    refine b_nil (hK _ ?_)
                    clear hK K
                    exact to_le (s' := ⟨[(6, HV.bool false)], []⟩) (AS.le_of ⟨rfl, trivial⟩ trivial) ⟨false, (), h, rfl⟩
                · have h := ifF hg36 h
                  refine b_F rfl rfl rfl rfl rfl (decide_eq_false hg36) ?_
                  refine b_F rfl rfl rfl rfl rfl rfl ?_
                  refine b_F rfl rfl rfl rfl rfl rfl ?_
                  refine bv rfl (v_pickF rfl rfl rfl) ?_
                  refine mv rfl rfl ?_
                  refine b_F rfl rfl rfl rfl rfl rfl ?_
                  refine b_F rfl rfl rfl rfl rfl rfl ?_
                  refine b_F rfl rfl rfl rfl rfl rfl ?_
                  refine bv rfl (v_pickF rfl rfl rfl) ?_
                  refine mv rfl rfl ?_
                  refine b_F rfl rfl rfl rfl rfl rfl ?_
                  refine b_F rfl rfl rfl rfl rfl rfl ?_
                  refine b_F rfl rfl rfl rfl rfl rfl ?_
                  refine bv rfl (v_pickF rfl rfl rfl) ?_
                  refine mv rfl rfl ?_
                  refine b_F rfl rfl rfl rfl rfl rfl ?_
                  refine b_F rfl rfl rfl rfl rfl rfl ?_
                  refine b_F rfl rfl rfl rfl rfl rfl ?_
                  refine b_F rfl rfl rfl rfl rfl rfl ?_
                  refine b_F rfl rfl rfl rfl rfl rfl ?_
                  refine b_F rfl rfl rfl rfl rfl rfl ?_
                  refine b_F rfl rfl rfl rfl rfl rfl ?_
                  refine bv rfl (v_pickF rfl rfl rfl) ?_
                  refine mv rfl rfl ?_
                  refine b_F rfl rfl rfl rfl rfl rfl ?_
                  refine bv rfl (v_pickF rfl rfl rfl) ?_
                  refine mv rfl rfl ?_
                  refine b_nil (hK _ ?_)
                  clear hK K
                  exact to_le (s' := ⟨[(6, HV.bool false)], []⟩) (AS.le_of ⟨rfl, trivial⟩ trivial) ⟨false, (), h, rfl⟩
              · have h := ifF hg37 h
                refine b_F rfl rfl rfl rfl rfl (bF hg37) ?_
                refine b_F rfl rfl rfl rfl rfl rfl ?_
                refine b_F rfl rfl rfl rfl rfl rfl ?_
                refine bv rfl (v_pickF rfl rfl rfl) ?_
                refine mv rfl rfl ?_
                refine b_F rfl rfl rfl rfl rfl rfl ?_
                refine b_F rfl rfl rfl rfl rfl rfl ?_
                refine b_F rfl rfl rfl rfl rfl rfl ?_
                refine bv rfl (v_pickF rfl rfl rfl) ?_
                refine mv rfl rfl ?_
                refine b_F rfl rfl rfl rfl rfl rfl ?_
                refine b_F rfl rfl rfl rfl rfl rfl ?_
                refine b_F rfl rfl rfl rfl rfl rfl ?_
                refine bv rfl (v_pickF rfl rfl rfl) ?_
                refine mv rfl rfl ?_
                refine b_F rfl rfl rfl rfl rfl rfl ?_
                refine b_F rfl rfl rfl rfl rfl rfl ?_
                refine b_F rfl rfl rfl rfl rfl rfl ?_
                refine bv rfl (v_pickF rfl rfl rfl) ?_
                refine mv rfl rfl ?_
                refine b_F rfl rfl rfl rfl rfl rfl ?_
                refine b_F rfl rfl rfl rfl rfl rfl ?_
                refine b_F rfl rfl rfl rfl rfl rfl ?_
                refine b_F rfl rfl rfl rfl rfl rfl ?_
                refine b_F rfl rfl rfl rfl rfl rfl ?_
                refine b_F rfl rfl rfl rfl rfl rfl ?_
                refine b_F rfl rfl rfl rfl rfl rfl ?_
                refine bv rfl (v_pickF rfl rfl rfl) ?_
                refine mv rfl rfl ?_
                refine b_F rfl rfl rfl rfl rfl rfl ?_
                refine bv rfl (v_pickF rfl rfl rfl) ?_
                refine mv rfl rfl ?_
                refine b_nil (hK _ ?_)
                clear hK K
                exact to_le (s' := ⟨[(6, HV.bool false)], []⟩) (AS.le_of ⟨rfl, trivial⟩ trivial) ⟨false, (), h, rfl⟩
            · have h := ifF hg38 h
              refine b_F rfl rfl rfl rfl rfl (decide_eq_false hg38) ?_
              refine b_F rfl rfl rfl rfl rfl rfl ?_
              refine b_F rfl rfl rfl rfl rfl rfl ?_
              refine bv rfl (v_pickF rfl rfl rfl) ?_
              refine mv rfl rfl ?_
              refine b_F rfl rfl rfl rfl rfl rfl ?_
              refine b_F rfl rfl rfl rfl rfl rfl ?_
              refine b_F rfl rfl rfl rfl rfl rfl ?_
              refine bv rfl (v_pickF rfl rfl rfl) ?_
              refine mv rfl rfl ?_
              refine b_F rfl rfl rfl rfl rfl rfl ?_
              refine b_F rfl rfl rfl rfl rfl rfl ?_
              refine b_F rfl rfl rfl rfl rfl rfl ?_
              refine bv rfl (v_pickF rfl rfl rfl) ?_
              refine mv rfl rfl ?_
              refine b_F rfl rfl rfl rfl rfl rfl ?_
              refine b_F rfl rfl rfl rfl rfl rfl ?_
              refine b_F rfl rfl rfl rfl rfl rfl ?_
              refine bv rfl (v_pickF rfl rfl rfl) ?_
              refine mv rfl rfl ?_
              refine b_F rfl rfl rfl rfl rfl rfl ?_
              refine b_F rfl rfl rfl rfl rfl rfl ?_
              refine b_F rfl rfl rfl rfl rfl rfl ?_
              refine bv rfl (v_pickF rfl rfl rfl) ?_
              refine mv rfl rfl ?_
              refine b_F rfl rfl rfl rfl rfl rfl ?_
              refine b_F rfl rfl rfl rfl rfl rfl ?_
              refine b_F rfl rfl rfl rfl rfl rfl ?_
              refine b_F rfl rfl rfl rfl rfl rfl ?_
              refine b_F rfl rfl rfl rfl rfl rfl ?_
              refine b_F rfl rfl rfl rfl rfl rfl ?_
              refine b_F rfl rfl rfl rfl rfl rfl ?_
              refine bv rfl (v_pickF rfl rfl rfl) ?_
              refine mv rfl rfl ?_
              refine b_F rfl rfl rfl rfl rfl rfl ?_
              refine bv rfl (v_pickF rfl rfl rfl) ?_
              refine mv rfl rfl ?_
              refine b_nil (hK _ ?_)
              clear hK K
              exact to_le (s' := ⟨[(6, HV.bool false)], []⟩) (AS.le_of ⟨rfl, trivial⟩ trivial) ⟨false, (), h, rfl⟩
          · have h := ifF hg39 h
            refine b_F rfl rfl rfl rfl rfl (decide_eq_false hg39) ?_
            refine b_F rfl rfl rfl rfl rfl rfl ?_
            refine b_F rfl rfl rfl rfl rfl rfl ?_
            refine bv rfl (v_pickF rfl rfl rfl) ?_
            refine mv rfl rfl ?_
            refine b_F rfl rfl rfl rfl rfl rfl ?_
            refine b_F rfl rfl rfl rfl rfl rfl ?_
            refine b_F rfl rfl rfl rfl rfl rfl ?_
            refine bv rfl (v_pickF rfl rfl rfl) ?_
            refine mv rfl rfl ?_
            refine b_F rfl rfl rfl rfl rfl rfl ?_
            refine b_F rfl rfl rfl rfl rfl rfl ?_
            refine b_F rfl rfl rfl rfl rfl rfl ?_
            refine bv rfl (v_pickF rfl rfl rfl) ?_
            refine mv rfl rfl ?_
            refine b_F rfl rfl rfl rfl rfl rfl ?_
            refine b_F rfl rfl rfl rfl rfl rfl ?_
            refine b_F rfl rfl rfl rfl rfl rfl ?_
            refine bv rfl (v_pickF rfl rfl rfl) ?_
            refine mv rfl rfl ?_
            refine b_F rfl rfl rfl rfl rfl rfl ?_
            refine b_F rfl rfl rfl rfl rfl rfl ?_
            refine b_F rfl rfl rfl rfl rfl rfl ?_
            refine bv rfl (v_pickF rfl rfl rfl) ?_
            refine mv rfl rfl ?_
            refine b_F rfl rfl rfl rfl rfl rfl ?_
            refine b_F rfl rfl rfl rfl rfl rfl ?_
            refine b_F rfl rfl rfl rfl rfl rfl ?_
            refine bv rfl (v_pickF rfl rfl rfl) ?_
            refine mv rfl rfl ?_
            refine b_F rfl rfl rfl rfl rfl rfl ?_
            refine b_F rfl rfl rfl rfl rfl rfl ?_
            refine b_F rfl rfl rfl rfl rfl rfl ?_
            refine b_F rfl rfl rfl rfl rfl rfl ?_
            refine b_F rfl rfl rfl rfl rfl rfl ?_
            refine b_F rfl rfl rfl rfl rfl rfl ?_
            refine b_F rfl rfl rfl rfl rfl rfl ?_
            refine bv rfl (v_pickF rfl rfl rfl) ?_
            refine mv rfl rfl ?_
            refine b_F rfl rfl rfl rfl rfl rfl ?_
            refine bv rfl (v_pickF rfl rfl rfl) ?_
            refine mv rfl rfl ?_
            refine b_nil (hK _ ?_)
            clear hK K
            exact to_le (s' := ⟨[(6, HV.bool false)], []⟩) (AS.le_of ⟨rfl, trivial⟩ trivial) ⟨false, (), h, rfl⟩
      · refine AW.cond rfl (fun hc => ?_) (fun hc => ?_)
        · have hc := of_decide_eq_true hc
          have h := ifT hc h
          refine AW.rgs rfl fun K hK => ?_
          refine mv rfl rfl ?_
          obtain ⟨x40, h41, h⟩ := bS h
          refine bv rfl (v_idxF ty30 es30 rfl rfl (idx_lt h41)) ?_
          refine bv rfl (v_loadF ty9 rfl (l_cell eStr h41 (o := 0) rfl rfl)) ?_
          refine mv rfl rfl ?_
          obtain ⟨x42, h43, h⟩ := bS h
          refine b_op rfl (o_call rfl rfl rfl rfl (ACallD.pure0 (w_distance_Hamming h43)) ?_)
          refine mv rfl rfl ?_
          refine bv rfl (v_extract rfl rfl) ?_
          refine bv rfl (v_extract rfl rfl) ?_
          refine mv rfl rfl ?_
          refine mv rfl rfl ?_
          refine b_nil (hK _ (AW.to (to_le (s' := ⟨[(0, slE eStr p0), (1, HV.str p1), (2, HV.int .i64 p2), (7, HV.int .i64 x42.1), (8, HV.int .i64 x42.2)], []⟩) (AS.le_of ⟨rfl, rfl, rfl, rfl, rfl, trivial⟩ trivial) ?_)))
          clear hK K
          refine AW.rgs rfl fun K hK => ?_
          refine mv rfl rfl ?_
          obtain ⟨x44, h45, h⟩ := bS h
          refine bv rfl (v_idxF ty30 es30 rfl rfl (idx_lt h45)) ?_
          refine bv rfl (v_loadF ty9 rfl (l_cell eStr h45 (o := 0) rfl rfl)) ?_
          refine mv rfl rfl ?_
          obtain ⟨x46, h47, h⟩ := bS h
          refine b_op rfl (o_call rfl rfl rfl rfl (ACallD.pure0 (w_ref46_Hamming h47)) ?_)
          refine mv rfl rfl ?_
          refine bv rfl (v_extract rfl rfl) ?_
          refine bv rfl (v_extract rfl rfl) ?_
          refine mv rfl rfl ?_
          refine mv rfl rfl ?_
          refine b_nil (hK _ (AW.to (to_le (s' := ⟨[(0, slE eStr p0), (1, HV.str p1), (2, HV.int .i64 p2), (7, HV.int .i64 x42.1), (8, HV.int .i64 x42.2), (9, HV.int .i64 x46.1), (10, HV.int .i64 x46.2)], []⟩) (AS.le_of ⟨rfl, rfl, rfl, rfl, rfl, rfl, rfl, trivial⟩ trivial) ?_)))
          clear hK K
          refine AW.seqJ h (S := Bool) (V := Unit) (fun a v => ⟨[(0, slE eStr p0), (1, HV.str p1), (2, HV.int .i64 p2), (59, HV.bool a)], []⟩) (fun a48 w49 h => ?_) (fun k50 h => ?_)
          · refine AW.cond rfl (fun hc => ?_) (fun hc => ?_)
            · have h := ifT hc h
              refine AW.rgs rfl fun K hK => ?_
              refine mv rfl rfl ?_
              refine b_nil (hK _ (AW.to (to_le (s' := ⟨[(6, HV.bool false)], []⟩) (AS.le_of ⟨rfl, trivial⟩ trivial) ?_)))
              clear hK K
              refine AW.ret ?_
              have h := Option.some.inj h
              subst h
              exact ret_pure (hs := [HV.bool false]) (q := HV.bool false) (.inr rfl) (resT rfl rfl) rfl trivial
            · have h := ifF (bF' hc) h
              refine AW.skip ?_
              exact to_le (s' := ⟨[(0, slE eStr p0), (1, HV.str p1), (2, HV.int .i64 p2)], []⟩) (AS.le_of ⟨rfl, rfl, rfl, trivial⟩ trivial) ⟨(), (), h, rfl⟩
          · refine AW.rg rfl fun K hK => ?_
            refine mv rfl rfl ?_
            refine mv rfl rfl ?_
            refine bv rfl (v_bin rfl rfl b_neq) ?_
            refine mv rfl rfl ?_
            by_cases hg51 : x42.1 ≠ x46.1
            · have h := ifT hg51 h
              refine b_F rfl rfl rfl rfl rfl (decide_eq_true hg51) ?_
              refine b_F rfl rfl rfl rfl rfl rfl ?_
              refine b_F rfl rfl rfl rfl rfl rfl ?_
              refine bv rfl (v_pickT rfl rfl rfl) ?_
              refine b_nil (hK _ ?_)
              clear hK K
              exact to_le (s' := ⟨[(0, slE eStr p0), (1, HV.str p1), (2, HV.int .i64 p2), (59, HV.bool true)], []⟩) (AS.le_of ⟨rfl, rfl, rfl, rfl, trivial⟩ trivial) ⟨true, (), h, rfl⟩
            · have h := ifF hg51 h
              refine b_T rfl rfl rfl rfl (decide_eq_false hg51) (o_val rfl (mv_val rfl rfl).2 ?_)
              refine b_T rfl rfl rfl rfl rfl (o_val rfl (mv_val rfl rfl).2 ?_)
              refine b_T rfl rfl rfl rfl rfl (o_val rfl (v_bin rfl rfl b_neq) ?_)
              refine bv rfl (v_pickF rfl rfl rfl) ?_
              refine b_nil (hK _ ?_)
              clear hK K
              exact to_le (s' := ⟨[(0, slE eStr p0), (1, HV.str p1), (2, HV.int .i64 p2), (59, HV.bool (decide (x42.2 ≠ x46.2)))], []⟩) (AS.le_of ⟨rfl, rfl, rfl, rfl, trivial⟩ trivial) ⟨decide (x42.2 ≠ x46.2), (), h, rfl⟩
        · have hc := of_decide_eq_false hc
          have h := ifF hc h
          refine AW.skip ?_
          exact to_le (s' := ⟨[(0, slE eStr p0), (1, HV.str p1), (2, HV.int .i64 p2)], []⟩) (AS.le_of ⟨rfl, rfl, rfl, trivial⟩ trivial) ⟨(), (), h, rfl⟩
  · refine AW.rg rfl fun K hK => ?_
    refine mv rfl rfl ?_
    obtain ⟨x52, h53, h⟩ := bS h
    refine b_op rfl (o_call rfl rfl rfl rfl (ACallD.pure0 (w_ref46_Great h53)) ?_)
    refine mv rfl rfl ?_
    by_cases hg54 : x52 = true
    · have h := ifT hg54 h
      refine b_F rfl rfl rfl rfl rfl hg54 ?_
      refine b_F rfl rfl rfl rfl rfl rfl ?_
      refine b_F rfl rfl rfl rfl rfl rfl ?_
      refine bv rfl (v_pickT rfl rfl rfl) ?_
      refine b_nil (hK _ ?_)
      clear hK K
      exact to_le (s' := ⟨[(0, slE eStr p0), (1, HV.str p1), (2, HV.int .i64 p2), (31, HV.bool true)], []⟩) (AS.le_of ⟨rfl, rfl, rfl, rfl, trivial⟩ trivial) ⟨true, (), h, rfl⟩
    · have h := ifF hg54 h
      refine b_T rfl rfl rfl rfl (bF hg54) (o_val rfl (mv_val rfl rfl).2 ?_)
      refine b_T rfl rfl rfl rfl rfl (o_val rfl (v_lenS rfl rfl ty9 rfl) ?_)
      refine b_T rfl rfl rfl rfl rfl (o_val rfl (v_bin rfl rfl b_gtr) ?_)
      refine bv rfl (v_pickF rfl rfl rfl) ?_
      refine b_nil (hK _ ?_)
      clear hK K
      exact to_le (s' := ⟨[(0, slE eStr p0), (1, HV.str p1), (2, HV.int .i64 p2), (31, HV.bool (decide (20 < ((p1).length : Int))))], []⟩) (AS.le_of ⟨rfl, rfl, rfl, rfl, trivial⟩ trivial) ⟨decide (20 < ((p1).length : Int)), (), h, rfl⟩

end Go.AW

/- The nearest text; the sizes; the law of lists. -/
namespace Go.AW
open Go Go.Proofs
set_option linter.unusedSimpArgs false

def nearF (l : List (List UInt8)) (w : List UInt8) (k i : Nat) : Nat := if ham (l.getD i []) w < ham (l.getD k []) w then i else k
def nearN (l : List (List UInt8)) (w : List UInt8) : Nat := (List.range l.length).foldl (nearF l w) 0
def nearE (l : List (List UInt8)) (w : List UInt8) : Int × Int × Int := if l.length = 0 then (0, 0, 5) else if (∃ u ∈ l, u.length ≠ w.length) then (0, 0, 11) else ((nearN l w : Int), (ham (l.getD (nearN l w) []) w : Int), 0)

theorem nearF_lt {l : List (List UInt8)} {w : List UInt8} {k i : Nat} (hi : i < l.length) (hk : k < l.length) : nearF l w k i < l.length := by
  unfold nearF; split <;> assumption
theorem near_lt {l : List (List UInt8)} {w : List UInt8} (h : 0 < l.length) : nearN l w < l.length := by
  unfold nearN
  have : ∀ (xs : List Nat) (k : Nat), (∀ i ∈ xs, i < l.length) → k < l.length → xs.foldl (nearF l w) k < l.length := by
    intro xs
    induction xs with
    | nil => exact fun k _ h => h
    | cons x xs ih => exact fun k hx hk => ih _ (fun i hi => hx i (List.mem_cons_of_mem _ hi)) (nearF_lt (hx x (List.mem_cons_self ..)) hk)
  exact this _ 0 (fun i hi => List.mem_range.1 hi) h

theorem hamw {l : List (List UInt8)} {w : List UInt8} (hl : ∀ u ∈ l, u.length = w.length) (hw : w.length ≤ 9223372036854775807) {i : Nat} (hi : i < l.length) : m_distance_hamming l[i] w = some (ham (l.getD i []) w : Int) := by
  have h1 := hl _ (List.getElem_mem hi)
  rw [hamming_eq (by omega) (by omega), getD_at hi]

theorem sizes_any {l : List (List UInt8)} {w : List UInt8} : (List.range l.length).any (fun i => decide ((l.getD i []).length ≠ w.length)) = true ↔ ∃ u ∈ l, u.length ≠ w.length := by
  constructor
  · intro h
    obtain ⟨i, hi, hp⟩ := List.any_eq_true.1 h
    have hi := List.mem_range.1 hi
    rw [getD_at hi] at hp
    exact ⟨_, List.getElem_mem hi, of_decide_eq_true hp⟩
  · rintro ⟨u, hu, hne⟩
    obtain ⟨i, hi, rfl⟩ := List.getElem_of_mem hu
    exact List.any_eq_true.2 ⟨i, List.mem_range.2 hi, by rw [getD_at hi]; exact decide_eq_true hne⟩

theorem Nearest_eq (l : List (List UInt8)) (w : List UInt8) (hm : l.length ≤ 9223372036854775807) (hw : w.length ≤ 9223372036854775807) : m_distance_Nearest l w = some (nearE l w) := by
  unfold m_distance_Nearest nearE
  by_cases h0 : l.length = 0
  · rw [if_pos (by omega), if_pos h0]
  · rw [if_neg (by omega), if_neg h0]
    refine lpL (loop_any (fun i => (i : Int)) l.length (fun i => decide ((l.getD i []).length ≠ w.length)) (Ou.ret (0, 0, 11)) (Ou.go ()) (fun i hi => ?_) (by rw [if_neg (not_lt_int _)]) rfl) ?_
    · rw [if_pos (lt_int hi), ix hi]
      simp only [Option.bind_some, nx hm hi, getD_at hi, decide_eq_true_eq]
      by_cases he : l[i].length = w.length
      · rw [if_neg (by omega), if_neg (by omega)]
      · rw [if_pos (by omega), if_pos he]
    · by_cases ha : ∃ u ∈ l, u.length ≠ w.length
      · rw [if_pos (sizes_any.2 ha), if_pos ha]
        rfl
      · rw [if_neg (fun h => ha (sizes_any.1 h)), if_neg ha]
        have hl : ∀ u ∈ l, u.length = w.length := fun u hu => Classical.byContradiction fun h => ha ⟨u, hu, h⟩
        have hp : 0 < l.length := by omega
        simp only [lpO]
        unfold m_distance_nearest_string
        rw [ix0 hp]
        simp only [Option.bind_some, m_distance_Nearest_1, hamw hl hw hp]
        have e : ∀ o : Option (Int × Int), o = some ((nearN l w : Int), (ham (l.getD (nearN l w) []) w : Int)) → (o.bind fun x9 => some (x9.1, x9.2, (0 : Int))) = some ((nearN l w : Int), (ham (l.getD (nearN l w) []) w : Int), 0) := fun o h => by rw [h]; rfl
        refine e _ (bindL (loop_fold (fun i (k : Nat) => ((k : Int), (ham (l.getD k []) w : Int), (i : Int))) l.length (nearF l w) (fun k => ((k : Int), (ham (l.getD k []) w : Int))) (fun k => k < l.length) (fun i k hi hk => nearF_lt hi hk) (fun i k hi hk => ?_) (fun k _ => ?_) 0 hp rfl) rfl)
        · dsimp only
          rw [if_pos (lt_int hi)]
          simp only [jp, ix hi, Option.bind_some, hamw hl hw hi, nx hm hi]
          unfold nearF
          by_cases hlt : ham (l.getD i []) w < ham (l.getD k []) w
          · rw [if_pos (by omega), if_pos hlt]
          · rw [if_neg (by omega), if_neg hlt]
        · dsimp only
          rw [if_neg (not_lt_int _)]

theorem near_succ {l : List (List UInt8)} {w : List UInt8} (h : 0 < l.length) : nearN l w = (List.range (l.length - 1)).foldl (fun k i => nearF l w k (i + 1)) 0 := by
  unfold nearN
  obtain ⟨n, hn⟩ : ∃ n, l.length = n + 1 := ⟨l.length - 1, by omega⟩
  rw [hn, List.range_succ_eq_map, List.foldl_cons, List.foldl_map]
  have : nearF l w 0 0 = 0 := by unfold nearF; split <;> rfl
  rw [this]
  rfl

theorem refNearest_eq (l : List (List UInt8)) (w : List UInt8) (hm : l.length ≤ 9223372036854775807) (hw : w.length ≤ 9223372036854775807) : m_ref46_Nearest l w = some (nearE l w) := by
  unfold m_ref46_Nearest nearE
  by_cases h0 : l.length = 0
  · rw [if_pos (by omega), if_pos h0]
  · rw [if_neg (by omega), if_neg h0]
    refine lpL (loop_any (fun i => (i : Int)) l.length (fun i => decide ((l.getD i []).length ≠ w.length)) (Ou.ret (0, 0, 11)) (Ou.go ()) (fun i hi => ?_) (by rw [if_neg (not_lt_int _)]) rfl) ?_
    · rw [if_pos (lt_int hi), ix hi]
      simp only [Option.bind_some, nx hm hi, getD_at hi, decide_eq_true_eq]
      by_cases he : l[i].length = w.length
      · rw [if_neg (by omega), if_neg (by omega)]
      · rw [if_pos (by omega), if_pos he]
    · by_cases ha : ∃ u ∈ l, u.length ≠ w.length
      · rw [if_pos (sizes_any.2 ha), if_pos ha]
        rfl
      · rw [if_neg (fun h => ha (sizes_any.1 h)), if_neg ha]
        have hl : ∀ u ∈ l, u.length = w.length := fun u hu => Classical.byContradiction fun h => ha ⟨u, hu, h⟩
        have hp : 0 < l.length := by omega
        simp only [lpO]
        rw [near_succ hp]
        refine bindL (loop_fold (fun i (k : Nat) => ((k : Int), ((i + 1 : Nat) : Int))) (l.length - 1) (fun k i => nearF l w k (i + 1)) (fun k => (k : Int)) (fun k => k < l.length) (fun i k hi hk => nearF_lt (by omega) hk) (fun i k hi hk => ?_) (fun k _ => ?_) 0 hp rfl) ?_
        · have hi' : i + 1 < l.length := by omega
          dsimp only
          rw [if_pos (lt_int hi')]
          simp only [jp, ix hi', ix hk, Option.bind_some, ref_hamming, hamw hl hw hi', hamw hl hw hk, nx hm hi']
          unfold nearF
          by_cases hlt : ham (l.getD (i + 1) []) w < ham (l.getD k []) w
          · rw [if_pos (by omega), if_pos hlt]
          · rw [if_neg (by omega), if_neg hlt]
        · dsimp only
          rw [if_neg (by omega)]
        · rw [← near_succ hp]
          have hn := near_lt (w := w) hp
          rw [ix hn]
          simp only [Option.bind_some, ref_hamming, hamw hl hw hn]

theorem Great_eq (l : List (List UInt8)) (hm : l.length ≤ 9223372036854775807) : ∃ b, m_ref46_Great l = some b ∧ (b = false → l.length ≤ 4099 ∧ ∀ u ∈ l, u.length ≤ 20) := by
  unfold m_ref46_Great
  have key : ∀ o : Option (Ou Int Bool), (∃ x, o = some x ∧ (x = .ret true ∨ ∃ c, x = .go c ∧ ∀ u ∈ l, u.length ≤ 20)) → ∃ b, lpO o (fun a9 =>
      jp (fun (a11 : Bool) => some a11) fun k13 =>
        if 12 < ((l).length : Int) then
          if ((l).length : Int) ≤ 4096 then k13 true
          else if 0 < a9 then k13 true else k13 (decide (4099 < ((l).length : Int)))
        else k13 (decide (4099 < ((l).length : Int)))) some = some b ∧ (b = false → l.length ≤ 4099 ∧ ∀ u ∈ l, u.length ≤ 20) := by
    rintro o ⟨x, rfl, rfl | ⟨c, rfl, hu⟩⟩
    · exact ⟨true, rfl, fun e => by cases e⟩
    · simp only [lpO, jp]
      split
      · split
        · exact ⟨true, rfl, fun e => by cases e⟩
        · split
          · exact ⟨true, rfl, fun e => by cases e⟩
          · exact ⟨_, rfl, fun e => ⟨by have := of_decide_eq_false e; omega, hu⟩⟩
      · exact ⟨_, rfl, fun e => ⟨by have := of_decide_eq_false e; omega, hu⟩⟩
  refine key _ ?_
  refine loopN l.length (fun i (s : Int × Int) => s.2 = (i : Int) ∧ ∀ u ∈ l.take i, u.length ≤ 20) ?_ ?_ 0 _ (Nat.zero_le _) ⟨rfl, by simp⟩
  · rintro i ⟨c, j⟩ hi ⟨rfl, hu⟩
    dsimp only
    rw [if_pos (lt_int hi), ix hi]
    simp only [Option.bind_some, nx hm hi]
    by_cases h20 : 20 < l[i].length
    · rw [if_pos (by omega)]
      exact .inr ⟨_, rfl, .inl rfl⟩
    · rw [if_neg (by omega)]
      refine .inl ⟨_, rfl, rfl, fun u hu' => ?_⟩
      rw [List.take_add_one, List.getElem?_eq_getElem hi, List.mem_append] at hu'
      rcases hu' with h | h
      · exact hu u h
      · simp only [Option.toList_some, List.mem_singleton] at h
        rw [h]; omega
  · rintro ⟨c, j⟩ ⟨rfl, hu⟩
    dsimp only
    rw [if_neg (not_lt_int _)]
    rw [List.take_length] at hu
    exact ⟨_, rfl, .inr ⟨c, rfl, hu⟩⟩

def hamE (u v : List UInt8) : Int × Int := if u.length = v.length then ((ham u v : Int), 0) else (0, 11)
theorem Hamming_eq {u v : List UInt8} (hm : u.length ≤ 9223372036854775807) : m_distance_Hamming u v = some (hamE u v) := by
  unfold m_distance_Hamming hamE
  by_cases h : u.length = v.length
  · rw [if_neg (by omega), if_pos h, hamming_eq (by omega) hm]
    rfl
  · rw [if_pos (by omega), if_neg h]

theorem law_lists {l : List (List UInt8)} {w : List UInt8} {d : Int} (hm : l.length ≤ 9223372036854775807) : m_law46_DistanceLists l w d = some true := by
  obtain ⟨b, hb, hs⟩ := Great_eq l hm
  unfold m_law46_DistanceLists
  simp only [jp, hb, Option.bind_some, m_law46_awake]
  cases b with
  | true => simp
  | false =>
    obtain ⟨h4, h20⟩ := hs rfl
    by_cases hw : w.length ≤ 20
    · have hw' : ¬ 20 < (w.length : Int) := by omega
      have h1 : ∀ u ∈ l, u.length ≤ 1000000 := fun u hu => Nat.le_trans (h20 u hu) (by omega)
      have h2 : ∀ u ∈ l, u.length ≤ 9223372036854775807 := fun u hu => Nat.le_trans (h20 u hu) (by omega)
      have hsp : (specE l).1.length ≤ 9223372036854775807 := by
        unfold specE specN
        split
        · simp
        · split
          · simp
          · have hP : ∀ (xs : List Int) (a : List Int), (xs.foldl cntF a).length = a.length := by
              intro xs
              induction xs with
              | nil => exact fun _ => rfl
              | cons x xs ih => exact fun a => by rw [List.foldl_cons, ih, cntF_len]
            rw [hP, List.length_replicate]
            have : (l.headD []).length ≤ 20 := by
              cases l with
              | nil => simp
              | cons x xs => exact h20 x (List.mem_cons_self ..)
            omega
      simp only [Bool.false_eq_true, if_false, hw', decide_false, Least_eq, refLeast_eq l h2, Spectrum_eq l h1, refSpectrum_eq l h1, Nearest_eq l w hm (by omega), refNearest_eq l w hm (by omega), Check_eq, refCheck_eq l d h1, Option.bind_some, if_true, EqualI_eq hsp, decide_true, ne_eq, not_true_eq_false]
      by_cases h0 : 0 < l.length
      · rw [if_pos (by omega), ix0 h0]
        simp only [Option.bind_some, ref_Hamming, Hamming_eq (h2 _ (List.getElem_mem h0)), not_true_eq_false, if_false, decide_false, Bool.false_eq_true]
      · rw [if_neg (by omega)]
    · have hw' : 20 < (w.length : Int) := by omega
      simp [hw']
end Go.AW

namespace Go.AW
open Go Go.ChangeShapes Go.WideShapes Go.ChangeAt Go.RowKit

/-- of what was there nothing turns -/
def Kept (W W' : World) : Prop := W'.os = W.os ∧ W'.output = W.output ∧ W.heap.size ≤ W'.heap.size ∧ ∀ b : Nat, b < W.heap.size → W'.heap[b]? = W.heap[b]?

theorem Kept.frame {W W' : World} (h : Kept W W') (may : MemPlace → Prop) : W.keptBut W' may := by
  refine ⟨h.1, h.2.1, fun i hi => ?_⟩
  rw [h.2.2.2 i hi]
  cases W.heap[i]? with
  | none => rfl
  | some o => cases o with
    | cells c t fr => exact ⟨rfl, rfl, rfl, fun _ _ => rfl⟩
    | map es clock => exact .inr ⟨rfl, rfl⟩
    | _ => rfl

theorem Kept.frozen {W W' : World} (h : Kept W W') (a : Addr) (ha : a.block < W.heap.size) : W'.frozen? a = W.frozen? a := by
  simp only [World.frozen?, h.2.2.2 _ ha]

def Mu.zero : Mu := { nx := 0, loc := fun _ => none, held := fun _ => False }

theorem SR.zero (W : World) : SR W Mu.zero [] :=
  ⟨(fun _ _ _ h => by cases h), (fun _ _ _ h => by cases h), (fun _ _ h => by cases h), (fun _ _ _ _ _ h => by cases h), (fun _ h => h.elim)⟩

theorem calls_of_pure {P : Program} {f : FuncId} {args : List HV} {vs : List Value} {W : World} (hp : Pure P f args (· = .bool true)) (hr : RepL W Mu.zero args vs) :
    Calls P f vs.toArray W fun e W' => e = .returned (.bool true) ∧ Kept W W' := by
  refine (hp.2 Mu.zero W vs (SR.zero W) hr).mono ?_
  rintro e W' ⟨v, r, H', μ', rfl, ⟨rfl, _, _⟩, hs, hv, E⟩
  have hv' : v = .bool true := hv
  subst hv'
  exact ⟨rfl, E.os, E.output, E.size, fun b hb => E.keep b hb fun ⟨_, _, hl⟩ => by cases hl⟩

theorem rep_string {W : World} {μ : Mu} (s : ByteArray) (h : s.size ≤ maxLen) : Rep W μ (.str s.data.toList) (.string s) := by
  refine ⟨by cases s; simp, ?_⟩
  have : s.data.toList.length = s.size := by simp
  omega

theorem post_of_kept {H : Type} {enc : TypeId × Value → H} {P : Program} {f : Func} {s : ChangeSpec} {apart fresh handsOn again : Bool} {W W' : World} {args : Array Value} {v : Value} {ds gs : List (DataW H)} {before pa pv : List MemPlace}
    (hW : DataW.Whole enc P f.params.toList s.vars apart W args.toList ds gs before)
    (hres : ∀ (b : Nat) (sp : Nat → Bool) (hd : Bool), DataW.TrodAll enc P W' b sp hd f.resultTypes.toList (v.resultList f.resultTypes.size) (s.fn H (ds ++ gs)).results [])
    (hargs : ∀ sp : Nat → Bool, (∀ p ∈ before, sp p.block = true) → DataW.TrodAll enc P W' 0 sp true f.params.toList args.toList (s.fn H (ds ++ gs)).args pa)
    (hvars : ∀ sp : Nat → Bool, (∀ p ∈ before, sp p.block = true) → DataW.TrodVars enc P W' sp s.vars (s.fn H (ds ++ gs)).vars pv)
    (hps : before = pa ++ pv) (hk : Kept W W')
    (hok : ∀ (j : Nat) (t : TypeId) (r : Value), f.resultTypes[j]? = some t → (v.resultList f.resultTypes.size)[j]? = some r → Value.okWide P W' .any 0 t r) :
    s.post enc P f apart fresh handsOn again W args v W' := by
  have hold : ∀ p ∈ before, (fun b => decide (b < W.heap.size)) p.block = true := fun p hp => by simpa using hW.lt p hp
  refine ⟨ds, gs, before, [], pa, pv, hW, hres _ _ _, hargs _ hold, hvars _ hold, World.keptBut_mono (fun p hp => ⟨hp, ?_⟩) (hk.frame (· ∈ before)), fun _ => ?_⟩
  · rw [hps, List.mem_append] at hp
    exact Or.inr hp
  · have hlt := hW.lt
    obtain ⟨_, _, _, _, _, hz, hn⟩ := hW
    refine ⟨hok, _, _, ([] ++ pa) ++ pv, ⟨[] ++ pa, pv, trodAll_append (hargs _ (fun _ _ => rfl)) (hres _ _ _), hvars _ (fun _ _ => rfl), rfl, ?_, ?_⟩, ?_⟩
    · intro b off hp
      have hp' : MemPlace.cell b off ∈ before := by rw [hps]; simpa using hp
      rw [hk.frozen _ (hlt _ hp')]
      exact hz b off hp'
    · intro ha
      have := hn ha
      rw [hps] at this
      simpa using this
    · intro p hp _
      rw [hps]
      simpa using hp
end Go.AW

/- Arguments: from what is read of them to what the layer says of them; and the law's end for any arguments. -/
namespace Go.AW
open Go Go.ChangeShapes Go.WideShapes Go.ChangeAt Go.RowKit

theorem rowAt_le {p : Program} {fits : TypeId → Bool} {d : Nat} {e : TypeId} {count off n : Nat} (h : rowAt p fits d e count off n = true) : off ≤ count * p.cellsOf e := by
  cases d with
  | zero => simp [rowAt] at h
  | succ d =>
    unfold rowAt at h
    simp only at h
    split at h
    · cases h
    · rename_i hs
      have hs' : 0 < p.cellsOf e := Nat.pos_of_ne_zero hs
      have hd := Nat.div_add_mod off (p.cellsOf e)
      rw [Nat.mul_comm] at hd
      simp only [Bool.or_eq_true, Bool.and_eq_true, beq_iff_eq, decide_eq_true_eq] at h
      rcases h with ⟨⟨h0, h1⟩, _⟩ | ⟨h1, _⟩
      · rw [← hd, h0, Nat.add_zero]
        exact Nat.mul_le_mul_right _ (by omega)
      · have hm := Nat.mod_lt off hs'
        have : (off / p.cellsOf e + 1) * p.cellsOf e ≤ count * p.cellsOf e := Nat.mul_le_mul_right _ h1
        rw [Nat.add_mul] at this
        omega

theorem liesAt_le {p : Program} {d : Nat} {e u : TypeId} {count off n : Nat} (h : liesAt p d e count off u n = true) : off ≤ count * p.cellsOf e := by
  induction d generalizing u n with
  | zero => simp [liesAt] at h
  | succ d ih =>
    unfold liesAt at h
    rw [Bool.or_eq_true] at h
    rcases h with h | h
    · exact rowAt_le h
    · split at h
      · exact ih h
      · cases h

/-- where an argument's slice lies -/
theorem has_seg {P : Program} {W : World} {r : Reach} {base : Nat} {a : Addr} {e : TypeId} {cap : Nat} (h : W.has P r base a e cap) {vs : List Value} (hc : ∀ i (hi : i < vs.length), W.cell? (a.add i) = some vs[i]) :
    ∃ b off, a = ⟨b, off, none⟩ ∧ Seg W b off vs := by
  obtain ⟨_, hsp, row, cells, hsh, hl⟩ := h
  obtain ⟨b, off, spot⟩ := a
  dsimp only at hsp hsh hl
  subst hsp
  refine ⟨b, off, rfl, ?_⟩
  unfold World.shape? at hsh
  split at hsh
  · rename_i cur e' fr hb
    simp only [Option.some.injEq, Prod.mk.injEq] at hsh
    obtain ⟨rfl, rfl⟩ := hsh
    have hoff : off ≤ cur.size := Nat.le_trans (liesAt_le hl) (Nat.div_mul_le_self _ _)
    have hget : ∀ i (hi : i < vs.length), cur.toList[off + i]? = some vs[i] := fun i hi => by
      have := hc i hi
      rw [add_plain] at this
      unfold World.cell? at this
      rw [hb] at this
      simpa using this
    refine ⟨cur, e', fr, cur.toList.take off, cur.toList.drop (off + vs.length), hb, ?_, by simp [hoff]⟩
    have hvs : vs = (cur.toList.drop off).take vs.length := by
      apply List.ext_getElem?
      intro i
      rcases Nat.lt_or_ge i vs.length with hi | hi
      · rw [List.getElem?_take_of_lt hi, List.getElem?_drop, hget i hi, List.getElem?_eq_getElem hi]
      · rw [List.getElem?_eq_none hi, List.getElem?_eq_none (by simp; omega)]
    have : vs ++ cur.toList.drop (off + vs.length) = cur.toList.drop off := by
      conv => lhs; arg 1; rw [hvs]
      rw [← List.drop_drop]
      exact List.take_append_drop _ _
    rw [List.append_assoc, this, List.take_append_drop]
  · cases hsh

theorem nown (b : Nat) : ¬ Mu.zero.owns b := fun h => h.elim (fun ⟨_, _, h⟩ => by cases h) id

/-- texts -/
theorem open_texts {H : Type} {enc : TypeId × Value → H} {P : Program} {W : World} {base : Nat} {t e : TypeId} {v : Value} {d : DataW H} {ps : List MemPlace} (ht : P.underlying t = some (.slice e)) (he : P.underlying e = some .string) (hc : P.cellsOf e = 1)
    (hval : Value.okWide P W .any base t v) (h : DataW.Trod enc P W 0 (fun _ => true) true t v d ps) : ∃ l : List (List UInt8), Rep W Mu.zero (AW.strs l) v := by
  obtain ⟨a, len, cap, rfl⟩ := okWide_slice ht hval
  obtain ⟨fuel, hf⟩ := h
  rcases open_strings ht he hc hf with ⟨hcs, hx⟩ | ⟨a', len', cap', ss, hcs, _, hl, hm, hz, hx, hcell, hsz⟩
  · simp [Value.cells] at hcs
    obtain ⟨rfl, rfl, rfl⟩ := hcs
    refine ⟨[], ?_⟩
    show _ ∧ _
    exact ⟨fun _ h => (by cases h), rfl, Nat.zero_le _, .inl ⟨rfl, rfl⟩⟩
  · simp [Value.cells] at hcs
    obtain ⟨rfl, rfl, rfl⟩ := hcs
    simp only [if_true] at hz
    have hhas : W.has P .any base a' e cap := by
      simp only [Value.okWide, ht, Cell.okWide, Cell.ok] at hval
      exact hval.2.2
    obtain ⟨b, off, rfl, hseg⟩ := has_seg hhas (vs := (ss.take len).map .string) (fun i hi => by
      simp at hi
      rw [hcell i (by omega)]
      simp [List.getD, List.getElem?_eq_getElem (show i < ss.length by omega)])
    refine ⟨(ss.take len).map (·.data.toList), ⟨fun c hc => ?_, by simp, ?_, .inr ⟨b, off, cap, (ss.take len).map .string, ?_, by simp; omega, nown b, hseg, ?_⟩⟩⟩
    · obtain ⟨x, _, rfl⟩ := List.mem_map.1 hc
      rfl
    · simp; omega
    · simp; omega
    · have : ∀ l : List ByteArray, (∀ s ∈ l, s.size ≤ maxLen) → RepL W Mu.zero ((l.map (·.data.toList)).map .str) (l.map .string) := by
        intro l
        induction l with
        | nil => intro _; rfl
        | cons s l ih => exact fun hl => ⟨_, _, rfl, rep_string s (hl s (List.mem_cons_self ..)), ih fun x hx => hl x (List.mem_cons_of_mem _ hx)⟩
      exact this _ fun s hs => hsz s (List.mem_of_mem_take hs)

/-- a number -/
theorem open_num {H : Type} {enc : TypeId × Value → H} {P : Program} {W : World} {base : Nat} {t : TypeId} {k : IntKind} {v : Value} {d : DataW H} {ps : List MemPlace} (ht : P.underlying t = some (.int k))
    (hval : Value.okWide P W .any base t v) (h : DataW.Trod enc P W 0 (fun _ => true) true t v d ps) : ∃ n : Int, (Lit.int k n).wf = true ∧ Rep W Mu.zero (.int k n) v := by
  obtain ⟨n, rfl, _, _, hw⟩ := open_int ht hval h
  exact ⟨n, hw, rfl, hw⟩

/-- a byte -/
theorem open_u8 {H : Type} {enc : TypeId × Value → H} {P : Program} {W : World} {base : Nat} {t : TypeId} {v : Value} {d : DataW H} {ps : List MemPlace} (ht : P.underlying t = some (.int .u8))
    (hval : Value.okWide P W .any base t v) (h : DataW.Trod enc P W 0 (fun _ => true) true t v d ps) : ∃ b : UInt8, Rep W Mu.zero (.int .u8 (b.toNat : Int)) v := by
  obtain ⟨n, hw, hr⟩ := open_num ht hval h
  have hw' : (0 : Int) ≤ n ∧ n ≤ 255 := by
    simp only [Lit.wf, Bool.and_eq_true, decide_eq_true_eq] at hw
    exact hw
  refine ⟨UInt8.ofNat n.toNat, ?_⟩
  have : ((UInt8.ofNat n.toNat).toNat : Int) = n := by
    rw [UInt8.toNat_ofNat']
    omega
  rw [this]
  exact hr

/-- the arguments read again -/
theorem trodAll_stays {H : Type} {enc : TypeId × Value → H} {P : Program} (hl : laidOutB P = true) {W W' : World} {sp : Nat → Bool} : ∀ {ts : List TypeId} {vs : List Value} {ds : List (DataW H)} {ps : List MemPlace},
    (ts.all fun t => P.readableRec t && decide (t < P.types.size)) = true → DataW.TrodAll enc P W 0 (fun _ => true) true ts vs ds ps → (∀ p ∈ ps, W.sameAt W' p) → (∀ p ∈ ps, sp p.block = true) → DataW.TrodAll enc P W' 0 sp true ts vs ds ps
  | [], vs, ds, ps, _, h, _, _ => by
    obtain ⟨rfl, rfl, rfl⟩ := trodAll_nil h
    exact trodAll_mk0
  | t :: ts, vs, ds, ps, ht, h, h1, h2 => by
    obtain ⟨v, vs', d, ds', p, q, rfl, rfl, rfl, h3, h4⟩ := trodAll_cons h
    simp only [List.all_cons, Bool.and_eq_true, decide_eq_true_eq] at ht
    exact trodAll_cons_mk (WideElems.Trod_stays hl ht.1.1 ht.1.2 h3 (fun x hx => h1 x (List.mem_append_left _ hx)) (fun x hx => h2 x (List.mem_append_left _ hx)))
      (trodAll_stays hl ht.2 h4 (fun x hx => h1 x (List.mem_append_right _ hx)) (fun x hx => h2 x (List.mem_append_right _ hx)))

theorem Kept.same {W W' : World} (h : Kept W W') (p : MemPlace) (hp : p.block < W.heap.size) : W.sameAt W' p := by
  cases p with
  | cell b off =>
    show W'.cell? ⟨b, off, none⟩ = W.cell? ⟨b, off, none⟩
    unfold World.cell?
    rw [h.2.2.2 b hp]
  | map b => exact h.2.2.2 b hp

/-- A LAW'S END: true, and the arguments read as they did. -/
theorem post_of_true {H : Type} {enc : TypeId × Value → H} {P : Program} {f : Func} {s : ChangeSpec} {apart fresh handsOn again : Bool} {W W' : World} {args : Array Value} {ds gs : List (DataW H)} {before : List MemPlace} {t : TypeId}
    (hl : laidOutB P = true) (hps : (f.params.toList.all fun t => P.readableRec t && decide (t < P.types.size)) = true) (hres : f.resultTypes = #[t]) (ht : P.underlying t = some .bool) (hv : s.vars = [])
    (hW : DataW.Whole enc P f.params.toList s.vars apart W args.toList ds gs before) (hk : Kept W W')
    (h1 : (s.fn H (ds ++ gs)).results = [.lit (.bool true)]) (h2 : (s.fn H (ds ++ gs)).args = ds) (h3 : (s.fn H (ds ++ gs)).vars = []) :
    s.post enc P f apart fresh handsOn again W args (.bool true) W' := by
  have hlt := hW.lt
  have hW' := hW
  obtain ⟨p, q, hA, hV, rfl, _, _⟩ := hW
  rw [hv] at hV
  obtain ⟨rfl, rfl⟩ := trodVars_none hV
  refine post_of_kept (pa := p) (pv := []) hW' (fun _ _ _ => ?_) (fun sp hsp => ?_) (fun _ _ => ?_) (by simp) hk (ok_one hres rfl (okWide_bool_mk ht _))
  · rw [hres, h1]
    exact trodAll_cons_mk (shut_bool ht _) trodAll_mk0
  · rw [h2]
    exact trodAll_stays hl hps hA (fun x hx => hk.same x (hlt x (by simpa using hx))) (fun x hx => hsp x (by simpa using hx))
  · rw [h3, hv]
    rfl
end Go.AW

namespace Go.Proofs.Ytccnafddjjamoaa
open Go Go.AW Go.ChangeShapes Go.WideShapes Go.ChangeAt Go.RowKit Go.ChangeMaps
set_option linter.unusedVariables false

theorem ownM : ownKnob Try.prog.godebug = none := by kernel_rfl
theorem laidB : laidOutB Try.prog = true := by kernel_rfl

theorem w6 (l : List (List UInt8)) (w : List UInt8) (d : Int) : Pure Try.prog 6 [strs l, .str w, .int .i64 d] (· = .bool true) :=
  ACall.facts (enters' Try.func6 rfl rfl) fun hf => w_law46_DistanceLists (law_lists hf.1.1)

set_option maxRecDepth 100000 in
theorem liftedL (os : Os) (started : os.Started) (H : Type) (enc : TypeId × Value → H) :
    ReturnsInHanded {} Try.checked os 6 .any (Rows.distanceListsSpec.pre6 enc Try.prog Try.f6 Rows.distanceListsRow.domain false) (Rows.distanceListsSpec.post enc Try.prog Try.f6 false true false false) := by
  refine returnsInHanded_of_change (C := Try.checked) ownM started (by kernel_rfl) Try.func6
    (ChangeSpec.witness6 (enc := enc) (C := Try.checked) false ⟨#[], #[.slice none 0 0, .string ⟨#[]⟩, .int .i64 0], []⟩ 8 (by kernel_rfl) (by kernel_rfl) (by kernel_rfl) (by kernel_rfl)) ?_
  intro W base args ds gs before hval0 hW hcnd _
  have hval : ∀ (j : Nat) t v, Try.f6.params[j]? = some t → args[j]? = some v → Value.okWide Try.prog W .any base t v := hval0
  have hW' := hW
  obtain ⟨p, q, hA0, hV, rfl, hfz, hnd⟩ := hW
  have hA : DataW.TrodAll enc Try.prog W 0 (fun _ => true) true Try.f6.params.toList args.toList ds p := hA0
  rw [Try.params6] at hA hval
  obtain ⟨v0, vs0, d0, ds0, p0, q0, hargs, rfl, rfl, h0, r0⟩ := trodAll_cons hA
  obtain ⟨v1, vs1, d1, ds1, p1, q1, rfl, rfl, rfl, h1, r1⟩ := trodAll_cons r0
  obtain ⟨v2, vs2, d2, ds2, p2, q2, rfl, rfl, rfl, h2, r2⟩ := trodAll_cons r1
  obtain ⟨rfl, rfl, rfl⟩ := trodAll_nil r2
  obtain rfl : args = #[v0, v1, v2] := by cases args; simp_all
  obtain ⟨rfl, rfl⟩ := trodVars_none hV
  obtain ⟨l, hr0⟩ := open_texts Try.underlying30 Try.underlying9 (by kernel_rfl) (hval 0 30 v0 rfl rfl) h0
  obtain ⟨s1, rfl, _, _, l1⟩ := open_string Try.underlying9 (hval 1 9 v1 rfl rfl) h1
  obtain ⟨n, _, hr2⟩ := open_num Try.underlying3 (hval 2 3 v2 rfl rfl) h2
  refine (calls_of_pure (vs := [v0, .string s1, v2]) (w6 l s1.data.toList n) ⟨_, _, rfl, hr0, _, _, rfl, rep_string s1 l1, _, _, rfl, hr2, rfl⟩).mono fun e W' ⟨he, hk⟩ => ?_
  subst he
  exact ⟨_, rfl, post_of_true laidB (by kernel_rfl) rfl Try.underlying4 rfl hW' hk rfl rfl rfl⟩

theorem distanceListsProved : Rows.DistanceListsSaid :=
  OpenClaim.holds_of_wide 6 Try.f6 rfl rfl rfl rfl rfl rfl rfl ⟨rfl, rfl, rfl, rfl, rfl⟩ rfl rfl rfl rfl rfl (by kernel_rfl) Try.func6 (by kernel_rfl)
    (of_decide_eq_true (by kernel_rfl)) (by unfold Func.isWrapper; first | (rw [if_pos (by decide +kernel)]; kernel_rfl) | (rw [if_neg (by decide +kernel)]; exact ⟨rfl, rfl⟩))
    (fun os started H enc _ => liftedL os started H enc)
#print axioms distanceListsProved
end Go.Proofs.Ytccnafddjjamoaa
