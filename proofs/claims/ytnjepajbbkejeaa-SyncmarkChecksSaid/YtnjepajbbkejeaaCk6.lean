/- SyncmarkChecks: for every input the law's function returns true, and the input reads as it did. -/
import Derived.Test.YtnjepajbbkejeaaCk5
import Derived.ChangeMaps5
import Derived.HandedShaped
import Derived.OpenShut
import Derived.ProofKit
import Derived.SliceStrings
import Derived.Test.YtnjepajbbkejeaaRows
import Derived.WalkKit
import Derived.WideKeyArgs
namespace Go.AW
open Go Go.Proofs
set_option maxHeartbeats 1600000
set_option maxRecDepth 100000
set_option linter.unusedVariables false
theorem w_law54_SyncmarkChecks {p0 : TLabelsStatesEdges} {p1 : List UInt8} {p2 : Int} {p3 : List UInt8} {r : Bool} (h : m_law54_SyncmarkChecks p0 p1 p2 p3 = some r) : Pure Try.prog 3 [gA p0, .str p1, hI p2, .str p3] (· = HV.bool r) := by
 unfold m_law54_SyncmarkChecks at h
 refine Pure.of_body Try.func3 rfl rfl (lb rfl) fun hf => ?_
 unfold Try.f3
 dsimp only [enumS, Nat.reduceAdd]
 refine AW.rgs rfl fun K hK => b_op rfl (o_box rfl rfl rfl ?_)
 refine mv rfl rfl ?_
 refine bf hK ⟨[(1, .str p1), (2, hI p2), (3, .str p3), (4, gF p0)], []⟩ ?_
 refine AW.seq ?_
 refine AW.seqJ h (S := Bool) (V := Unit) (fun a v => ⟨[(1, .str p1), (2, hI p2), (3, .str p3), (4, gF p0), (41, .bool a)], []⟩) (fun a1 w2 h => ?_) (fun k3 h => ?_)
 ·refine AW.cond rfl (fun hc => ?_) (fun hc => ?_)
  ·have h := ifT hc h
   refine AW.rgs rfl fun K hK => ?_
   obtain ⟨x4, h5, h⟩ := bS h
   refine b_op rfl (o_call rfl rfl rfl rfl (ACallD.pure0 (w_law54_awake h5)) ?_)
   refine mv rfl rfl ?_
   refine bf hK ⟨[(8, .bool x4)], []⟩ ?_
   refine AW.ret ?_
   have h := Option.some.inj h
   subst h
   exact ret_pure (hs := [.bool x4]) (.inr rfl) (resT rfl rfl) rfl trivial
  have h := ifF (bF' hc) h
  refine AW.skip ?_
  refine AW.rgs rfl fun K hK => bv rfl (v_loadF ty24 rfl (l_litA rfl (lb rfl) rfl)) (mv rfl rfl (mv rfl rfl ?_))
  obtain ⟨x6, h7, h⟩ := bS h
  refine b_op rfl (o_call rfl rfl rfl rfl (ACallD.pure0 (w_syncmark_Valid h7)) ?_)
  refine mv rfl rfl (bv rfl (v_extract rfl rfl) (bv rfl (v_extract rfl rfl) (mv rfl rfl (mv rfl rfl ?_))))
  refine bf hK ⟨[(1, .str p1), (2, hI p2), (3, .str p3), (4, gF p0), (9, .bool x6.1), (10, hI x6.2)], []⟩ ?_
  refine AW.rgs rfl fun K hK => bv rfl (v_loadF ty24 rfl (l_litA rfl (lb rfl) rfl)) (mv rfl rfl (mv rfl rfl ?_))
  obtain ⟨x8, h9, h⟩ := bS h
  refine b_op rfl (o_call rfl rfl rfl rfl (ACallD.pure0 (w_ref54_Valid h9)) ?_)
  refine mv rfl rfl (bv rfl (v_extract rfl rfl) (bv rfl (v_extract rfl rfl) (mv rfl rfl (mv rfl rfl ?_))))
  refine bf hK ⟨[(1, .str p1), (2, hI p2), (3, .str p3), (4, gF p0), (9, .bool x6.1), (10, hI x6.2), (11, .bool x8.1), (12, hI x8.2)], []⟩ ?_
  refine AW.rgs rfl fun K hK => bv rfl (v_loadF ty24 rfl (l_litA rfl (lb rfl) rfl)) (mv rfl rfl (mv rfl rfl ?_))
  obtain ⟨x10, h11, h⟩ := bS h
  refine b_op rfl (o_call rfl rfl rfl rfl (ACallD.pure0 (w_syncmark_Bad h11)) ?_)
  refine mv rfl rfl (bv rfl (v_extract rfl rfl) (bv rfl (v_extract rfl rfl) (bv rfl (v_extract rfl rfl) (mv rfl rfl (mv rfl rfl ?_)))))
  refine mv rfl rfl ?_
  refine bf hK ⟨[(1, .str p1), (2, hI p2), (3, .str p3), (4, gF p0), (9, .bool x6.1), (10, hI x6.2), (11, .bool x8.1), (12, hI x8.2), (13, .str x10.1), (14, .bool x10.2.1), (15, hI x10.2.2)], []⟩ ?_
  refine AW.rgs rfl fun K hK => bv rfl (v_loadF ty24 rfl (l_litA rfl (lb rfl) rfl)) (mv rfl rfl (mv rfl rfl ?_))
  obtain ⟨x12, h13, h⟩ := bS h
  refine b_op rfl (o_call rfl rfl rfl rfl (ACallD.pure0 (w_ref54_Bad h13)) ?_)
  refine mv rfl rfl (bv rfl (v_extract rfl rfl) (bv rfl (v_extract rfl rfl) (bv rfl (v_extract rfl rfl) (mv rfl rfl (mv rfl rfl ?_)))))
  refine mv rfl rfl ?_
  refine bf hK ⟨[(1, .str p1), (3, .str p3), (4, gF p0), (9, .bool x6.1), (10, hI x6.2), (11, .bool x8.1), (12, hI x8.2), (13, .str x10.1), (14, .bool x10.2.1), (15, hI x10.2.2), (16, .str x12.1), (17, .bool x12.2.1), (18, hI x12.2.2)], []⟩ ?_
  refine AW.rgs rfl fun K hK => bv rfl (v_loadF ty24 rfl (l_litA rfl (lb rfl) rfl)) (mv rfl rfl ?_)
  obtain ⟨x14, h15, h⟩ := bS h
  refine b_op rfl (o_call rfl rfl rfl rfl (ACallD.pure0 (w_syncmark_Free h15)) ?_)
  refine mv rfl rfl (bv rfl (v_extract rfl rfl) (bv rfl (v_extract rfl rfl) (mv rfl rfl (mv rfl rfl ?_))))
  refine bf hK ⟨[(1, .str p1), (3, .str p3), (4, gF p0), (9, .bool x6.1), (10, hI x6.2), (11, .bool x8.1), (12, hI x8.2), (13, .str x10.1), (14, .bool x10.2.1), (15, hI x10.2.2), (16, .str x12.1), (17, .bool x12.2.1), (18, hI x12.2.2), (19, .bool x14.1), (20, hI x14.2)], []⟩ ?_
  refine AW.rgs rfl fun K hK => bv rfl (v_loadF ty24 rfl (l_litA rfl (lb rfl) rfl)) (mv rfl rfl ?_)
  obtain ⟨x16, h17, h⟩ := bS h
  refine b_op rfl (o_call rfl rfl rfl rfl (ACallD.pure0 (w_ref54_Free h17)) ?_)
  refine mv rfl rfl (bv rfl (v_extract rfl rfl) (bv rfl (v_extract rfl rfl) (mv rfl rfl (mv rfl rfl ?_))))
  refine bf hK ⟨[(1, .str p1), (3, .str p3), (9, .bool x6.1), (10, hI x6.2), (11, .bool x8.1), (12, hI x8.2), (13, .str x10.1), (14, .bool x10.2.1), (15, hI x10.2.2), (16, .str x12.1), (17, .bool x12.2.1), (18, hI x12.2.2), (19, .bool x14.1), (20, hI x14.2), (21, .bool x16.1), (22, hI x16.2)], []⟩ ?_
  refine AW.seqJ h (S := Bool) (V := Unit) (fun a v => ⟨[(8, .bool a)], []⟩) (fun a18 w19 h => ?_) (fun k20 h => ?_)
  ·refine AW.ret ?_
   have h := Option.some.inj h
   subst h
   exact ret_pure (hs := [.bool a18]) (.inr rfl) (resT rfl rfl) rfl trivial
  refine AW.rg rfl fun K hK => mv rfl rfl (mv rfl rfl (bv rfl (v_bin rfl rfl (b_eqB ty4)) (mv rfl rfl ?_)))
  by_cases hg43 : (x6.1 == x8.1) = true
  ·have h := ifT hg43 h
   refine b_T rfl rfl rfl rfl hg43 (o_val rfl (mv_val rfl rfl).2 ?_)
   refine b_T rfl rfl rfl rfl rfl (o_val rfl (mv_val rfl rfl).2 ?_)
   refine b_T rfl rfl rfl rfl rfl (o_val rfl (v_bin rfl rfl b_eql) ?_)
   refine bv rfl (v_pickT rfl rfl rfl) (mv rfl rfl ?_)
   by_cases hg42 : x6.2 = x8.2
   ·have h := ifT hg42 h
    refine b_T rfl rfl rfl rfl (decide_eq_true hg42) (o_val rfl (mv_val rfl rfl).2 ?_)
    refine b_T rfl rfl rfl rfl rfl (o_val rfl (mv_val rfl rfl).2 ?_)
    refine b_T rfl rfl rfl rfl rfl (o_val rfl (v_bin rfl rfl b_seql) ?_)
    refine bv rfl (v_pickT rfl rfl rfl) (mv rfl rfl ?_)
    by_cases hg41 : x10.1 = x12.1
    ·have h := ifT hg41 h
     refine b_T rfl rfl rfl rfl (decide_eq_true hg41) (o_val rfl (mv_val rfl rfl).2 ?_)
     refine b_T rfl rfl rfl rfl rfl (o_val rfl (mv_val rfl rfl).2 ?_)
     refine b_T rfl rfl rfl rfl rfl (o_val rfl (v_bin rfl rfl (b_eqB ty4)) ?_)
     refine bv rfl (v_pickT rfl rfl rfl) (mv rfl rfl ?_)
     by_cases hg40 : (x10.2.1 == x12.2.1) = true
     ·have h := ifT hg40 h
      refine b_T rfl rfl rfl rfl hg40 (o_val rfl (mv_val rfl rfl).2 ?_)
      refine b_T rfl rfl rfl rfl rfl (o_val rfl (mv_val rfl rfl).2 ?_)
      refine b_T rfl rfl rfl rfl rfl (o_val rfl (v_bin rfl rfl b_eql) ?_)
      refine bv rfl (v_pickT rfl rfl rfl) (mv rfl rfl ?_)
      by_cases hg39 : x10.2.2 = x12.2.2
      ·have h := ifT hg39 h
       refine b_T rfl rfl rfl rfl (decide_eq_true hg39) (o_val rfl (mv_val rfl rfl).2 ?_)
       refine b_T rfl rfl rfl rfl rfl (o_val rfl (mv_val rfl rfl).2 ?_)
       refine b_T rfl rfl rfl rfl rfl (o_val rfl (v_bin rfl rfl (b_eqB ty4)) ?_)
       refine bv rfl (v_pickT rfl rfl rfl) (mv rfl rfl ?_)
       by_cases hg38 : (x14.1 == x16.1) = true
       ·have h := ifT hg38 h
        refine b_T rfl rfl rfl rfl hg38 (o_val rfl (mv_val rfl rfl).2 ?_)
        refine b_T rfl rfl rfl rfl rfl (o_val rfl (mv_val rfl rfl).2 ?_)
        refine b_T rfl rfl rfl rfl rfl (o_val rfl (v_bin rfl rfl b_eql) ?_)
        refine bv rfl (v_pickT rfl rfl rfl) (mv rfl rfl ?_)
        by_cases hg37 : x14.2 = x16.2
        ·have h := ifT hg37 h
         refine b_T rfl rfl rfl rfl (decide_eq_true hg37) (o_val rfl (mv_val rfl rfl).2 ?_)
         refine b_T rfl rfl rfl rfl rfl (o_val rfl (mv_val rfl rfl).2 ?_)
         obtain ⟨x21, h22, h⟩ := bS h
         refine b_T rfl rfl rfl rfl rfl (o_call rfl rfl rfl rfl (ACallD.pure0 (w_syncmark_Occurs h22)) ?_)
         refine b_T rfl rfl rfl rfl rfl (o_val rfl (mv_val rfl rfl).2 ?_)
         refine b_T rfl rfl rfl rfl rfl (o_val rfl (mv_val rfl rfl).2 ?_)
         obtain ⟨x23, h24, h⟩ := bS h
         refine b_T rfl rfl rfl rfl rfl (o_call rfl rfl rfl rfl (ACallD.pure0 (w_ref54_Occurs h24)) ?_)
         obtain ⟨x25, h26, h⟩ := bS h
         refine b_T rfl rfl rfl rfl rfl (o_call rfl rfl rfl rfl (ACallD.pure0 (w_slices_Equal_Lint_int h26)) ?_)
         refine bv rfl (v_pickT rfl rfl rfl) (mv rfl rfl ?_)
         by_cases hg36 : x25 = true
         ·have h := ifT hg36 h
          refine b_T rfl rfl rfl rfl hg36 (o_val rfl (mv_val rfl rfl).2 ?_)
          obtain ⟨x27, h28, h⟩ := bS h
          refine b_T rfl rfl rfl rfl rfl (o_call rfl rfl rfl rfl (ACallD.pure0 (w_syncmark_Overlaps h28)) ?_)
          refine b_T rfl rfl rfl rfl rfl (o_val rfl (mv_val rfl rfl).2 ?_)
          obtain ⟨x29, h30, h⟩ := bS h
          refine b_T rfl rfl rfl rfl rfl (o_call rfl rfl rfl rfl (ACallD.pure0 (w_ref54_Overlaps h30)) ?_)
          obtain ⟨x31, h32, h⟩ := bS h
          refine b_T rfl rfl rfl rfl rfl (o_call rfl rfl rfl rfl (ACallD.pure0 (w_slices_Equal_Lint_int h32)) ?_)
          refine bv rfl (v_pickT rfl rfl rfl) (mv rfl rfl ?_)
          by_cases hg35 : x31 = true
          ·have h := ifT hg35 h
           obtain ⟨x33, h34, h⟩ := bS h
           refine b_T rfl rfl rfl rfl hg35 (o_call rfl rfl rfl rfl (ACallD.pure0 (w_law54_awake h34)) ?_)
           refine bv rfl (v_pickT rfl rfl rfl) (mv rfl rfl ?_)
           refine b_nil (hK _ ?_)
           exact to_L ⟨x33, (), h, rfl⟩
          have h := ifF hg35 h
          refine b_F rfl rfl rfl rfl rfl (bF hg35) ?_
          refine bv rfl (v_pickF rfl rfl rfl) (mv rfl rfl ?_)
          refine b_nil (hK _ ?_)
          exact to_L ⟨false, (), h, rfl⟩
         have h := ifF hg36 h
         refine b_F rfl rfl rfl rfl rfl (bF hg36) ?_
         refine b_F rfl rfl rfl rfl rfl rfl ?_
         refine b_F rfl rfl rfl rfl rfl rfl ?_
         refine b_F rfl rfl rfl rfl rfl rfl ?_
         refine b_F rfl rfl rfl rfl rfl rfl ?_
         refine bv rfl (v_pickF rfl rfl rfl) (mv rfl rfl ?_)
         refine b_F rfl rfl rfl rfl rfl rfl ?_
         refine bv rfl (v_pickF rfl rfl rfl) (mv rfl rfl ?_)
         refine b_nil (hK _ ?_)
         exact to_L ⟨false, (), h, rfl⟩
        have h := ifF hg37 h
        refine b_F rfl rfl rfl rfl rfl (decide_eq_false hg37) ?_
        refine b_F rfl rfl rfl rfl rfl rfl ?_
        refine b_F rfl rfl rfl rfl rfl rfl ?_
        refine b_F rfl rfl rfl rfl rfl rfl ?_
        refine b_F rfl rfl rfl rfl rfl rfl ?_
        refine b_F rfl rfl rfl rfl rfl rfl ?_
        refine b_F rfl rfl rfl rfl rfl rfl ?_
        refine bv rfl (v_pickF rfl rfl rfl) (mv rfl rfl ?_)
        refine b_F rfl rfl rfl rfl rfl rfl ?_
        refine b_F rfl rfl rfl rfl rfl rfl ?_
        refine b_F rfl rfl rfl rfl rfl rfl ?_
        refine b_F rfl rfl rfl rfl rfl rfl ?_
        refine b_F rfl rfl rfl rfl rfl rfl ?_
        refine bv rfl (v_pickF rfl rfl rfl) (mv rfl rfl ?_)
        refine b_F rfl rfl rfl rfl rfl rfl ?_
        refine bv rfl (v_pickF rfl rfl rfl) (mv rfl rfl ?_)
        refine b_nil (hK _ ?_)
        exact to_L ⟨false, (), h, rfl⟩
       have h := ifF hg38 h
       refine b_F rfl rfl rfl rfl rfl (bF hg38) ?_
       refine b_F rfl rfl rfl rfl rfl rfl ?_
       refine b_F rfl rfl rfl rfl rfl rfl ?_
       refine bv rfl (v_pickF rfl rfl rfl) (mv rfl rfl ?_)
       refine b_F rfl rfl rfl rfl rfl rfl ?_
       refine b_F rfl rfl rfl rfl rfl rfl ?_
       refine b_F rfl rfl rfl rfl rfl rfl ?_
       refine b_F rfl rfl rfl rfl rfl rfl ?_
       refine b_F rfl rfl rfl rfl rfl rfl ?_
       refine b_F rfl rfl rfl rfl rfl rfl ?_
       refine b_F rfl rfl rfl rfl rfl rfl ?_
       refine bv rfl (v_pickF rfl rfl rfl) (mv rfl rfl ?_)
       refine b_F rfl rfl rfl rfl rfl rfl ?_
       refine b_F rfl rfl rfl rfl rfl rfl ?_
       refine b_F rfl rfl rfl rfl rfl rfl ?_
       refine b_F rfl rfl rfl rfl rfl rfl ?_
       refine b_F rfl rfl rfl rfl rfl rfl ?_
       refine bv rfl (v_pickF rfl rfl rfl) (mv rfl rfl ?_)
       refine b_F rfl rfl rfl rfl rfl rfl ?_
       refine bv rfl (v_pickF rfl rfl rfl) (mv rfl rfl ?_)
       refine b_nil (hK _ ?_)
       exact to_L ⟨false, (), h, rfl⟩
      have h := ifF hg39 h
      refine b_F rfl rfl rfl rfl rfl (decide_eq_false hg39) ?_
      refine b_F rfl rfl rfl rfl rfl rfl ?_
      refine b_F rfl rfl rfl rfl rfl rfl ?_
      refine bv rfl (v_pickF rfl rfl rfl) (mv rfl rfl ?_)
      refine b_F rfl rfl rfl rfl rfl rfl ?_
      refine b_F rfl rfl rfl rfl rfl rfl ?_
      refine b_F rfl rfl rfl rfl rfl rfl ?_
      refine bv rfl (v_pickF rfl rfl rfl) (mv rfl rfl ?_)
      refine b_F rfl rfl rfl rfl rfl rfl ?_
      refine b_F rfl rfl rfl rfl rfl rfl ?_
      refine b_F rfl rfl rfl rfl rfl rfl ?_
      refine b_F rfl rfl rfl rfl rfl rfl ?_
      refine b_F rfl rfl rfl rfl rfl rfl ?_
      refine b_F rfl rfl rfl rfl rfl rfl ?_
      refine b_F rfl rfl rfl rfl rfl rfl ?_
      refine bv rfl (v_pickF rfl rfl rfl) (mv rfl rfl ?_)
      refine b_F rfl rfl rfl rfl rfl rfl ?_
      refine b_F rfl rfl rfl rfl rfl rfl ?_
      refine b_F rfl rfl rfl rfl rfl rfl ?_
      refine b_F rfl rfl rfl rfl rfl rfl ?_
      refine b_F rfl rfl rfl rfl rfl rfl ?_
      refine bv rfl (v_pickF rfl rfl rfl) (mv rfl rfl ?_)
      refine b_F rfl rfl rfl rfl rfl rfl ?_
      refine bv rfl (v_pickF rfl rfl rfl) (mv rfl rfl ?_)
      refine b_nil (hK _ ?_)
      exact to_L ⟨false, (), h, rfl⟩
     have h := ifF hg40 h
     refine b_F rfl rfl rfl rfl rfl (bF hg40) ?_
     refine b_F rfl rfl rfl rfl rfl rfl ?_
     refine b_F rfl rfl rfl rfl rfl rfl ?_
     refine bv rfl (v_pickF rfl rfl rfl) (mv rfl rfl ?_)
     refine b_F rfl rfl rfl rfl rfl rfl ?_
     refine b_F rfl rfl rfl rfl rfl rfl ?_
     refine b_F rfl rfl rfl rfl rfl rfl ?_
     refine bv rfl (v_pickF rfl rfl rfl) (mv rfl rfl ?_)
     refine b_F rfl rfl rfl rfl rfl rfl ?_
     refine b_F rfl rfl rfl rfl rfl rfl ?_
     refine b_F rfl rfl rfl rfl rfl rfl ?_
     refine bv rfl (v_pickF rfl rfl rfl) (mv rfl rfl ?_)
     refine b_F rfl rfl rfl rfl rfl rfl ?_
     refine b_F rfl rfl rfl rfl rfl rfl ?_
     refine b_F rfl rfl rfl rfl rfl rfl ?_
     refine b_F rfl rfl rfl rfl rfl rfl ?_
     refine b_F rfl rfl rfl rfl rfl rfl ?_
     refine b_F rfl rfl rfl rfl rfl rfl ?_
     refine b_F rfl rfl rfl rfl rfl rfl ?_
     refine bv rfl (v_pickF rfl rfl rfl) (mv rfl rfl ?_)
     refine b_F rfl rfl rfl rfl rfl rfl ?_
     refine b_F rfl rfl rfl rfl rfl rfl ?_
     refine b_F rfl rfl rfl rfl rfl rfl ?_
     refine b_F rfl rfl rfl rfl rfl rfl ?_
     refine b_F rfl rfl rfl rfl rfl rfl ?_
     refine bv rfl (v_pickF rfl rfl rfl) (mv rfl rfl ?_)
     refine b_F rfl rfl rfl rfl rfl rfl ?_
     refine bv rfl (v_pickF rfl rfl rfl) (mv rfl rfl ?_)
     refine b_nil (hK _ ?_)
     exact to_L ⟨false, (), h, rfl⟩
    have h := ifF hg41 h
    refine b_F rfl rfl rfl rfl rfl (decide_eq_false hg41) ?_
    refine b_F rfl rfl rfl rfl rfl rfl ?_
    refine b_F rfl rfl rfl rfl rfl rfl ?_
    refine bv rfl (v_pickF rfl rfl rfl) (mv rfl rfl ?_)
    refine b_F rfl rfl rfl rfl rfl rfl ?_
    refine b_F rfl rfl rfl rfl rfl rfl ?_
    refine b_F rfl rfl rfl rfl rfl rfl ?_
    refine bv rfl (v_pickF rfl rfl rfl) (mv rfl rfl ?_)
    refine b_F rfl rfl rfl rfl rfl rfl ?_
    refine b_F rfl rfl rfl rfl rfl rfl ?_
    refine b_F rfl rfl rfl rfl rfl rfl ?_
    refine bv rfl (v_pickF rfl rfl rfl) (mv rfl rfl ?_)
    refine b_F rfl rfl rfl rfl rfl rfl ?_
    refine b_F rfl rfl rfl rfl rfl rfl ?_
    refine b_F rfl rfl rfl rfl rfl rfl ?_
    refine bv rfl (v_pickF rfl rfl rfl) (mv rfl rfl ?_)
    refine b_F rfl rfl rfl rfl rfl rfl ?_
    refine b_F rfl rfl rfl rfl rfl rfl ?_
    refine b_F rfl rfl rfl rfl rfl rfl ?_
    refine b_F rfl rfl rfl rfl rfl rfl ?_
    refine b_F rfl rfl rfl rfl rfl rfl ?_
    refine b_F rfl rfl rfl rfl rfl rfl ?_
    refine b_F rfl rfl rfl rfl rfl rfl ?_
    refine bv rfl (v_pickF rfl rfl rfl) (mv rfl rfl ?_)
    refine b_F rfl rfl rfl rfl rfl rfl ?_
    refine b_F rfl rfl rfl rfl rfl rfl ?_
    refine b_F rfl rfl rfl rfl rfl rfl ?_
    refine b_F rfl rfl rfl rfl rfl rfl ?_
    refine b_F rfl rfl rfl rfl rfl rfl ?_
    refine bv rfl (v_pickF rfl rfl rfl) (mv rfl rfl ?_)
    refine b_F rfl rfl rfl rfl rfl rfl ?_
    refine bv rfl (v_pickF rfl rfl rfl) (mv rfl rfl ?_)
    refine b_nil (hK _ ?_)
    exact to_L ⟨false, (), h, rfl⟩
   have h := ifF hg42 h
   refine b_F rfl rfl rfl rfl rfl (decide_eq_false hg42) ?_
   refine b_F rfl rfl rfl rfl rfl rfl ?_
   refine b_F rfl rfl rfl rfl rfl rfl ?_
   refine bv rfl (v_pickF rfl rfl rfl) (mv rfl rfl ?_)
   refine b_F rfl rfl rfl rfl rfl rfl ?_
   refine b_F rfl rfl rfl rfl rfl rfl ?_
   refine b_F rfl rfl rfl rfl rfl rfl ?_
   refine bv rfl (v_pickF rfl rfl rfl) (mv rfl rfl ?_)
   refine b_F rfl rfl rfl rfl rfl rfl ?_
   refine b_F rfl rfl rfl rfl rfl rfl ?_
   refine b_F rfl rfl rfl rfl rfl rfl ?_
   refine bv rfl (v_pickF rfl rfl rfl) (mv rfl rfl ?_)
   refine b_F rfl rfl rfl rfl rfl rfl ?_
   refine b_F rfl rfl rfl rfl rfl rfl ?_
   refine b_F rfl rfl rfl rfl rfl rfl ?_
   refine bv rfl (v_pickF rfl rfl rfl) (mv rfl rfl ?_)
   refine b_F rfl rfl rfl rfl rfl rfl ?_
   refine b_F rfl rfl rfl rfl rfl rfl ?_
   refine b_F rfl rfl rfl rfl rfl rfl ?_
   refine bv rfl (v_pickF rfl rfl rfl) (mv rfl rfl ?_)
   refine b_F rfl rfl rfl rfl rfl rfl ?_
   refine b_F rfl rfl rfl rfl rfl rfl ?_
   refine b_F rfl rfl rfl rfl rfl rfl ?_
   refine b_F rfl rfl rfl rfl rfl rfl ?_
   refine b_F rfl rfl rfl rfl rfl rfl ?_
   refine b_F rfl rfl rfl rfl rfl rfl ?_
   refine b_F rfl rfl rfl rfl rfl rfl ?_
   refine bv rfl (v_pickF rfl rfl rfl) (mv rfl rfl ?_)
   refine b_F rfl rfl rfl rfl rfl rfl ?_
   refine b_F rfl rfl rfl rfl rfl rfl ?_
   refine b_F rfl rfl rfl rfl rfl rfl ?_
   refine b_F rfl rfl rfl rfl rfl rfl ?_
   refine b_F rfl rfl rfl rfl rfl rfl ?_
   refine bv rfl (v_pickF rfl rfl rfl) (mv rfl rfl ?_)
   refine b_F rfl rfl rfl rfl rfl rfl ?_
   refine bv rfl (v_pickF rfl rfl rfl) (mv rfl rfl ?_)
   refine b_nil (hK _ ?_)
   exact to_L ⟨false, (), h, rfl⟩
  have h := ifF hg43 h
  refine b_F rfl rfl rfl rfl rfl (bF hg43) ?_
  refine b_F rfl rfl rfl rfl rfl rfl ?_
  refine b_F rfl rfl rfl rfl rfl rfl ?_
  refine bv rfl (v_pickF rfl rfl rfl) (mv rfl rfl ?_)
  refine b_F rfl rfl rfl rfl rfl rfl ?_
  refine b_F rfl rfl rfl rfl rfl rfl ?_
  refine b_F rfl rfl rfl rfl rfl rfl ?_
  refine bv rfl (v_pickF rfl rfl rfl) (mv rfl rfl ?_)
  refine b_F rfl rfl rfl rfl rfl rfl ?_
  refine b_F rfl rfl rfl rfl rfl rfl ?_
  refine b_F rfl rfl rfl rfl rfl rfl ?_
  refine bv rfl (v_pickF rfl rfl rfl) (mv rfl rfl ?_)
  refine b_F rfl rfl rfl rfl rfl rfl ?_
  refine b_F rfl rfl rfl rfl rfl rfl ?_
  refine b_F rfl rfl rfl rfl rfl rfl ?_
  refine bv rfl (v_pickF rfl rfl rfl) (mv rfl rfl ?_)
  refine b_F rfl rfl rfl rfl rfl rfl ?_
  refine b_F rfl rfl rfl rfl rfl rfl ?_
  refine b_F rfl rfl rfl rfl rfl rfl ?_
  refine bv rfl (v_pickF rfl rfl rfl) (mv rfl rfl ?_)
  refine b_F rfl rfl rfl rfl rfl rfl ?_
  refine b_F rfl rfl rfl rfl rfl rfl ?_
  refine b_F rfl rfl rfl rfl rfl rfl ?_
  refine bv rfl (v_pickF rfl rfl rfl) (mv rfl rfl ?_)
  refine b_F rfl rfl rfl rfl rfl rfl ?_
  refine b_F rfl rfl rfl rfl rfl rfl ?_
  refine b_F rfl rfl rfl rfl rfl rfl ?_
  refine b_F rfl rfl rfl rfl rfl rfl ?_
  refine b_F rfl rfl rfl rfl rfl rfl ?_
  refine b_F rfl rfl rfl rfl rfl rfl ?_
  refine b_F rfl rfl rfl rfl rfl rfl ?_
  refine bv rfl (v_pickF rfl rfl rfl) (mv rfl rfl ?_)
  refine b_F rfl rfl rfl rfl rfl rfl ?_
  refine b_F rfl rfl rfl rfl rfl rfl ?_
  refine b_F rfl rfl rfl rfl rfl rfl ?_
  refine b_F rfl rfl rfl rfl rfl rfl ?_
  refine b_F rfl rfl rfl rfl rfl rfl ?_
  refine bv rfl (v_pickF rfl rfl rfl) (mv rfl rfl ?_)
  refine b_F rfl rfl rfl rfl rfl rfl ?_
  refine bv rfl (v_pickF rfl rfl rfl) (mv rfl rfl ?_)
  refine b_nil (hK _ ?_)
  exact to_L ⟨false, (), h, rfl⟩
 refine AW.rg rfl fun K hK => bv rfl (v_loadF ty24 rfl (l_litA rfl (lb rfl) rfl)) ?_
 obtain ⟨x44, h45, h⟩ := bS h
 refine b_op rfl (o_call rfl rfl rfl rfl (ACallD.pure0 (w_law54_great h45)) ?_)
 refine mv rfl rfl ?_
 by_cases hg51 : x44 = true
 ·have h := ifT hg51 h
  refine b_F rfl rfl rfl rfl rfl hg51 ?_
  refine b_F rfl rfl rfl rfl rfl rfl ?_
  refine bv rfl (v_pickT rfl rfl rfl) (mv rfl rfl ?_)
  refine b_F rfl rfl rfl rfl rfl rfl ?_
  refine b_F rfl rfl rfl rfl rfl rfl ?_
  refine b_F rfl rfl rfl rfl rfl rfl ?_
  refine b_U rfl rfl rfl rfl rfl ?_
  refine b_U rfl rfl rfl rfl rfl ?_
  refine b_F rfl rfl rfl rfl rfl rfl ?_
  refine bv rfl (v_pickT rfl rfl rfl) (mv rfl rfl ?_)
  refine b_F rfl rfl rfl rfl rfl rfl ?_
  refine b_F rfl rfl rfl rfl rfl rfl ?_
  refine b_F rfl rfl rfl rfl rfl rfl ?_
  refine bv rfl (v_pickT rfl rfl rfl) ?_
  refine b_nil (hK _ ?_)
  exact to_L ⟨true, (), h, rfl⟩
 have h := ifF hg51 h
 refine b_T rfl rfl rfl rfl (bF hg51) (o_val rfl (mv_val rfl rfl).2 ?_)
 obtain ⟨x46, h47, h⟩ := bS h
 refine b_T rfl rfl rfl rfl rfl (o_call rfl rfl rfl rfl (ACallD.pure0 (w_law54_long h47)) ?_)
 refine bv rfl (v_pickF rfl rfl rfl) (mv rfl rfl ?_)
 by_cases hg50 : x46 = true
 ·have h := ifT hg50 h
  refine b_F rfl rfl rfl rfl rfl hg50 ?_
  refine b_F rfl rfl rfl rfl rfl rfl ?_
  refine b_F rfl rfl rfl rfl rfl rfl ?_
  refine b_U rfl rfl rfl rfl rfl ?_
  refine b_U rfl rfl rfl rfl rfl ?_
  refine b_F rfl rfl rfl rfl rfl rfl ?_
  refine bv rfl (v_pickT rfl rfl rfl) (mv rfl rfl ?_)
  refine b_F rfl rfl rfl rfl rfl rfl ?_
  refine b_F rfl rfl rfl rfl rfl rfl ?_
  refine b_F rfl rfl rfl rfl rfl rfl ?_
  refine bv rfl (v_pickT rfl rfl rfl) ?_
  refine b_nil (hK _ ?_)
  exact to_L ⟨true, (), h, rfl⟩
 have h := ifF hg50 h
 refine b_T rfl rfl rfl rfl (bF hg50) (o_val rfl (mv_val rfl rfl).2 ?_)
 refine b_T rfl rfl rfl rfl rfl (o_val rfl (v_bin rfl rfl b_gtr) ?_)
 refine b_T rfl rfl rfl rfl rfl (o_val rfl (mv_val rfl rfl).2 ?_)
 by_cases hg49 : 8 < p2
 ·have h := ifT hg49 h
  refine b_T rfl rfl rfl rfl (decide_eq_true hg49) (o_val rfl (mv_val rfl rfl).2 ?_)
  refine b_T rfl rfl rfl rfl rfl (o_val rfl (v_bin rfl rfl b_leq) ?_)
  refine b_T rfl rfl rfl rfl rfl (o_val rfl (v_pickT rfl rfl rfl) ?_)
  refine bv rfl (v_pickF rfl rfl rfl) (mv rfl rfl ?_)
  by_cases hg48 : p2 ≤ 4096
  ·have h := ifT hg48 h
   refine b_F rfl rfl rfl rfl rfl (decide_eq_true hg48) ?_
   refine b_F rfl rfl rfl rfl rfl rfl ?_
   refine b_F rfl rfl rfl rfl rfl rfl ?_
   refine bv rfl (v_pickT rfl rfl rfl) ?_
   refine b_nil (hK _ ?_)
   exact to_L ⟨true, (), h, rfl⟩
  have h := ifF hg48 h
  refine b_T rfl rfl rfl rfl (decide_eq_false hg48) (o_val rfl (mv_val rfl rfl).2 ?_)
  refine b_T rfl rfl rfl rfl rfl (o_val rfl (v_lenS rfl rfl ty9 rfl) ?_)
  refine b_T rfl rfl rfl rfl rfl (o_val rfl (v_bin rfl rfl b_gtr) ?_)
  refine bv rfl (v_pickF rfl rfl rfl) ?_
  refine b_nil (hK _ ?_)
  exact to_L ⟨decide (40 < ((p3).length : Int)), (), h, rfl⟩
 have h := ifF hg49 h
 refine b_F rfl rfl rfl rfl rfl (decide_eq_false hg49) ?_
 refine b_F rfl rfl rfl rfl rfl rfl ?_
 refine b_T rfl rfl rfl rfl rfl (o_val rfl (v_pickF rfl rfl rfl) ?_)
 refine bv rfl (v_pickF rfl rfl rfl) (mv rfl rfl ?_)
 refine b_T rfl rfl rfl rfl rfl (o_val rfl (mv_val rfl rfl).2 ?_)
 refine b_T rfl rfl rfl rfl rfl (o_val rfl (v_lenS rfl rfl ty9 rfl) ?_)
 refine b_T rfl rfl rfl rfl rfl (o_val rfl (v_bin rfl rfl b_gtr) ?_)
 refine bv rfl (v_pickF rfl rfl rfl) ?_
 refine b_nil (hK _ ?_)
 exact to_L ⟨decide (40 < ((p3).length : Int)), (), h, rfl⟩
end Go.AW

namespace Go.AW
open Go
set_option linter.unusedVariables false
set_option linter.unusedSimpArgs false
theorem fgo_full (mark w : List UInt8) : fgo mark w mark.length = lpM mark w := by
 refine Nat.le_antisymm ?_ ?_
 ·have h := fgo_suf mark w mark.length
  have h1 := h.length_le
  have h2 := fgo_le mark w mark.length
  rw [List.length_take] at h1
  exact fgo_max _ _ _ _ (by omega) h
 ·exact fgo_max _ _ _ _ (lpM_le _ _).2 (fgo_suf _ _ _)
theorem byte_back2 (c : UInt8) : UInt8.ofNat ((c.toNat : Int)).toNat = c := by simp
theorem suf_dec {mark w : List UInt8} {j : Nat} (hj : j ≤ mark.length) : (mark.take j).isSuffixOf w = (decide (j ≤ w.length) && decide (w.drop (w.length - j) = mark.take j)) := by
 rw [Bool.eq_iff_iff, List.isSuffixOf_iff_suffix, List.suffix_iff_eq_drop, Bool.and_eq_true, decide_eq_true_eq, decide_eq_true_eq, List.length_take, Nat.min_eq_left hj]
 constructor
 ·intro h
  have hl := congrArg List.length h
  rw [List.length_take, List.length_drop, Nat.min_eq_left hj] at hl
  exact ⟨by omega, h.symm⟩
 ·rintro ⟨_, h⟩
  exact h.symm
theorem follow_eq {mark : List UInt8} {k : Nat} (hk : k ≤ mark.length) (hm : mark.length ≤ 1000) (c : UInt8) : m_ref54_follow mark (k : Int) (c.toNat : Int) = some ((foll mark k c : Nat) : Int) := by
  unfold m_ref54_follow
  have hw : ((mark.take ((k : Int)).toNat).drop (0 : Int).toNat) ++ (([(c.toNat : Int)] : List Int).map fun (n : Int) => UInt8.ofNat n.toNat) = mark.take k ++ [c] := by
    rw [Int.toNat_natCast, List.map_cons, byte_back2]
    rfl
  rw [if_pos ⟨Int.le_refl _, Int.natCast_nonneg _, by omega⟩]
  rw [if_pos (by
    rw [List.length_drop, List.length_take, List.length_map, List.length_singleton]
    have : maxLen = 4611686018427387904 - 1 ∨ 1000000 ≤ maxLen := by right; decide
    rcases this with h | h <;> omega)]
  rw [hw, foll_lpM, ← fgo_full]
  generalize hwd : mark.take k ++ [c] = w
  have hwl : w.length ≤ 1001 := by rw [← hwd, List.length_append, List.length_take, List.length_singleton]; omega
  refine lpL (x := if fgo mark w mark.length = 0 then .go () else .ret ((fgo mark w mark.length : Nat) : Int)) ?_ ?_
  · have hgen : ∀ j : Nat, j ≤ mark.length → loopW (S := Int) (X := Ou (Unit) (Int)) (fun a3 =>
       if 0 < a3 then
        jp (fun (a7 : Bool) =>
          if a7 = true then
           some (Stp.exit (Ou.ret a3))
          else
           some (Stp.next (IntKind.wrap .i64 (a3 - 1))))
          fun k9 =>
         if a3 ≤ ((w).length : Int) then
          if 0 ≤ (IntKind.wrap .i64 (((w).length : Int) - a3) : Int) ∧ (IntKind.wrap .i64 (((w).length : Int) - a3) : Int) ≤ ((w).length : Int) ∧ ((w).length : Int) ≤ ((w).length : Int) then
           if 0 ≤ (0 : Int) ∧ (0 : Int) ≤ a3 ∧ a3 ≤ (mark.length : Int) then
            k9 (decide (((w.take (((w).length : Int)).toNat).drop (IntKind.wrap .i64 (((w).length : Int) - a3)).toNat) = ((mark.take (a3).toNat).drop (0 : Int).toNat)))
           else none
          else none
         else
          k9 false
       else
        some (Stp.exit (Ou.go ()))) (j : Int) = some (if fgo mark w j = 0 then .go () else .ret ((fgo mark w j : Nat) : Int)) := by
      intro j
      induction j with
      | zero =>
        intro _
        rw [loopW_eq]
        rw [if_neg (by omega)]
        rfl
      | succ j ih =>
        intro hj
        have hw1 : IntKind.wrap .i64 (((j + 1 : Nat) : Int) - 1) = (j : Int) := by rw [w64 (by omega) (by omega)]; omega
        have hs := suf_dec (w := w) hj
        have hF : fgo mark w (j + 1) = if (mark.take (j + 1)).isSuffixOf w = true then j + 1 else fgo mark w j := rfl
        rw [hF]
        by_cases h1 : j + 1 ≤ w.length
        · have hw2 : IntKind.wrap .i64 ((w.length : Int) - ((j + 1 : Nat) : Int)) = ((w.length - (j + 1) : Nat) : Int) := by rw [w64 (by omega) (by omega)]; omega
          rw [decide_eq_true h1, Bool.true_and] at hs
          by_cases h2 : w.drop (w.length - (j + 1)) = mark.take (j + 1)
          · have hL : decide (w.drop (w.length - (j + 1)) = (mark.take (j + 1)).drop (0 : Int).toNat) = true := decide_eq_true h2
            have hR : (mark.take (j + 1)).isSuffixOf w = true := by rw [hs]; exact decide_eq_true h2
            rw [if_pos hR, if_neg (Nat.succ_ne_zero j)]
            refine loopW_exit ?_
            unfold jp
            dsimp only
            rw [if_pos (by omega), if_pos (by omega), hw2, if_pos ⟨by omega, by omega, Int.le_refl _⟩, if_pos ⟨Int.le_refl _, by omega, by omega⟩, Int.toNat_natCast, Int.toNat_natCast, Int.toNat_natCast, List.take_length, if_pos hL]
          · have hL : ¬ decide (w.drop (w.length - (j + 1)) = (mark.take (j + 1)).drop (0 : Int).toNat) = true := by rw [decide_eq_true_eq]; exact h2
            have hR : ¬ (mark.take (j + 1)).isSuffixOf w = true := by rw [hs, decide_eq_true_eq]; exact h2
            rw [if_neg hR]
            refine (loopW_next (s' := (j : Int)) ?_).trans (ih (by omega))
            unfold jp
            dsimp only
            rw [if_pos (by omega), if_pos (by omega), hw2, if_pos ⟨by omega, by omega, Int.le_refl _⟩, if_pos ⟨Int.le_refl _, by omega, by omega⟩, Int.toNat_natCast, Int.toNat_natCast, Int.toNat_natCast, List.take_length, if_neg hL, hw1]
        · rw [decide_eq_false h1, Bool.false_and] at hs
          have hR : ¬ (mark.take (j + 1)).isSuffixOf w = true := by rw [hs]; exact Bool.false_ne_true
          rw [if_neg hR]
          refine (loopW_next (s' := (j : Int)) ?_).trans (ih (by omega))
          unfold jp
          dsimp only
          rw [if_pos (by omega), if_neg (by omega), if_neg Bool.false_ne_true, hw1]
    exact hgen mark.length (Nat.le_refl _)
  · by_cases h0 : fgo mark w mark.length = 0
    · rw [if_pos h0, h0]; rfl
    · rw [if_neg h0]; rfl
def nextT (mark : List UInt8) (q : Nat) : List (List Int) := (List.range (mark.length + 1)).map fun k => (List.range q).map fun a => ((foll mark k (letters.getD a 0) : Nat) : Int)
def earlyT (mark : List UInt8) : List Bool := (List.range (mark.length + 1)).map fun k => endsG mark mark k
theorem map_range_take {α : Type} (f : Nat → α) (k : Nat) : (List.range (k + 1)).map f = (List.range k).map f ++ [f k] := by rw [List.range_succ, List.map_append]; rfl
theorem tables54_eq {mark : List UInt8} (hm1 : mark ≠ []) (hm : mark.length ≤ 1000) {q : Nat} (hq : q ≤ 16) : m_ref54_tables mark (q : Int) = some (nextT mark q, earlyT mark) := by
  have hml := List.length_pos_iff.2 hm1
  unfold m_ref54_tables
  refine bindL (loop_is (fun k => ((k : Int), (List.range k).map (fun k => (List.range q).map fun a => ((foll mark k (letters.getD a 0) : Nat) : Int)), (List.range k).map fun k => endsG mark mark k)) (mark.length + 1) (nextT mark q, earlyT mark) (fun k hk => ?_) ?_ rfl) ?_
  · dsimp only
    rw [if_pos (by omega)]
    refine bindL (loop_is (fun a => ((a : Int), (List.range a).map fun a => ((foll mark k (letters.getD a 0) : Nat) : Int))) q ((List.range q).map fun a => ((foll mark k (letters.getD a 0) : Nat) : Int)) (fun a ha => ?_) ?_ rfl) ?_
    · dsimp only
      have hal : a < letters.length := by rw [letters_len]; omega
      have e : letters.getD a 0 = letters[a] := by rw [List.getD_eq_getElem?_getD, List.getElem?_eq_getElem hal]; rfl
      rw [if_pos (by omega)]
      refine bindL (x := letters.getD a 0) (by rw [e]; exact ix (l := letters) hal) ?_
      refine bindL (follow_eq (by omega) hm _) ?_
      rw [if_pos ⟨by simp; omega, by simp; have : 1000000 ≤ maxLen := by decide
                                     omega⟩, nx (n := 16) (by omega) (by omega), map_range_take]
    · dsimp only
      rw [if_neg (not_lt_int _)]
    · rw [if_pos ⟨by simp; omega, by simp; have : 1000000 ≤ maxLen := by decide
                                     omega⟩]
      have hgen : ∀ (d i n : Nat) (b : Bool), i + d = mark.length → n ≤ mark.length → loopW (S := Bool × Int × Int) (X := Bool) (fun a22 =>
           if (IntKind.wrap .i64 (a22.2.2 + 1)) < ((mark).length : Int) then
            jp (fun (a26 : Bool × Int) =>
              some (Stp.next (a26.1, a26.2, IntKind.wrap .i64 (a22.2.2 + 1))))
              fun k28 =>
             (idx mark a22.2.2).bind fun x29 =>
             (m_ref54_follow mark a22.2.1 (x29.toNat : Int)).bind fun x31 =>
             if a22.1 = true then
              k28 (true, x31)
             else
              k28 (decide (x31 = ((mark).length : Int)), x31)
           else
            some (Stp.exit a22.1)) (b, (n : Int), (i : Int)) = some (b || endsG mark (mark.drop i) n) := by
        intro d
        induction d with
        | zero =>
          intro i n b hi hn
          rw [loopW_eq]
          have hw : IntKind.wrap .i64 ((i : Int) + 1) = ((i + 1 : Nat) : Int) := nx (n := i + 1) (by omega) (by omega)
          dsimp only
          rw [hw, if_neg (by omega), List.drop_eq_nil_of_le (by omega)]
          dsimp only
          unfold endsG
          rw [Bool.or_false]
        | succ d ih =>
          intro i n b hi hn
          have hil : i < mark.length := by omega
          have hw : IntKind.wrap .i64 ((i : Int) + 1) = ((i + 1 : Nat) : Int) := nx (n := i + 1) (by omega) (by omega)
          have hD : mark.drop i = mark[i] :: mark.drop (i + 1) := List.drop_eq_getElem_cons hil
          rw [hD]
          have hE : endsG mark (mark[i] :: mark.drop (i + 1)) n = if foll mark n mark[i] = mark.length ∧ mark.drop (i + 1) ≠ [] then true else endsG mark (mark.drop (i + 1)) (foll mark n mark[i]) := rfl
          have hne : mark.drop (i + 1) ≠ [] ↔ i + 1 < mark.length := by rw [Ne, List.drop_eq_nil_iff]; omega
          rw [hE]
          by_cases h1 : i + 1 < mark.length
          · have hf := foll_le mark n mark[i]
            have hcast : (((foll mark n mark[i] : Nat) : Int) = (mark.length : Int)) ↔ foll mark n mark[i] = mark.length := by omega
            refine (loopW_next (s' := (b || decide (((foll mark n mark[i] : Nat) : Int) = (mark.length : Int)), ((foll mark n mark[i] : Nat) : Int), ((i + 1 : Nat) : Int))) ?_).trans ?_
            · unfold jp
              dsimp only
              rw [hw, if_pos (by omega), ix hil, Option.bind_some, follow_eq hn hm, Option.bind_some]
              cases b with
              | true => rw [if_pos rfl, Bool.true_or]
              | false => rw [if_neg Bool.false_ne_true, Bool.false_or]
            · refine (ih (i + 1) (foll mark n mark[i]) _ (by omega) hf).trans (congrArg some ?_)
              rw [Bool.or_assoc]
              congr 1
              by_cases h2 : foll mark n mark[i] = mark.length
              · rw [if_pos ⟨h2, hne.2 h1⟩, decide_eq_true (hcast.2 h2), Bool.true_or]
              · rw [if_neg (fun h => h2 h.1), decide_eq_false (fun h => h2 (hcast.1 h)), Bool.false_or]
          · rw [if_neg (fun h => h1 (hne.1 h.2)), List.drop_eq_nil_of_le (by omega)]
            refine (loopW_exit (x := b) ?_).trans ?_
            · dsimp only
              rw [hw, if_neg (by omega)]
            · unfold endsG
              rw [Bool.or_false]
      refine bindL (hgen mark.length 0 k false (by omega) (by omega)) ?_
      rw [if_pos ⟨by simp; omega, by simp; have : 1000000 ≤ maxLen := by decide
                                     omega⟩, nx (n := 1001) (by omega) (by omega), map_range_take, map_range_take, Bool.false_or, List.drop_zero]
  · dsimp only
    rw [if_neg (by omega)]
    rfl
  · rfl
section
variable {g : Gr} {mark : List UInt8}
def encP (m s k f : Nat) : Nat := (s * (m + 1) + k) * 2 + f
def decP (m q : Nat) : TStateReadBadLeft := (((q / 2 / (m + 1) : Nat) : Int), ((q / 2 % (m + 1) : Nat) : Int), decide (q % 2 = 1), 0)
theorem dec_enc {m s k f : Nat} (hk : k ≤ m) (hf : f < 2) : decP m (encP m s k f) = ((s : Int), (k : Int), decide (f = 1), 0) := by
 unfold decP encP
 have h1 : ((s * (m + 1) + k) * 2 + f) / 2 = s * (m + 1) + k := by omega
 have h2 : ((s * (m + 1) + k) * 2 + f) % 2 = f := by omega
 rw [h1, h2, Nat.add_comm (s * (m + 1)) k, Nat.add_mul_div_right _ _ (Nat.succ_pos m), Nat.div_eq_of_lt (by omega), Nat.zero_add, Nat.add_mul_mod_self_right, Nat.mod_eq_of_lt (by omega)]
theorem enc_lt {m s k f S : Nat} (hs : s < S) (hk : k ≤ m) (hf : f < 2) : encP m s k f < S * (m + 1) * 2 := by
 unfold encP
 have : (s + 1) * (m + 1) ≤ S * (m + 1) := Nat.mul_le_mul_right _ hs
 rw [Nat.add_mul, Nat.one_mul] at this
 omega
theorem wS {S m : Nat} (hS : S ≤ 64) (hm : m ≤ 1000) : IntKind.wrap .i64 ((IntKind.wrap .i64 ((S : Int) * (IntKind.wrap .i64 ((m : Int) + 1)))) * 2) = ((S * (m + 1) * 2 : Nat) : Int) := by
 have hb : S * (m + 1) ≤ 64 * (m + 1) := Nat.mul_le_mul_right _ hS
 have e : (S : Int) * ((m : Int) + 1) = ((S * (m + 1) : Nat) : Int) := by rw [Int.natCast_mul]; rfl
 rw [w64 (n := (m : Int) + 1) (by omega) (by omega), e, w64 (n := ((S * (m + 1) : Nat) : Int)) (by omega) (by omega), w64 (by omega) (by omega)]
 omega
theorem wP0 {s m k : Nat} (hs : s ≤ 64) (hm : m ≤ 1000) (hk : k ≤ m) : IntKind.wrap .i64 ((IntKind.wrap .i64 ((IntKind.wrap .i64 ((s : Int) * (IntKind.wrap .i64 ((m : Int) + 1)))) + (k : Int))) * 2) = ((encP m s k 0 : Nat) : Int) := by
 have hb : s * (m + 1) ≤ 64 * (m + 1) := Nat.mul_le_mul_right _ hs
 have e : (s : Int) * ((m : Int) + 1) = ((s * (m + 1) : Nat) : Int) := by rw [Int.natCast_mul]; rfl
 unfold encP
 rw [w64 (n := (m : Int) + 1) (by omega) (by omega), e, w64 (n := ((s * (m + 1) : Nat) : Int)) (by omega) (by omega), w64 (n := ((s * (m + 1) : Nat) : Int) + k) (by omega) (by omega), w64 (by omega) (by omega)]
 omega
theorem wPf {s m k f : Nat} (hs : s ≤ 64) (hm : m ≤ 1000) (hk : k ≤ m) (hf : f < 2) : IntKind.wrap .i64 (((encP m s k 0 : Nat) : Int) + (f : Int)) = ((encP m s k f : Nat) : Int) := by
 have hb : s * (m + 1) ≤ 64 * (m + 1) := Nat.mul_le_mul_right _ hs
 unfold encP
 rw [w64 (by omega) (by omega)]
 omega
theorem canF_left : ∀ (n : Nat) (s r : Int) (b : Bool) (l l' : Int), canF g.2.2 mark n (s, r, b, l) = canF g.2.2 mark n (s, r, b, l')
 | 0, _, _, _, _, _ => rfl
 | n + 1, s, r, b, l, l' => by
  unfold canF
  refine congrArg (fun f => (leav g.2.2 s).any f) (funext fun x => ?_)
  exact canF_left n x.2.2 _ _ _ _
def canQ (g : Gr) (mark : List UInt8) (i : Nat) (q : Nat) : Bool := canF g.2.2 mark i (decP mark.length q)
def sizeQ (g : Gr) (mark : List UInt8) : Nat := g.2.1.toNat * (mark.length + 1) * 2
def canL (g : Gr) (mark : List UInt8) (i : Nat) : List Bool := (List.range (sizeQ g mark)).map (canQ g mark i)
theorem map_set {α : Type} {n : Nat} {F G : Nat → α} {e : Nat} {v : α} (h : ∀ q, q < n → G q = if q = e then v else F q) : ((List.range n).map F).set e v = (List.range n).map G := by
 refine List.ext_getElem (by simp) fun i h1 h2 => ?_
 rw [List.getElem_set]
 simp only [List.getElem_map, List.getElem_range]
 have hi : i < n := by simpa using h2
 rw [h i hi]
 by_cases e1 : e = i
 ·subst e1; rw [if_pos rfl]
 ·rw [if_neg e1, if_neg (fun h => e1 h.symm)]
theorem ixR {α : Type} {n e : Nat} {F : Nat → α} (h : e < n) : idx ((List.range n).map F) (e : Int) = some (F e) := by
 rw [ix (by simpa using h)]
 simp
theorem early_get {k : Nat} (hk : k ≤ mark.length) : idx (earlyT mark) (k : Int) = some (endsG mark mark k) := ixR (by omega)
theorem next_get {k q : Nat} (hk : k ≤ mark.length) : idx (nextT mark q) (k : Int) = some ((List.range q).map fun a => ((foll mark k (letters.getD a 0) : Nat) : Int)) := ixR (by omega)
def hitQ (g : Gr) (mark : List UInt8) (i q : Nat) (x : Ed) : Bool := decide (x.1 = (decP mark.length q).1) && canF g.2.2 mark i (stepF mark (decP mark.length q) x)
def stqL (g : Gr) (mark : List UInt8) (i j r : Nat) : List Bool := (List.range (sizeQ g mark)).map fun q => (g.2.2.take j).any (hitQ g mark i q) || ((g.2.2[j]?).any (hitQ g mark i q) && decide (q % (2 * (mark.length + 1)) < r))
theorem stqL_zero (i : Nat) : List.replicate (sizeQ g mark) false = stqL g mark i 0 0 := by
 refine List.ext_getElem (by simp [stqL]) fun j h1 h2 => ?_
 simp [stqL]
theorem stqL_next (i : Nat) {j : Nat} (hj : j < g.2.2.length) : stqL g mark i j (2 * (mark.length + 1)) = stqL g mark i (j + 1) 0 := by
 unfold stqL
 refine congrArg (fun f => (List.range (sizeQ g mark)).map f) (funext fun q => ?_)
 have h1 : decide (q % (2 * (mark.length + 1)) < 2 * (mark.length + 1)) = true := decide_eq_true (Nat.mod_lt _ (by omega))
 rw [h1, Bool.and_true, List.take_add_one, List.any_append, decide_eq_false (Nat.not_lt_zero _), Bool.and_false, Bool.or_false, List.getElem?_eq_getElem hj]
 simp
theorem stqL_last (i : Nat) : stqL g mark i g.2.2.length 0 = canL g mark (i + 1) := by
 unfold stqL canL
 refine congrArg (fun f => (List.range (sizeQ g mark)).map f) (funext fun q => ?_)
 rw [decide_eq_false (Nat.not_lt_zero _), Bool.and_false, Bool.or_false, List.take_length]
 unfold canQ canF
 unfold leav
 rw [List.any_filter]
 rfl
theorem hit_enc (hv : VG g) (h16 : g.1 ≤ 16) {i k f : Nat} {x : Ed} (hx : x ∈ g.2.2) (hk : k ≤ mark.length) (hf : f < 2) :
  hitQ g mark i (encP mark.length x.1.toNat k f) x = canQ g mark i (encP mark.length x.2.2.toNat (foll mark k (letters.getD x.2.1.toNat 0)) (if foll mark k (letters.getD x.2.1.toNat 0) = mark.length then 1 else f)) := by
 obtain ⟨e1, e2, e3, e4, e5, e6⟩ := hv.ed x hx
 unfold hitQ canQ
 have hfl := foll_le mark k (letters.getD x.2.1.toNat 0)
 rw [dec_enc hk hf, dec_enc hfl (by split <;> omega), decide_eq_true (by show x.1 = ((x.1.toNat : Nat) : Int); omega), Bool.true_and]
 show canF g.2.2 mark i (x.2.2, ((foll mark ((k : Nat) : Int).toNat (letters.getD x.2.1.toNat 0) : Nat) : Int), (decide (f = 1) || decide (foll mark ((k : Nat) : Int).toNat (letters.getD x.2.1.toNat 0) = mark.length)), (0 : Int) - 1) = _
 rw [Int.toNat_natCast, show ((x.2.2.toNat : Nat) : Int) = x.2.2 by omega]
 rw [show (decide (f = 1) || decide (foll mark k (letters.getD x.2.1.toNat 0) = mark.length)) = decide ((if foll mark k (letters.getD x.2.1.toNat 0) = mark.length then 1 else f) = 1) from by
  by_cases h : foll mark k (letters.getD x.2.1.toNat 0) = mark.length
  ·rw [if_pos h, decide_eq_true h, Bool.or_true]; rfl
  ·rw [if_neg h, decide_eq_false h, Bool.or_false]]
 exact canF_left _ _ _ _ _ _
theorem enc_inj {m s k f q : Nat} (hk : k ≤ m) (hf : f < 2) : q = encP m s k f ↔ q / 2 / (m + 1) = s ∧ q % (2 * (m + 1)) = 2 * k + f := by
 have hq : q / 2 / (m + 1) = q / (2 * (m + 1)) := Nat.div_div_eq_div_mul _ _ _
 rw [hq]
 have hd := Nat.div_add_mod q (2 * (m + 1))
 have hE : encP m s k f = 2 * (m + 1) * s + (2 * k + f) := by
  unfold encP
  rw [Nat.add_mul, Nat.mul_comm s (m + 1), Nat.mul_comm ((m + 1) * s) 2, ← Nat.mul_assoc]
  omega
 constructor
 ·rintro rfl
  rw [hE]
  refine ⟨?_, ?_⟩
  ·rw [Nat.mul_add_div (by omega), Nat.div_eq_of_lt (by omega), Nat.add_zero]
  ·rw [Nat.mul_add_mod, Nat.mod_eq_of_lt (by omega)]
 ·rintro ⟨h1, h2⟩
  rw [h1, h2] at hd
  omega
theorem stqL_set (hv : VG g) {i j k f : Nat} (hj : j < g.2.2.length) (hk : k ≤ mark.length) (hf : f < 2) (hh : hitQ g mark i (encP mark.length g.2.2[j].1.toNat k f) g.2.2[j] = true) :
  (stqL g mark i j (2 * k + f)).set (encP mark.length g.2.2[j].1.toNat k f) true = stqL g mark i j (2 * k + (f + 1)) := by
 unfold stqL
 refine map_set fun q hq => ?_
 rw [List.getElem?_eq_getElem hj, Option.any_some]
 by_cases e : q = encP mark.length g.2.2[j].1.toNat k f
 ·rw [if_pos e]
  have h2 := ((enc_inj hk hf).1 e).2
  rw [h2, decide_eq_true (by omega), Bool.and_true, e, hh, Bool.or_true]
 ·rw [if_neg e]
  by_cases hs : hitQ g mark i q g.2.2[j] = true
  ·have hst : q / 2 / (mark.length + 1) = g.2.2[j].1.toNat := by
    unfold hitQ at hs
    have := of_decide_eq_true (Bool.and_eq_true_iff.1 hs).1
    have h3 : g.2.2[j].1 = ((q / 2 / (mark.length + 1) : Nat) : Int) := this
    rw [h3, Int.toNat_natCast]
   have hne : q % (2 * (mark.length + 1)) ≠ 2 * k + f := fun h => e ((enc_inj hk hf).2 ⟨hst, h⟩)
   rw [hs, Bool.true_and, Bool.true_and]
   congr 1
   exact decide_eq_decide.2 (by omega)
  ·rw [Bool.eq_false_iff.2 hs, Bool.false_and, Bool.false_and]
theorem stqL_skip (hv : VG g) {i j k f : Nat} (hj : j < g.2.2.length) (hk : k ≤ mark.length) (hf : f < 2) (hh : hitQ g mark i (encP mark.length g.2.2[j].1.toNat k f) g.2.2[j] = false) :
  stqL g mark i j (2 * k + f) = stqL g mark i j (2 * k + (f + 1)) := by
 unfold stqL
 refine congrArg (fun f => (List.range (sizeQ g mark)).map f) (funext fun q => ?_)
 rw [List.getElem?_eq_getElem hj, Option.any_some]
 by_cases hs : hitQ g mark i q g.2.2[j] = true
 ·have hst : q / 2 / (mark.length + 1) = g.2.2[j].1.toNat := by
   unfold hitQ at hs
   have := of_decide_eq_true (Bool.and_eq_true_iff.1 hs).1
   have h3 : g.2.2[j].1 = ((q / 2 / (mark.length + 1) : Nat) : Int) := this
   rw [h3, Int.toNat_natCast]
  have hne : q % (2 * (mark.length + 1)) ≠ 2 * k + f := fun h => by
   have := (enc_inj hk hf).2 ⟨hst, h⟩
   rw [this, hh] at hs
   cases hs
  rw [hs, Bool.true_and, Bool.true_and]
  congr 1
  exact decide_eq_decide.2 (by omega)
 ·rw [Bool.eq_false_iff.2 hs, Bool.false_and, Bool.false_and]
def iniL (g : Gr) (mark : List UInt8) (e : Nat) : List Bool := (List.range (sizeQ g mark)).map fun q => if q < e then canQ g mark 0 q else false
theorem iniL_set {e : Nat} : (iniL g mark e).set e (canQ g mark 0 e) = iniL g mark (e + 1) := by
 refine map_set fun q _ => ?_
 by_cases h : q = e
 ·subst h; rw [if_pos rfl, if_pos (by omega)]
 ·rw [if_neg h]
  by_cases h2 : q < e
  ·rw [if_pos h2, if_pos (by omega)]
  ·rw [if_neg h2, if_neg (by omega)]
theorem iniL_zero : List.replicate (sizeQ g mark) false = iniL g mark 0 := by
 refine List.ext_getElem (by simp [iniL]) fun j h1 h2 => ?_
 simp [iniL]
theorem iniL_all {e : Nat} (h : sizeQ g mark ≤ e) : iniL g mark e = canL g mark 0 := by
 unfold iniL canL
 refine List.map_congr_left fun q hq => ?_
 rw [List.mem_range] at hq
 rw [if_pos (by omega)]
theorem ini_get {e i : Nat} (h : i < sizeQ g mark) : idx (iniL g mark e) (i : Int) = some (if i < e then canQ g mark 0 i else false) := ixR h
theorem stqL_get {i j r e : Nat} (h : e < sizeQ g mark) : ∃ b, idx (stqL g mark i j r) (e : Int) = some b := ⟨_, ixR h⟩
theorem canL_get {i e : Nat} (h : e < sizeQ g mark) : idx (canL g mark i) (e : Int) = some (canQ g mark i e) := ixR h
theorem big_max : 1000000 ≤ maxLen := by decide
theorem can54_eq (hv : VG g) (h16 : g.1 ≤ 16) (hm1 : mark ≠ []) (hm : mark.length ≤ 1000) {n : Nat} (hn : n ≤ 4096) : m_ref54_can g mark (n : Int) = some ((List.range (n + 1)).map (canL g mark)) := by
 have hl0 := hv.l1
 have hs0 := hv.s0
 have hs1 := hv.s1
 obtain ⟨S, hS⟩ := Int.eq_ofNat_of_zero_le hs0
 obtain ⟨L, hL⟩ := Int.eq_ofNat_of_zero_le (show 0 ≤ g.1 by omega)
 have hSz : sizeQ g mark = S * (mark.length + 1) * 2 := by unfold sizeQ; rw [hS, Int.toNat_natCast]
 have hSb : S * (mark.length + 1) ≤ 64 * (mark.length + 1) := Nat.mul_le_mul_right _ (by omega)
 have hmx := big_max
 unfold m_ref54_can
 rw [hL, tables54_eq hm1 hm (by omega), Option.bind_some, hS, wS (by omega) hm, ← hSz]
 have hsz : ((sizeQ g mark : Nat) : Int) ≤ 200000 := by omega
 rw [if_pos ⟨by omega, Int.le_refl _, by omega⟩, Int.toNat_natCast]
 refine bindL (loop_is (fun s => ((s : Int), iniL g mark (encP mark.length s 0 0))) S (canL g mark 0) (fun s hs => ?_) ?_ ?_) ?_
 ·dsimp only
  rw [if_pos (by omega)]
  refine bindL (loop_is (fun k => ((k : Int), iniL g mark (encP mark.length s k 0))) (mark.length + 1) (iniL g mark (encP mark.length (s + 1) 0 0)) (fun k hk => ?_) ?_ rfl) ?_
  ·dsimp only
   have hk' : k ≤ mark.length := by omega
   have hlt0 : encP mark.length s k 0 < sizeQ g mark := by rw [hSz]; exact enc_lt hs hk' (by omega)
   have hlt1 : encP mark.length s k 1 < sizeQ g mark := by rw [hSz]; exact enc_lt hs hk' (by omega)
   have he1 : encP mark.length s k 0 + 1 = encP mark.length s k 1 := rfl
   have he2 : encP mark.length s k 1 + 1 = encP mark.length s (k + 1) 0 := by unfold encP; omega
   rw [if_pos (by omega), early_get hk', Option.bind_some, wP0 (by omega) hm hk', ini_get hlt0, Option.bind_some, Int.toNat_natCast]
   have hw1 : IntKind.wrap .i64 (((encP mark.length s k 0 : Nat) : Int) + 1) = ((encP mark.length s k 1 : Nat) : Int) := wPf (f := 1) (by omega) hm hk' (by omega)
   have hc0 : endsG mark mark k = canQ g mark 0 (encP mark.length s k 0) := by
    unfold canQ
    rw [dec_enc hk' (by omega)]
    unfold canF endsF
    dsimp only
    rw [Int.toNat_natCast]
    exact (Bool.or_false _).symm
   have hc1 : true = canQ g mark 0 (encP mark.length s k 1) := by
    unfold canQ
    rw [dec_enc hk' (by omega)]
    unfold canF endsF
    exact (Bool.or_true _).symm
   rw [hw1, hc0, iniL_set, he1, ini_get hlt1, Option.bind_some, Int.toNat_natCast, hc1, iniL_set, he2, nx (n := 1001) (by omega) (by omega)]
  ·dsimp only
   rw [if_neg (by omega)]
   rw [show encP mark.length s (mark.length + 1) 0 = encP mark.length (s + 1) 0 0 from by unfold encP; rw [Nat.add_mul s 1, Nat.one_mul]; omega]
  ·rw [nx (n := S) (by omega) hs]
 ·dsimp only
  rw [if_neg (not_lt_int _), iniL_all (by rw [hSz]; unfold encP; omega)]
 ·rw [iniL_zero]
  rw [show encP mark.length 0 0 0 = 0 from by unfold encP; omega]
  rfl
 refine bindL (loop_is (fun i => ((i : Int), (List.range (i + 1)).map (canL g mark))) n ((List.range (n + 1)).map (canL g mark)) (fun i hi => ?_) ?_ rfl) rfl
 ·dsimp only
  rw [if_pos (by omega), if_pos ⟨by omega, Int.le_refl _, by omega⟩]
  refine bindL (loop_is (fun j => ((j : Int), stqL g mark i j 0)) g.2.2.length (canL g mark (i + 1)) (fun j hj => ?_) ?_ ?_) ?_
  ·dsimp only
   have hxm : g.2.2[j] ∈ g.2.2 := List.getElem_mem hj
   obtain ⟨e1, e2, e3, e4, e5, e6⟩ := hv.ed _ hxm
   rw [if_pos (by omega), ix hj, Option.bind_some]
   refine bindL (loop_is (fun k => ((k : Int), stqL g mark i j (2 * k))) (mark.length + 1) (stqL g mark i j (2 * (mark.length + 1))) (fun k hk => ?_) ?_ rfl) ?_
   ·dsimp only
    have hk' : k ≤ mark.length := by omega
    obtain ⟨a, ha⟩ := Int.eq_ofNat_of_zero_le e5
    obtain ⟨s, hs⟩ := Int.eq_ofNat_of_zero_le e1
    obtain ⟨t, ht⟩ := Int.eq_ofNat_of_zero_le e3
    have haL : a < L := by omega
    have hfl := foll_le mark k (letters.getD a 0)
    rw [if_pos (by omega), next_get hk', Option.bind_some, ha, ixR haL, Option.bind_some]
    refine bindL (loop_is (fun f => ((f : Int), stqL g mark i j (2 * k + f))) 2 (stqL g mark i j (2 * k + 2)) (fun f hf => ?_) ?_ rfl) ?_
    ·dsimp only
     have hT : IntKind.wrap .i64 ((IntKind.wrap .i64 ((IntKind.wrap .i64 (g.2.2[j].2.2 * (IntKind.wrap .i64 ((mark.length : Int) + 1)))) + ((foll mark k (letters.getD a 0) : Nat) : Int))) * 2) = ((encP mark.length t (foll mark k (letters.getD a 0)) 0 : Nat) : Int) := by
      rw [ht]; exact wP0 (by omega) hm hfl
     have hFr : IntKind.wrap .i64 ((IntKind.wrap .i64 ((IntKind.wrap .i64 (g.2.2[j].1 * (IntKind.wrap .i64 ((mark.length : Int) + 1)))) + (k : Int))) * 2) = ((encP mark.length s k 0 : Nat) : Int) := by
      rw [hs]; exact wP0 (by omega) hm hk'
     have hi1 : idx ((List.range (i + 1)).map (canL g mark)) (i : Int) = some (canL g mark i) := ixR (by omega)
     have hh := hit_enc (i := i) hv h16 hxm hk' hf
     rw [ht, hs, ha, Int.toNat_natCast, Int.toNat_natCast, Int.toNat_natCast] at hh
     have hltF : encP mark.length s k f < sizeQ g mark := by rw [hSz]; exact enc_lt (by omega) hk' hf
     have hs' : g.2.2[j].1.toNat = s := by rw [hs, Int.toNat_natCast]
     rw [hT, hFr, if_pos (by omega)]
     simp only [jp]
     have key : ∀ h : Nat, h < 2 → h = (if foll mark k (letters.getD a 0) = mark.length then 1 else f) → ((idx ((List.range (i + 1)).map (canL g mark)) (i : Int)).bind fun x55 => (idx ((List.range (i + 1)).map (canL g mark)) (i : Int)).bind fun x57 => (idx x57 (IntKind.wrap .i64 (((encP mark.length t (foll mark k (letters.getD a 0)) 0 : Nat) : Int) + (h : Int)))).bind fun x59 =>
       if x59 = true then (idx (stqL g mark i j (2 * k + f)) (IntKind.wrap .i64 (((encP mark.length s k 0 : Nat) : Int) + (f : Int)))).bind fun x61 => some (Stp.next (X := List Bool) (IntKind.wrap .i64 ((f : Int) + 1), (stqL g mark i j (2 * k + f)).set (IntKind.wrap .i64 (((encP mark.length s k 0 : Nat) : Int) + (f : Int))).toNat true))
       else some (Stp.next (IntKind.wrap .i64 ((f : Int) + 1), stqL g mark i j (2 * k + f)))) = some (Stp.next (((f + 1 : Nat) : Int), stqL g mark i j (2 * k + (f + 1)))) := by
      intro h hh2 hhe
      have hltT : encP mark.length t (foll mark k (letters.getD a 0)) h < sizeQ g mark := by rw [hSz]; exact enc_lt (by omega) hfl hh2
      rw [hi1, Option.bind_some, Option.bind_some, wPf (by omega) hm hfl hh2, wPf (by omega) hm hk' hf, canL_get hltT, Option.bind_some, nx (n := 2) (by omega) hf, Int.toNat_natCast]
      rw [← hhe] at hh
      by_cases hc : canQ g mark i (encP mark.length t (foll mark k (letters.getD a 0)) h) = true
      ·obtain ⟨b, hb⟩ := stqL_get (g := g) (mark := mark) (i := i) (j := j) (r := 2 * k + f) hltF
       rw [if_pos hc, hb, Option.bind_some]
       have := stqL_set (mark := mark) (i := i) hv hj hk' hf (by rw [hs', hh]; exact hc)
       rw [hs'] at this
       rw [this]
      ·rw [if_neg hc]
       rw [stqL_skip hv hj hk' hf (by rw [hs', hh]; exact Bool.eq_false_iff.2 hc)]
     by_cases hfm : foll mark k (letters.getD a 0) = mark.length
     ·rw [if_pos (by rw [hfm])]
      exact key 1 (by omega) (by rw [if_pos hfm])
     ·rw [if_neg (by omega)]
      exact key f hf (by rw [if_neg hfm])
    ·dsimp only
     rw [if_neg (by decide)]
    ·rw [nx (n := 1001) (by omega) (by omega)]
     rfl
   ·dsimp only
    rw [if_neg (by omega)]
   ·rw [nx (n := 1024) (by omega) (by have := hv.el; omega), stqL_next i hj]
  ·dsimp only
   rw [if_neg (not_lt_int _), stqL_last]
  ·rw [stqL_zero i]
   rfl
  ·rw [if_pos ⟨by simp; omega, by simp; omega⟩, nx (n := 4096) (by omega) (by omega), map_range_take _ (i + 1)]
 ·dsimp only
  rw [if_neg (not_lt_int _)]
theorem start_any (hv : VG g) (h16 : g.1 ≤ 16) (n : Nat) : (List.range g.2.1.toNat).any (fun s => canQ g mark n (encP mark.length s mark.length 0)) = decide (badsW g mark n ≠ []) := by
 have hb := badF_eq (mark := mark) hv h16 n
 rw [Bool.eq_iff_iff, decide_eq_true_eq, List.any_eq_true]
 have h2 : badsW g mark n ≠ [] ↔ startF g mark n ≠ [] := by
  unfold badF at hb
  by_cases hs : startF g mark n = []
  ·rw [if_pos hs] at hb
   have := congrArg Prod.snd hb
   have := of_decide_eq_false (show decide (badsW g mark n ≠ []) = false from this.symm)
   exact ⟨fun h => absurd h this, fun h => absurd hs h⟩
  ·rw [if_neg hs] at hb
   have := congrArg Prod.snd hb
   exact ⟨fun _ => hs, fun _ => of_decide_eq_true this.symm⟩
 rw [h2]
 have hq : ∀ s : Nat, canQ g mark n (encP mark.length s mark.length 0) = canP g.2.2 mark ((s : Int), (mark.length : Int), false, (n : Int)) := fun s => by
  unfold canQ canP
  rw [dec_enc (Nat.le_refl _) (by omega)]
  dsimp only
  rw [Int.toNat_natCast]
  exact canF_left _ _ _ _ _ _
 constructor
 ·rintro ⟨s, hs, hc⟩
  rw [List.mem_range] at hs
  rw [hq] at hc
  have : ((s : Int), (mark.length : Int), false, (n : Int)) ∈ startF g mark n := mem_startF.2 ⟨⟨Int.natCast_nonneg _, by dsimp only; omega⟩, rfl, hc⟩
  exact List.ne_nil_of_mem this
 ·intro h
  obtain ⟨p, hp⟩ := List.exists_mem_of_ne_nil _ h
  obtain ⟨⟨p0, p1⟩, p2, p3⟩ := mem_startF.1 hp
  refine ⟨p.1.toNat, List.mem_range.2 (by omega), ?_⟩
  rw [hq, show ((p.1.toNat : Nat) : Int) = p.1 by omega]
  rw [← p2]
  exact p3
theorem rcheck54 (g : Gr) (mark : List UInt8) : m_ref54_check g mark = m_syncmark_check g mark := by
 unfold m_ref54_check m_syncmark_check
 rw [Check_ref, rcheck]
theorem RefValid_eq (h : MOk54 g mark) {n : Nat} (hn : n ≤ 4096) : m_ref54_Valid g mark (n : Int) = some (decide (badsW g mark n = []), 0) := by
 obtain ⟨e, he, hz⟩ := check54_tot g mark
 obtain ⟨hv, h16, hm1, hm2, hm3⟩ := h
 have hs0 := hv.s0
 have hs1 := hv.s1
 obtain ⟨S, hS⟩ := Int.eq_ofNat_of_zero_le hs0
 unfold m_ref54_Valid
 rw [rcheck54, he, Option.bind_some, if_neg (by rw [hz.2 ⟨hv, h16, hm1, hm2, hm3⟩]; decide)]
 simp only [jp]
 rw [if_neg (by omega), if_neg (by rw [decide_eq_true_eq]; omega), can54_eq hv h16 hm1 (by omega) hn, Option.bind_some]
 refine lpL (loop_any (fun s => (s : Int)) S (fun s => canQ g mark n (encP mark.length s mark.length 0)) (.ret (false, 0)) (.go ()) (fun s hs => ?_) ?_ rfl) ?_
 ·have hlt : encP mark.length s mark.length 0 < sizeQ g mark := by unfold sizeQ; rw [hS, Int.toNat_natCast]; exact enc_lt hs (Nat.le_refl _) (by omega)
  rw [if_pos (by omega), ixR (by omega), Option.bind_some, wP0 (by omega) (by omega) (Nat.le_refl _), canL_get hlt, Option.bind_some, nx (n := S) (by omega) hs]
 ·rw [if_neg (by omega)]
 ·have := start_any (mark := mark) hv h16 n
  rw [hS, Int.toNat_natCast] at this
  rw [this]
  by_cases hb : badsW g mark n = []
  ·rw [if_neg (by rw [decide_eq_true_eq]; exact fun h => h hb), decide_eq_true hb]; rfl
  ·rw [if_pos (decide_eq_true hb), decide_eq_false hb]; rfl
end
end Go.AW
namespace Go.AW
open Go
set_option linter.unusedVariables false
set_option linter.unusedSimpArgs false
section
variable {g : Gr} {mark : List UInt8}
def encOf (m : Nat) (p : TStateReadBadLeft) : Nat := encP m p.1.toNat p.2.1.toNat (if p.2.2.1 = true then 1 else 0)
def arrQ (g : Gr) (mark : List UInt8) (P : Nat → Bool) : List Bool := (List.range (sizeQ g mark)).map P
def tgtQ (mark : List UInt8) (x : Ed) (r : Nat) : Nat := encP mark.length x.2.2.toNat (foll mark (r / 2) (letters.getD x.2.1.toNat 0)) (if foll mark (r / 2) (letters.getD x.2.1.toNat 0) = mark.length then 1 else r % 2)
def trQ (g : Gr) (mark : List UInt8) (P : Nat → Bool) (i : Nat) (a : Int) (x : Ed) (r : Nat) : Bool := decide (x.2.1 = a) && (P (encP mark.length x.1.toNat (r / 2) (r % 2)) && canQ g mark i (tgtQ mark x r))
def thenL (g : Gr) (mark : List UInt8) (P : Nat → Bool) (i : Nat) (a : Int) (j r : Nat) (q : Nat) : Bool :=
 (g.2.2.take j).any (fun x => (List.range (2 * (mark.length + 1))).any fun r => trQ g mark P i a x r && decide (q = tgtQ mark x r)) || (g.2.2[j]?).any fun x => (List.range r).any fun r => trQ g mark P i a x r && decide (q = tgtQ mark x r)
def fndL (g : Gr) (mark : List UInt8) (P : Nat → Bool) (i : Nat) (a : Int) (j r : Nat) : Bool :=
 (g.2.2.take j).any (fun x => (List.range (2 * (mark.length + 1))).any fun r => trQ g mark P i a x r) || (g.2.2[j]?).any fun x => (List.range r).any fun r => trQ g mark P i a x r
theorem any_succ {f : Nat → Bool} (r : Nat) : (List.range (r + 1)).any f = ((List.range r).any f || f r) := by
 rw [List.range_succ, List.any_append]; simp
theorem thenL_next {P : Nat → Bool} {i : Nat} {a : Int} {j : Nat} (hj : j < g.2.2.length) (q : Nat) : thenL g mark P i a j (2 * (mark.length + 1)) q = thenL g mark P i a (j + 1) 0 q := by
 unfold thenL
 rw [List.take_add_one, List.any_append, List.getElem?_eq_getElem hj]
 simp
theorem fndL_next {P : Nat → Bool} {i : Nat} {a : Int} {j : Nat} (hj : j < g.2.2.length) : fndL g mark P i a j (2 * (mark.length + 1)) = fndL g mark P i a (j + 1) 0 := by
 unfold fndL
 rw [List.take_add_one, List.any_append, List.getElem?_eq_getElem hj]
 simp
theorem thenL_other {P : Nat → Bool} {i : Nat} {a : Int} {j : Nat} (hj : j < g.2.2.length) (h : g.2.2[j].2.1 ≠ a) (q : Nat) : thenL g mark P i a j 0 q = thenL g mark P i a (j + 1) 0 q := by
 rw [← thenL_next hj]
 unfold thenL trQ
 rw [List.getElem?_eq_getElem hj, Option.any_some, Option.any_some, decide_eq_false h]
 simp
theorem fndL_other {P : Nat → Bool} {i : Nat} {a : Int} {j : Nat} (hj : j < g.2.2.length) (h : g.2.2[j].2.1 ≠ a) : fndL g mark P i a j 0 = fndL g mark P i a (j + 1) 0 := by
 rw [← fndL_next hj]
 unfold fndL trQ
 rw [List.getElem?_eq_getElem hj, Option.any_some, Option.any_some, decide_eq_false h]
 simp
theorem thenL_step {P : Nat → Bool} {i : Nat} {a : Int} {j r : Nat} (hj : j < g.2.2.length) (q : Nat) : thenL g mark P i a j (r + 1) q = (thenL g mark P i a j r q || (trQ g mark P i a g.2.2[j] r && decide (q = tgtQ mark g.2.2[j] r))) := by
 unfold thenL
 rw [List.getElem?_eq_getElem hj, Option.any_some, Option.any_some, any_succ, Bool.or_assoc]
theorem fndL_step {P : Nat → Bool} {i : Nat} {a : Int} {j r : Nat} (hj : j < g.2.2.length) : fndL g mark P i a j (r + 1) = (fndL g mark P i a j r || trQ g mark P i a g.2.2[j] r) := by
 unfold fndL
 rw [List.getElem?_eq_getElem hj, Option.any_some, Option.any_some, any_succ, Bool.or_assoc]
theorem thenL_zero {P : Nat → Bool} {i : Nat} {a : Int} : List.replicate (sizeQ g mark) false = arrQ g mark (thenL g mark P i a 0 0) := by
 refine List.ext_getElem (by simp [arrQ]) fun j h1 h2 => ?_
 simp [arrQ, thenL]
def StandQ (g : Gr) (mark : List UInt8) (P : Nat → Bool) (nl : List TStateReadBadLeft) (d : Nat) : Prop := (∀ q, q < sizeQ g mark → (P q = true ↔ ∃ p ∈ nl, q = encOf mark.length p)) ∧ ∀ p ∈ nl, (0 ≤ p.1 ∧ p.1 < g.2.1) ∧ (0 ≤ p.2.1 ∧ p.2.1 ≤ mark.length) ∧ p.2.2.2 = (d : Int) ∧ canP g.2.2 mark p = true
theorem encOf_lt {p : TStateReadBadLeft} (h : (0 ≤ p.1 ∧ p.1 < g.2.1) ∧ 0 ≤ p.2.1 ∧ p.2.1 ≤ mark.length) : encOf mark.length p < sizeQ g mark := by
 obtain ⟨⟨a, b⟩, c, d⟩ := h
 unfold encOf sizeQ
 exact enc_lt (by omega) (by omega) (by split <;> omega)
theorem canQ_of {p : TStateReadBadLeft} (h : (0 ≤ p.1 ∧ p.1 < g.2.1) ∧ 0 ≤ p.2.1 ∧ p.2.1 ≤ mark.length) {i : Nat} (hi : p.2.2.2 = (i : Int)) : canQ g mark i (encOf mark.length p) = canP g.2.2 mark p := by
 obtain ⟨⟨a, b⟩, c, d⟩ := h
 obtain ⟨p1, p2, p3, p4⟩ := p
 dsimp only at a b c d hi
 unfold canQ canP encOf
 dsimp only
 rw [dec_enc (by omega) (by split <;> omega), hi, Int.toNat_natCast, show ((p1.toNat : Nat) : Int) = p1 by omega, show ((p2.toNat : Nat) : Int) = p2 by omega]
 have : decide ((if p3 = true then 1 else 0) = 1) = p3 := by cases p3 <;> rfl
 rw [this]
 exact canF_left _ _ _ _ _ _
theorem tgt_of {p : TStateReadBadLeft} (h : 0 ≤ p.2.1) (x : Ed) : tgtQ mark x (2 * p.2.1.toNat + if p.2.2.1 = true then 1 else 0) = encOf mark.length (stepF mark p x) := by
 unfold tgtQ encOf stepF letB
 have h1 : (2 * p.2.1.toNat + if p.2.2.1 = true then 1 else 0) / 2 = p.2.1.toNat := by split <;> omega
 have h2 : (2 * p.2.1.toNat + if p.2.2.1 = true then 1 else 0) % 2 = if p.2.2.1 = true then 1 else 0 := by split <;> omega
 rw [h1, h2]
 dsimp only
 rw [Int.toNat_natCast]
 congr 1
 by_cases hf : foll mark p.2.1.toNat (letters.getD x.2.1.toNat 0) = mark.length
 ·rw [if_pos hf, decide_eq_true hf, Bool.or_true, if_pos rfl]
 ·rw [if_neg hf, decide_eq_false hf, Bool.or_false]
theorem stand_tr (hv : VG g) {P : Nat → Bool} {nl : List TStateReadBadLeft} {i : Nat} (h : StandQ g mark P nl (i + 1)) {a : Int} (q : Nat) :
  (∃ x ∈ g.2.2, ∃ r, r < 2 * (mark.length + 1) ∧ trQ g mark P i a x r = true ∧ q = tgtQ mark x r) ↔ ∃ p ∈ aft (canP g.2.2 mark) (stepF mark) (leav g.2.2) nl a, q = encOf mark.length p := by
 obtain ⟨h1, h2⟩ := h
 have hgood : ∀ p ∈ nl, ∀ x ∈ g.2.2, (0 ≤ (stepF mark p x).1 ∧ (stepF mark p x).1 < g.2.1) ∧ 0 ≤ (stepF mark p x).2.1 ∧ (stepF mark p x).2.1 ≤ mark.length := fun p hp x hx => by
  obtain ⟨e1, e2, e3, e4, e5, e6⟩ := hv.ed x hx
  refine ⟨⟨e3, e4⟩, Int.natCast_nonneg _, ?_⟩
  show ((foll mark p.2.1.toNat (letB x.2.1) : Nat) : Int) ≤ _
  have := foll_le mark p.2.1.toNat (letB x.2.1)
  omega
 constructor
 ·rintro ⟨x, hx, r, hr, ht, rfl⟩
  obtain ⟨e1, e2, e3, e4, e5, e6⟩ := hv.ed x hx
  unfold trQ at ht
  obtain ⟨t1, t2⟩ := Bool.and_eq_true_iff.1 ht
  obtain ⟨t2, t3⟩ := Bool.and_eq_true_iff.1 t2
  have t1 := of_decide_eq_true t1
  have hk : r / 2 ≤ mark.length := by omega
  have hf : r % 2 < 2 := by omega
  obtain ⟨p, hp, he⟩ := (h1 _ (by unfold sizeQ; exact enc_lt (by omega) hk hf)).1 t2
  obtain ⟨⟨p0, p1⟩, ⟨p2, p3⟩, p4, p5⟩ := h2 p hp
  unfold encOf at he
  obtain ⟨i1, i2⟩ := (enc_inj hk hf).1 he.symm
  obtain ⟨j1, j2⟩ := (enc_inj (m := mark.length) (s := p.1.toNat) (k := p.2.1.toNat) (f := if p.2.2.1 = true then 1 else 0) (by omega) (by split <;> omega)).1 rfl
  have hs : x.1 = p.1 := by omega
  have hr2 : r = 2 * p.2.1.toNat + if p.2.2.1 = true then 1 else 0 := by omega
  rw [hr2, tgt_of p2] at t3 ⊢
  rw [canQ_of (hgood p hp x hx) (by show p.2.2.2 - 1 = _; omega)] at t3
  exact ⟨stepF mark p x, (mem_aft nl).2 ⟨t3, p, hp, x, List.mem_filter.2 ⟨hx, decide_eq_true hs⟩, t1, rfl⟩, rfl⟩
 ·rintro ⟨p', hp', rfl⟩
  obtain ⟨t3, p, hp, x, hx, t1, rfl⟩ := (mem_aft nl).1 hp'
  obtain ⟨hxE, hs⟩ := List.mem_filter.1 hx
  have hs := of_decide_eq_true hs
  obtain ⟨⟨p0, p1⟩, ⟨p2, p3⟩, p4, p5⟩ := h2 p hp
  refine ⟨x, hxE, 2 * p.2.1.toNat + if p.2.2.1 = true then 1 else 0, by split <;> omega, ?_, (tgt_of p2 x).symm⟩
  unfold trQ
  rw [tgt_of p2, canQ_of (hgood p hp x hxE) (by show p.2.2.2 - 1 = _; omega), t3, decide_eq_true t1, Bool.true_and, Bool.and_true]
  have h1' : (2 * p.2.1.toNat + if p.2.2.1 = true then 1 else 0) / 2 = p.2.1.toNat := by split <;> omega
  have h2' : (2 * p.2.1.toNat + if p.2.2.1 = true then 1 else 0) % 2 = if p.2.2.1 = true then 1 else 0 := by split <;> omega
  rw [h1', h2', hs]
  exact (h1 _ (encOf_lt ⟨⟨p0, p1⟩, p2, p3⟩)).2 ⟨p, hp, rfl⟩
theorem stand_next (hv : VG g) {P : Nat → Bool} {nl : List TStateReadBadLeft} {i : Nat} (h : StandQ g mark P nl (i + 1)) (a : Int) : StandQ g mark (thenL g mark P i a g.2.2.length 0) (aft (canP g.2.2 mark) (stepF mark) (leav g.2.2) nl a) i := by
 refine ⟨fun q hq => ?_, fun p' hp' => ?_⟩
 ·rw [← stand_tr hv h]
  unfold thenL
  rw [List.take_length]
  simp only [List.range_zero, List.any_nil, List.any_eq_true, Bool.or_eq_true, List.mem_range, Bool.and_eq_true, decide_eq_true_eq]
  constructor
  ·rintro (⟨x, hx, r, hr, h1, h2⟩ | h)
   ·exact ⟨x, hx, r, hr, h1, h2⟩
   ·simp at h
  ·rintro ⟨x, hx, r, hr, h1, h2⟩
   exact .inl ⟨x, hx, r, hr, h1, h2⟩
 ·obtain ⟨t3, p, hp, x, hx, t1, rfl⟩ := (mem_aft nl).1 hp'
  obtain ⟨hxE, hs⟩ := List.mem_filter.1 hx
  obtain ⟨e1, e2, e3, e4, e5, e6⟩ := hv.ed x hxE
  obtain ⟨⟨p0, p1⟩, ⟨p2, p3⟩, p4, p5⟩ := h.2 p hp
  refine ⟨⟨e3, e4⟩, ⟨Int.natCast_nonneg _, ?_⟩, by show p.2.2.2 - 1 = _; omega, t3⟩
  show ((foll mark p.2.1.toNat (letB x.2.1) : Nat) : Int) ≤ _
  have := foll_le mark p.2.1.toNat (letB x.2.1)
  omega
theorem stand_found (hv : VG g) {P : Nat → Bool} {nl : List TStateReadBadLeft} {i : Nat} (h : StandQ g mark P nl (i + 1)) (a : Int) : fndL g mark P i a g.2.2.length 0 = true ↔ aft (canP g.2.2 mark) (stepF mark) (leav g.2.2) nl a ≠ [] := by
 unfold fndL
 rw [List.take_length]
 simp only [List.range_zero, List.any_nil, List.any_eq_true, Bool.or_eq_true, List.mem_range]
 constructor
 ·rintro (⟨x, hx, r, hr, h1⟩ | h)
  ·obtain ⟨p, hp, _⟩ := (stand_tr hv h _).1 ⟨x, hx, r, hr, h1, rfl⟩
   exact List.ne_nil_of_mem hp
  ·simp at h
 ·intro hne
  obtain ⟨p, hp⟩ := List.exists_mem_of_ne_nil _ hne
  obtain ⟨x, hx, r, hr, h1, _⟩ := (stand_tr hv h _).2 ⟨p, hp, rfl⟩
  exact .inl ⟨x, hx, r, hr, h1⟩
theorem stand_start (hv : VG g) (n : Nat) : StandQ g mark (fun q => decide (q % (2 * (mark.length + 1)) = 2 * mark.length) && canQ g mark n q) (startF g mark n) n := by
 have hq : ∀ s : Nat, canQ g mark n (encP mark.length s mark.length 0) = canP g.2.2 mark ((s : Int), (mark.length : Int), false, (n : Int)) := fun s => by
  unfold canQ canP
  rw [dec_enc (Nat.le_refl _) (by omega)]
  dsimp only
  rw [Int.toNat_natCast]
  exact canF_left _ _ _ _ _ _
 refine ⟨fun q hlt => ?_, fun p hp => ?_⟩
 ·rw [Bool.and_eq_true, decide_eq_true_eq]
  constructor
  ·rintro ⟨h1, h2⟩
   have he : q = encP mark.length (q / 2 / (mark.length + 1)) mark.length 0 := (enc_inj (Nat.le_refl _) (by omega)).2 ⟨rfl, by omega⟩
   have hs : q / 2 / (mark.length + 1) < g.2.1.toNat := by
    unfold sizeQ at hlt
    rw [Nat.div_lt_iff_lt_mul (by omega)]
    omega
   generalize q / 2 / (mark.length + 1) = s at he hs
   subst he
   rw [hq] at h2
   refine ⟨((s : Int), (mark.length : Int), false, (n : Int)), mem_startF.2 ⟨⟨Int.natCast_nonneg _, by dsimp only; omega⟩, rfl, h2⟩, ?_⟩
   unfold encOf
   dsimp only
   rw [Int.toNat_natCast, Int.toNat_natCast]
   rfl
  ·rintro ⟨p, hp, rfl⟩
   obtain ⟨⟨p0, p1⟩, p2, p3⟩ := mem_startF.1 hp
   have he : encOf mark.length p = encP mark.length p.1.toNat mark.length 0 := by
    unfold encOf
    rw [p2]
    dsimp only
    rw [Int.toNat_natCast]
    rfl
   refine ⟨?_, ?_⟩
   ·rw [((enc_inj (Nat.le_refl _) (by omega)).1 he).2]; rfl
   ·rw [he, hq, show ((p.1.toNat : Nat) : Int) = p.1 by omega, ← p2]
    exact p3
 ·obtain ⟨⟨p0, p1⟩, p2, p3⟩ := mem_startF.1 hp
  refine ⟨⟨p0, p1⟩, ?_, ?_, p3⟩
  ·rw [p2]; exact ⟨Int.natCast_nonneg _, Int.le_refl _⟩
  ·rw [p2]
end
end Go.AW
namespace Go.AW
open Go
set_option linter.unusedVariables false
set_option linter.unusedSimpArgs false
section
variable {g : Gr} {mark : List UInt8}
theorem arr_get {P : Nat → Bool} {e : Nat} (h : e < sizeQ g mark) : idx (arrQ g mark P) (e : Int) = some (P e) := ixR h
theorem arr_congr {P Q : Nat → Bool} (h : ∀ q, P q = Q q) : arrQ g mark P = arrQ g mark Q := by
 have : P = Q := funext h
 rw [this]
theorem arr_len {P : Nat → Bool} : (arrQ g mark P).length = sizeQ g mark := by simp [arrQ]
theorem then_set {P : Nat → Bool} {i : Nat} {a : Int} {j r : Nat} (hj : j < g.2.2.length) (ht : trQ g mark P i a g.2.2[j] r = true) : (arrQ g mark (thenL g mark P i a j r)).set (tgtQ mark g.2.2[j] r) true = arrQ g mark (thenL g mark P i a j (r + 1)) := by
 refine map_set fun q _ => ?_
 rw [thenL_step hj, ht, Bool.true_and]
 by_cases e : q = tgtQ mark g.2.2[j] r
 ·rw [if_pos e, decide_eq_true e, Bool.or_true]
 ·rw [if_neg e, decide_eq_false e, Bool.or_false]
theorem then_skip {P : Nat → Bool} {i : Nat} {a : Int} {j r : Nat} (hj : j < g.2.2.length) (ht : trQ g mark P i a g.2.2[j] r = false) : arrQ g mark (thenL g mark P i a j r) = arrQ g mark (thenL g mark P i a j (r + 1)) := by
 refine arr_congr fun q => ?_
 rw [thenL_step hj, ht, Bool.false_and, Bool.or_false]
theorem fndL_zero {P : Nat → Bool} {i : Nat} {a : Int} : fndL g mark P i a 0 0 = false := by simp [fndL]
set_option maxHeartbeats 1600000 in
theorem triple_eq (hv : VG g) (h16 : g.1 ≤ 16) (hm : mark.length ≤ 1000) {n i : Nat} (hi : i ≤ n) {a L : Nat} (ha : a < L) (hL : g.1 = (L : Int)) (P : Nat → Bool) :
    (loopW (S := Bool × Int × (List Bool)) (X := (List Bool) × Bool) (fun a43 =>
                      if a43.2.1 < ((g.2.2).length : Int) then
                       (idx g.2.2 a43.2.1).bind fun x47 =>
                       (loopW (S := Bool × Int × (List Bool)) (X := (List Bool) × Bool) (fun a50 =>
                           jp (fun (a54 : Bool) =>
                             if a54 = true then
                              (loopW (S := Bool × Int × (List Bool)) (X := (List Bool) × Bool) (fun a57 =>
                                  if a57.2.1 < 2 then
                                   jp (fun (a61 : Bool × (List Bool)) =>
                                     some (Stp.next (a61.1, IntKind.wrap .i64 (a57.2.1 + 1), a61.2)))
                                     fun k63 =>
                                    (idx (nextT mark L) a50.2.1).bind fun x64 =>
                                    (idx x64 (a : Int)).bind fun x66 =>
                                    jp (fun (a68 : Int) =>
                                      jp (fun (a71 : Bool) =>
                                        if a71 = true then
                                         (idx a57.2.2 (IntKind.wrap .i64 ((IntKind.wrap .i64 ((IntKind.wrap .i64 ((IntKind.wrap .i64 (x47.2.2 * (IntKind.wrap .i64 (((mark).length : Int) + 1)))) + x66)) * 2)) + a68))).bind fun x74 =>
                                         k63 (true, (a57.2.2).set (IntKind.wrap .i64 ((IntKind.wrap .i64 ((IntKind.wrap .i64 ((IntKind.wrap .i64 (x47.2.2 * (IntKind.wrap .i64 (((mark).length : Int) + 1)))) + x66)) * 2)) + a68)).toNat true)
                                        else
                                         k63 (a57.1, a57.2.2))
                                        fun k73 =>
                                       (idx (arrQ g mark P) (IntKind.wrap .i64 ((IntKind.wrap .i64 ((IntKind.wrap .i64 ((IntKind.wrap .i64 (x47.1 * (IntKind.wrap .i64 (((mark).length : Int) + 1)))) + a50.2.1)) * 2)) + a57.2.1))).bind fun x76 =>
                                       if x76 = true then
                                        (idx ((List.range (n + 1)).map (canL g mark)) (i : Int)).bind fun x78 =>
                                        (idx x78 (IntKind.wrap .i64 ((IntKind.wrap .i64 ((IntKind.wrap .i64 ((IntKind.wrap .i64 (x47.2.2 * (IntKind.wrap .i64 (((mark).length : Int) + 1)))) + x66)) * 2)) + a68))).bind fun x80 =>
                                        k73 x80
                                       else
                                        k73 false)
                                      fun k70 =>
                                     if x66 = ((mark).length : Int) then
                                      k70 1
                                     else
                                      k70 a57.2.1
                                  else
                                   some (Stp.exit (a57.2.2, a57.1))) (a50.1, 0, a50.2.2)).bind fun a83 =>
                              some (Stp.next (a83.2, IntKind.wrap .i64 (a50.2.1 + 1), a83.1))
                             else
                              some (Stp.exit (a50.2.2, a50.1)))
                             fun k56 =>
                            if a50.2.1 ≤ ((mark).length : Int) then
                             k56 (decide (x47.2.1 = (a : Int)))
                            else
                             k56 false) (a43.1, 0, a43.2.2)).bind fun a86 =>
                       some (Stp.next (a86.2, IntKind.wrap .i64 (a43.2.1 + 1), a86.1))
                      else
                       some (Stp.exit (a43.2.2, a43.1))) (false, 0, List.replicate (sizeQ g mark) (false : Bool))) = some (arrQ g mark (thenL g mark P i (a : Int) g.2.2.length 0), fndL g mark P i (a : Int) g.2.2.length 0) := by
  have hs0 := hv.s0
  have hs1 := hv.s1
  refine loop_is (fun j => (fndL g mark P i (a : Int) j 0, (j : Int), arrQ g mark (thenL g mark P i (a : Int) j 0))) g.2.2.length _ (fun j hj => ?_) ?_ (by rw [thenL_zero (P := P) (i := i) (a := (a : Int)), fndL_zero]; rfl)
  · dsimp only
    have hxm : g.2.2[j] ∈ g.2.2 := List.getElem_mem hj
    obtain ⟨e1, e2, e3, e4, e5, e6⟩ := hv.ed _ hxm
    obtain ⟨s, hs⟩ := Int.eq_ofNat_of_zero_le e1
    obtain ⟨t, ht⟩ := Int.eq_ofNat_of_zero_le e3
    rw [if_pos (by omega), ix hj, Option.bind_some]
    by_cases hlab : g.2.2[j].2.1 = (a : Int)
    case neg =>
      refine bindL (loopW_exit (x := (arrQ g mark (thenL g mark P i (a : Int) j 0), fndL g mark P i (a : Int) j 0)) ?_) ?_
      · dsimp only
        simp only [jp]
        rw [if_pos (Int.natCast_nonneg _), decide_eq_false hlab, if_neg Bool.false_ne_true]
      · rw [nx (n := 1024) (by omega) (by have := hv.el; omega), fndL_other hj hlab, arr_congr (thenL_other (P := P) (i := i) hj hlab)]
    refine bindL (loop_is (fun k => (fndL g mark P i (a : Int) j (2 * k), (k : Int), arrQ g mark (thenL g mark P i (a : Int) j (2 * k)))) (mark.length + 1) (arrQ g mark (thenL g mark P i (a : Int) j (2 * (mark.length + 1))), fndL g mark P i (a : Int) j (2 * (mark.length + 1))) (fun k hk => ?_) ?_ rfl) ?_
    · dsimp only
      have hk' : k ≤ mark.length := by omega
      have hfl := foll_le mark k (letters.getD a 0)
      simp only [jp]
      rw [if_pos (by omega), decide_eq_true hlab, if_pos rfl]
      refine bindL (loop_is (fun f => (fndL g mark P i (a : Int) j (2 * k + f), (f : Int), arrQ g mark (thenL g mark P i (a : Int) j (2 * k + f)))) 2 (arrQ g mark (thenL g mark P i (a : Int) j (2 * k + 2)), fndL g mark P i (a : Int) j (2 * k + 2)) (fun f hf => ?_) ?_ rfl) ?_
      · dsimp only
        have hT : IntKind.wrap .i64 ((IntKind.wrap .i64 ((IntKind.wrap .i64 (g.2.2[j].2.2 * (IntKind.wrap .i64 ((mark.length : Int) + 1)))) + ((foll mark k (letters.getD a 0) : Nat) : Int))) * 2) = ((encP mark.length t (foll mark k (letters.getD a 0)) 0 : Nat) : Int) := by
          rw [ht]; exact wP0 (by omega) hm hfl
        have hFr : IntKind.wrap .i64 ((IntKind.wrap .i64 ((IntKind.wrap .i64 (g.2.2[j].1 * (IntKind.wrap .i64 ((mark.length : Int) + 1)))) + (k : Int))) * 2) = ((encP mark.length s k 0 : Nat) : Int) := by
          rw [hs]; exact wP0 (by omega) hm hk'
        have hltF : encP mark.length s k f < sizeQ g mark := by unfold sizeQ; exact enc_lt (by omega) hk' hf
        have hi1 : idx ((List.range (n + 1)).map (canL g mark)) (i : Int) = some (canL g mark i) := ixR (by omega)
        have hr1 : (2 * k + f) / 2 = k := by omega
        have hr2 : (2 * k + f) % 2 = f := by omega
        have htg : tgtQ mark g.2.2[j] (2 * k + f) = encP mark.length t (foll mark k (letters.getD a 0)) (if foll mark k (letters.getD a 0) = mark.length then 1 else f) := by
          unfold tgtQ
          rw [hr1, hr2, hlab, ht, Int.toNat_natCast, Int.toNat_natCast]
        have htr : trQ g mark P i (a : Int) g.2.2[j] (2 * k + f) = (P (encP mark.length s k f) && canQ g mark i (tgtQ mark g.2.2[j] (2 * k + f))) := by
          unfold trQ
          rw [hr1, hr2, decide_eq_true hlab, Bool.true_and, hs, Int.toNat_natCast]
        rw [if_pos (by omega), next_get hk', Option.bind_some, ixR ha, Option.bind_some, hT, hFr]
        rw [wPf (by omega) hm hk' hf, arr_get hltF, Option.bind_some, nx (n := 2) (by omega) hf, hi1]
        have key : ∀ h : Nat, h < 2 → h = (if foll mark k (letters.getD a 0) = mark.length then 1 else f) → (if P (encP mark.length s k f) = true then
            (some (canL g mark i)).bind fun x78 => (idx x78 (IntKind.wrap .i64 (((encP mark.length t (foll mark k (letters.getD a 0)) 0 : Nat) : Int) + (h : Int)))).bind fun x80 =>
              if x80 = true then (idx (arrQ g mark (thenL g mark P i (a : Int) j (2 * k + f))) (IntKind.wrap .i64 (((encP mark.length t (foll mark k (letters.getD a 0)) 0 : Nat) : Int) + (h : Int)))).bind fun x74 => some (Stp.next (X := List Bool × Bool) (true, ((f + 1 : Nat) : Int), (arrQ g mark (thenL g mark P i (a : Int) j (2 * k + f))).set (IntKind.wrap .i64 (((encP mark.length t (foll mark k (letters.getD a 0)) 0 : Nat) : Int) + (h : Int))).toNat true))
              else some (Stp.next (fndL g mark P i (a : Int) j (2 * k + f), ((f + 1 : Nat) : Int), arrQ g mark (thenL g mark P i (a : Int) j (2 * k + f))))
            else if false = true then (idx (arrQ g mark (thenL g mark P i (a : Int) j (2 * k + f))) (IntKind.wrap .i64 (((encP mark.length t (foll mark k (letters.getD a 0)) 0 : Nat) : Int) + (h : Int)))).bind fun x74 => some (Stp.next (X := List Bool × Bool) (true, ((f + 1 : Nat) : Int), (arrQ g mark (thenL g mark P i (a : Int) j (2 * k + f))).set (IntKind.wrap .i64 (((encP mark.length t (foll mark k (letters.getD a 0)) 0 : Nat) : Int) + (h : Int))).toNat true))
              else some (Stp.next (fndL g mark P i (a : Int) j (2 * k + f), ((f + 1 : Nat) : Int), arrQ g mark (thenL g mark P i (a : Int) j (2 * k + f))))) = some (Stp.next (fndL g mark P i (a : Int) j (2 * k + (f + 1)), ((f + 1 : Nat) : Int), arrQ g mark (thenL g mark P i (a : Int) j (2 * k + (f + 1))))) := by
          intro h hh2 hhe
          rw [← hhe] at htg
          have hltT : encP mark.length t (foll mark k (letters.getD a 0)) h < sizeQ g mark := by unfold sizeQ; exact enc_lt (by omega) hfl hh2
          rw [← Nat.add_assoc, fndL_step hj]
          by_cases hP : P (encP mark.length s k f) = true
          · rw [if_pos hP, Option.bind_some, wPf (by omega) hm hfl hh2, canL_get hltT, Option.bind_some, Int.toNat_natCast]
            rw [hP, Bool.true_and, htg] at htr
            by_cases hc : canQ g mark i (encP mark.length t (foll mark k (letters.getD a 0)) h) = true
            · rw [hc] at htr
              rw [if_pos hc, arr_get hltT, Option.bind_some, htr, Bool.or_true, ← htg, then_set hj htr]
            · rw [Bool.eq_false_iff.2 hc] at htr
              rw [if_neg hc, htr, Bool.or_false, then_skip hj htr]
          · rw [Bool.eq_false_iff.2 hP, Bool.false_and] at htr
            rw [if_neg hP, if_neg Bool.false_ne_true, htr, Bool.or_false, then_skip hj htr]
        by_cases hfm : foll mark k (letters.getD a 0) = mark.length
        · rw [if_pos (by rw [hfm])]
          exact key 1 (by omega) (by rw [if_pos hfm])
        · rw [if_neg (by omega)]
          exact key f hf (by rw [if_neg hfm])
      · dsimp only
        rw [if_neg (by decide)]
      · rw [nx (n := 1001) (by omega) (by omega)]
        rfl
    · dsimp only
      simp only [jp]
      rw [if_neg (by omega), if_neg Bool.false_ne_true]
    · rw [nx (n := 1024) (by omega) (by have := hv.el; omega), fndL_next hj, arr_congr (thenL_next (P := P) (i := i) hj)]
  · dsimp only
    rw [if_neg (not_lt_int _)]
theorem bytes_back (l : List UInt8) : (l.map fun c => (c.toNat : Int)).map (fun (n : Int) => UInt8.ofNat n.toNat) = l := by
 rw [List.map_map]
 conv => rhs; rw [← List.map_id l]
 refine List.map_congr_left fun c _ => ?_
 simp
theorem ini_set {n s : Nat} (hs : s < g.2.1.toNat) : (arrQ g mark fun q => (decide (q % (2 * (mark.length + 1)) = 2 * mark.length) && canQ g mark n q) && decide (q / 2 / (mark.length + 1) < s)).set (encP mark.length s mark.length 0) (canQ g mark n (encP mark.length s mark.length 0)) = arrQ g mark fun q => (decide (q % (2 * (mark.length + 1)) = 2 * mark.length) && canQ g mark n q) && decide (q / 2 / (mark.length + 1) < s + 1) := by
 refine map_set fun q _ => ?_
 have hi := enc_inj (m := mark.length) (s := s) (q := q) (k := mark.length) (f := 0) (Nat.le_refl _) (by omega)
 by_cases e : q = encP mark.length s mark.length 0
 ·obtain ⟨h1, h2⟩ := hi.1 e
  rw [if_pos e, h1, h2, decide_eq_true (by omega), Bool.true_and, decide_eq_true (by omega), Bool.and_true, e]
 ·rw [if_neg e]
  by_cases h1 : q % (2 * (mark.length + 1)) = 2 * mark.length
  ·have h2 : q / 2 / (mark.length + 1) ≠ s := fun h => e (hi.2 ⟨h, by omega⟩)
   congr 1
   refine decide_eq_decide.2 ?_
   generalize q / 2 / (mark.length + 1) = z at h2 ⊢
   omega
  ·rw [decide_eq_false h1, Bool.false_and, Bool.false_and, Bool.false_and]
theorem aft_ex (hv : VG g) (h16 : g.1 ≤ 16) {n : Nat} {now : List TStateReadBadLeft} (hne : now ≠ []) (hn : ∀ p ∈ now, canP g.2.2 mark p = true ∧ (0 ≤ p.1 ∧ p.1 < g.2.1) ∧ 0 ≤ p.2.1 ∧ p.2.2.2 = ((n + 1 : Nat) : Int)) :
  ∃ a : Nat, (a : Int) < g.1 ∧ aft (canP g.2.2 mark) (stepF mark) (leav g.2.2) now (a : Int) ≠ [] ∧ ∀ b : Nat, b < a → aft (canP g.2.2 mark) (stepF mark) (leav g.2.2) now (b : Int) = [] := by
 have hn1 : ∀ p ∈ now, (0 ≤ p.1 ∧ p.1 < g.2.1) ∧ 0 ≤ p.2.1 ∧ p.2.2.2 = (n : Int) + 1 := fun p hp => by
  obtain ⟨_, h2, h3, h4⟩ := hn p hp
  exact ⟨h2, h3, by omega⟩
 obtain ⟨a, _, ha2, ha3, ha4, ha5⟩ := firstA_some (f := canP g.2.2 mark) (stp := stepF mark) (lv := leav g.2.2) (now := now) g.1.toNat 0 (by
  obtain ⟨p, hp⟩ := List.exists_mem_of_ne_nil _ hne
  obtain ⟨h1, ⟨p0, p1⟩, p2, p3⟩ := hn p hp
  unfold canP at h1
  rw [p3, show ((n + 1 : Nat) : Int).toNat = n + 1 by omega] at h1
  obtain ⟨u, hu, hul, hc, hb⟩ := (canF_iff hv h16 _ _ p0 p1).1 h1
  cases u with
  | nil => simp at hu
  | cons c u =>
   have hcl := hul c (List.mem_cons_self ..)
   have hgc : goes g mark now (c :: u) := ⟨hul, p, hp, hc, hb⟩
   obtain ⟨_, q, hq, _⟩ := (goes_cons hv h16 hn1 hcl (by simpa using hu)).1 hgc
   obtain ⟨l1, l2, l3⟩ := lets_lab hv h16 hcl
   refine ⟨(lab c).toNat, Nat.zero_le _, by omega, fun e => ?_⟩
   rw [show (((lab c).toNat : Nat) : Int) = lab c by omega] at e
   rw [e] at hq
   cases hq)
 exact ⟨a, by omega, ha3, fun b hb => ha5 b (Nat.zero_le _) hb⟩
theorem main_loop {body : (List Bool × Int × List Int) → Option (Stp (List Bool × Int × List Int) (List Int))} {n : Nat}
  (hstep : ∀ (d : Nat) (P : Nat → Bool) (nl : List TStateReadBadLeft) (out : List Int), d < n → out.length + (d + 1) ≤ 4096 → nl ≠ [] → StandQ g mark P nl (d + 1) → ∃ (c : UInt8) (P' : Nat → Bool) (nl' : List TStateReadBadLeft), body (arrQ g mark P, (d : Int), out) = some (.next (arrQ g mark P', (d : Int) - 1, out ++ [(c.toNat : Int)])) ∧ nl' ≠ [] ∧ StandQ g mark P' nl' d ∧ growF (canP g.2.2 mark) (stepF mark) (leav g.2.2) g.1 (d + 1) nl = c :: growF (canP g.2.2 mark) (stepF mark) (leav g.2.2) g.1 d nl')
  (hend : ∀ (P : Nat → Bool) (out : List Int), body (arrQ g mark P, -1, out) = some (.exit out)) :
  ∀ (d : Nat) (P : Nat → Bool) (nl : List TStateReadBadLeft) (out : List Int), d ≤ n → out.length + d ≤ 4096 → nl ≠ [] → StandQ g mark P nl d → ∀ {i : Int}, i = (d : Int) - 1 → loopW body (arrQ g mark P, i, out) = some (out ++ (growF (canP g.2.2 mark) (stepF mark) (leav g.2.2) g.1 d nl).map fun c => (c.toNat : Int))
 | 0, P, nl, out, _, _, _, _, i, hi => by
  have : i = -1 := by omega
  subst this
  rw [loopW_exit (hend P out)]
  unfold growF
  simp
 | d + 1, P, nl, out, hd, ho, hne, hst, i, hi => by
  have : i = (d : Int) := by omega
  subst this
  obtain ⟨c, P', nl', h1, h2, h3, h4⟩ := hstep d P nl out (by omega) (by omega) hne hst
  rw [loopW_next h1, main_loop hstep hend d P' nl' _ (by omega) (by rw [List.length_append, List.length_singleton]; omega) h2 h3 rfl, h4, List.map_cons, List.append_assoc]
  rfl
theorem RefBad_eq (h : MOk54 g mark) {n : Nat} (hn : n ≤ 4096) : m_ref54_Bad g mark (n : Int) = some ((badsW g mark n).headD [], decide (badsW g mark n ≠ []), 0) := by
 obtain ⟨e, he, hz⟩ := check54_tot g mark
 obtain ⟨hv, h16, hm1, hm2, hm3⟩ := h
 have hl0 := hv.l1
 have hs0 := hv.s0
 have hs1 := hv.s1
 obtain ⟨S, hS⟩ := Int.eq_ofNat_of_zero_le hs0
 obtain ⟨L, hL⟩ := Int.eq_ofNat_of_zero_le (show 0 ≤ g.1 by omega)
 have hSz : sizeQ g mark = S * (mark.length + 1) * 2 := by unfold sizeQ; rw [hS, Int.toNat_natCast]
 have hSb : S * (mark.length + 1) ≤ 64 * (mark.length + 1) := Nat.mul_le_mul_right _ (by omega)
 have hsz : ((sizeQ g mark : Nat) : Int) ≤ 200000 := by omega
 have hmx := big_max
 have hbad := badF_eq (mark := mark) hv h16 n
 unfold m_ref54_Bad
 rw [rcheck54, he, Option.bind_some, if_neg (by rw [hz.2 ⟨hv, h16, hm1, hm2, hm3⟩]; decide)]
 unfold jp
 dsimp only
 rw [if_neg (by omega), if_neg (by rw [decide_eq_true_eq]; omega), can54_eq hv h16 hm1 (by omega) hn, hL, tables54_eq hm1 (by omega) (by omega), Option.bind_some, Option.bind_some, hS, wS (by omega) (by omega), ← hSz]
 rw [if_pos ⟨by omega, Int.le_refl _, by omega⟩]
 refine bindL (loop_is (fun s => ((List.range s).any (fun s => canQ g mark n (encP mark.length s mark.length 0)), (s : Int), arrQ g mark fun q => (decide (q % (2 * (mark.length + 1)) = 2 * mark.length) && canQ g mark n q) && decide (q / 2 / (mark.length + 1) < s))) S (arrQ g mark (fun q => decide (q % (2 * (mark.length + 1)) = 2 * mark.length) && canQ g mark n q), decide (badsW g mark n ≠ [])) (fun s hs => ?_) ?_ ?_) ?_
 ·dsimp only
  have hlt : encP mark.length s mark.length 0 < sizeQ g mark := by rw [hSz]; exact enc_lt hs (Nat.le_refl _) (by omega)
  have hset := ini_set (g := g) (mark := mark) (n := n) (s := s) (by omega)
  rw [if_pos (by omega), ixR (by omega), Option.bind_some, wP0 (by omega) (by omega) (Nat.le_refl _), canL_get hlt, Option.bind_some, arr_get hlt, Option.bind_some, Int.toNat_natCast, hset, nx (n := S) (by omega) hs, arr_get hlt, any_succ]
  by_cases hb : (List.range s).any (fun s => canQ g mark n (encP mark.length s mark.length 0)) = true
  ·rw [if_pos hb, hb, Bool.true_or]
  ·rw [if_neg hb, Option.bind_some, Option.bind_some, Bool.eq_false_iff.2 hb, Bool.false_or]
   have hi := (enc_inj (m := mark.length) (s := s) (q := encP mark.length s mark.length 0) (k := mark.length) (f := 0) (Nat.le_refl _) (by omega)).1 rfl
   rw [hi.1, hi.2, decide_eq_true (by omega), Bool.true_and, decide_eq_true (by omega), Bool.and_true]
 ·dsimp only
  rw [if_neg (not_lt_int _)]
  have h1 := start_any (mark := mark) hv h16 n
  rw [hS, Int.toNat_natCast] at h1
  rw [h1]
  congr 2
  congr 1
  unfold arrQ
  refine List.map_congr_left fun q hq => ?_
  rw [List.mem_range, hSz] at hq
  rw [decide_eq_true (p := q / 2 / (mark.length + 1) < S) (by rw [Nat.div_lt_iff_lt_mul (by omega)]; omega), Bool.and_true]
 ·refine congrArg (fun l => (false, (0 : Int), l)) ?_
  rw [Int.toNat_natCast]
  refine List.ext_getElem (by simp [arrQ]) fun j h1 h2 => ?_
  simp [arrQ]
 dsimp only
 by_cases hb : badsW g mark n = []
 ·rw [if_pos (by rw [decide_eq_false (fun h => h hb)]; rfl), hb]
  rfl
 have hd : decide (badsW g mark n ≠ []) = true := decide_eq_true hb
 rw [if_neg (by rw [hd]; decide), hd]
 have hsne : startF g mark n ≠ [] := by
  intro hs
  unfold badF at hbad
  rw [if_pos hs] at hbad
  have := congrArg Prod.snd hbad
  rw [hd] at this
  cases this
 have hgrow : (badsW g mark n).headD [] = growF (canP g.2.2 mark) (stepF mark) (leav g.2.2) g.1 n (startF g mark n) := by
  unfold badF at hbad
  rw [if_neg hsne, Int.toNat_natCast] at hbad
  exact (congrArg Prod.fst hbad).symm
 rw [hgrow]
 have hst := stand_start (mark := mark) hv n
 generalize (fun q => decide (q % (2 * (mark.length + 1)) = 2 * mark.length) && canQ g mark n q) = P at hst ⊢
 generalize startF g mark n = nl at hst hsne ⊢
 have hne' := hsne
 refine bindL (x := (growF (canP g.2.2 mark) (stepF mark) (leav g.2.2) g.1 n nl).map fun c => (c.toNat : Int)) ?_ ?_
 ·refine main_loop (n := n) (fun d P nl out hdn ho hne hst => ?_) (fun P out => ?_) n P nl [] (Nat.le_refl _) (by rw [List.length_nil]; omega) hne' hst (by rw [w64 (by omega) (by omega)])
  ·dsimp only
   obtain ⟨a, ha1, ha2, ha3⟩ := aft_ex hv h16 hne fun p hp => ⟨(hst.2 p hp).2.2.2, (hst.2 p hp).1, (hst.2 p hp).2.1.1, (hst.2 p hp).2.2.1⟩
   have haL : a < L := by omega
   obtain ⟨m1, m2⟩ := letB_mem hv h16 (Int.natCast_nonneg a) ha1
   refine ⟨letB (a : Int), thenL g mark P d (a : Int) g.2.2.length 0, _, ?_, ha2, stand_next hv hst (a : Int), growF_some (by omega) ha2 ha3⟩
   rw [if_pos (Int.natCast_nonneg _)]
   refine bindL (loop_is (fun b => (b : Int)) a (arrQ g mark (thenL g mark P d (a : Int) g.2.2.length 0), out ++ [((letB (a : Int)).toNat : Int)]) (fun b hb => ?_) ?_ rfl) ?_
   ·have hbL : b < L := by omega
    have hf : fndL g mark P d (b : Int) g.2.2.length 0 = false := Bool.eq_false_iff.2 fun h => (stand_found hv hst (b : Int)).1 h (ha3 b hb)
    rw [if_pos (by omega), arr_len, if_pos ⟨by omega, Int.le_refl _, by omega⟩, Int.toNat_natCast]
    refine bindL (triple_eq (mark := mark) (n := n) (i := d) hv h16 (by omega) (by omega) hbL hL P) ?_
    dsimp only
    rw [hf, if_neg Bool.false_ne_true, nx (n := L) (by omega) hbL]
   ·have hf : fndL g mark P d (a : Int) g.2.2.length 0 = true := (stand_found hv hst (a : Int)).2 ha2
    have hal : a < letters.length := by rw [letters_len]; omega
    rw [if_pos (by omega), arr_len, if_pos ⟨by omega, Int.le_refl _, by omega⟩, Int.toNat_natCast]
    refine bindL (triple_eq (mark := mark) (n := n) (i := d) hv h16 (by omega) (by omega) haL hL P) ?_
    dsimp only
    rw [hf, if_pos rfl]
    refine bindL (x := letB (a : Int)) ?_ ?_
    ·have e : letB (a : Int) = letters[a] := by unfold letB; rw [Int.toNat_natCast, List.getD_eq_getElem?_getD, List.getElem?_eq_getElem hal]; rfl
     rw [e]
     exact ix (l := letters) hal
    ·rw [if_pos ⟨by simp; omega, by simp; omega⟩]
   ·dsimp only
    rw [w64 (by omega) (by omega)]
  ·dsimp only
   rw [if_neg (by decide)]
 ·rw [bytes_back]
end
end Go.AW
namespace Go.AW
open Go
set_option linter.unusedVariables false
set_option linter.unusedSimpArgs false
section
variable {g : Gr} {mark : List UInt8}
theorem neg_check {e : Int} (h : m_syncmark_check g mark = some e) (h0 : e ≠ 0) (n : Int) : m_syncmark_Valid g mark n = some (false, e) ∧ m_syncmark_Bad g mark n = some ([], false, e) ∧ m_ref54_Valid g mark n = some (false, e) ∧ m_ref54_Bad g mark n = some ([], false, e) ∧ m_syncmark_Free g mark = some (false, e) ∧ m_ref54_Free g mark = some (false, e) := by
 have hr := rcheck54 g mark
 refine ⟨?_, ?_, ?_, ?_, ?_, ?_⟩
 ·unfold m_syncmark_Valid m_syncmark_checkNumber
  rw [h, Option.bind_some, if_pos h0, Option.bind_some, if_pos h0]
 ·unfold m_syncmark_Bad m_syncmark_checkNumber
  rw [h, Option.bind_some, if_pos h0, Option.bind_some, if_pos h0]
 ·unfold m_ref54_Valid
  rw [hr, h, Option.bind_some, if_pos h0]
 ·unfold m_ref54_Bad
  rw [hr, h, Option.bind_some, if_pos h0]
 ·unfold m_syncmark_Free
  rw [h, Option.bind_some, if_pos h0]
 ·unfold m_ref54_Free
  rw [hr, h, Option.bind_some, if_pos h0]
theorem neg_num (h : MOk54 g mark) {n : Int} (hn : n < 0 ∨ 4096 < n) : m_syncmark_Valid g mark n = some (false, 2) ∧ m_syncmark_Bad g mark n = some ([], false, 2) ∧ m_ref54_Valid g mark n = some (false, 2) ∧ m_ref54_Bad g mark n = some ([], false, 2) := by
 obtain ⟨e, he, _, _, h2⟩ := checkNumber54_tot g mark n
 obtain ⟨f, hf, hz⟩ := check54_tot g mark
 have h2 := h2 h
 rw [if_pos hn] at h2
 subst h2
 have hz := hz.2 h
 subst hz
 have hr := rcheck54 g mark
 refine ⟨?_, ?_, ?_, ?_⟩
 ·unfold m_syncmark_Valid
  rw [he, Option.bind_some, if_pos (by decide)]
 ·unfold m_syncmark_Bad
  rw [he, Option.bind_some, if_pos (by decide)]
 ·unfold m_ref54_Valid jp
  dsimp only
  rw [hr, hf, Option.bind_some, if_neg (by decide)]
  by_cases h1 : n < 0
  ·rw [if_pos h1, if_pos rfl]
  ·rw [if_neg h1, if_pos (decide_eq_true (by omega))]
 ·unfold m_ref54_Bad jp
  dsimp only
  rw [hr, hf, Option.bind_some, if_neg (by decide)]
  by_cases h1 : n < 0
  ·rw [if_pos h1, if_pos rfl]
  ·rw [if_neg h1, if_pos (decide_eq_true (by omega))]
theorem both54 (g : Gr) (mark : List UInt8) (n : Int) : ∃ a b c, m_syncmark_Valid g mark n = some a ∧ m_ref54_Valid g mark n = some a ∧ m_syncmark_Bad g mark n = some b ∧ m_ref54_Bad g mark n = some b ∧ m_syncmark_Free g mark = some c ∧ m_ref54_Free g mark = some c := by
 obtain ⟨e, he, hz⟩ := check54_tot g mark
 by_cases h0 : e = 0
 case neg =>
  obtain ⟨h1, h2, h3, h4, h5, h6⟩ := neg_check he h0 n
  exact ⟨_, _, _, h1, h3, h2, h4, h5, h6⟩
 have hM := hz.1 h0
 have hF : m_ref54_Free g mark = some (!accB g mark, 0) := by
  obtain ⟨r, hr1, hr2⟩ := Accepts_both g mark
  rw [Accepts_eq hM.1 hM.2.1 (w := mark) ⟨by have := hM.2.2.2.1; omega, hM.2.2.2.2⟩] at hr1
  cases Option.some.inj hr1
  unfold m_ref54_Free
  rw [rcheck54, he, Option.bind_some, if_neg (by omega), hr2, Option.bind_some]
  rfl
 by_cases hn : n < 0 ∨ 4096 < n
 ·obtain ⟨h1, h2, h3, h4⟩ := neg_num hM hn
  exact ⟨_, _, _, h1, h3, h2, h4, Free_eq hM, hF⟩
 ·obtain ⟨k, rfl⟩ := Int.eq_ofNat_of_zero_le (show 0 ≤ n by omega)
  exact ⟨_, _, _, Valid_eq hM (by omega), RefValid_eq hM (by omega), Bad_eq hM (by omega), RefBad_eq hM (by omega), Free_eq hM, hF⟩
theorem RefFind_eq {w u : List UInt8} (hw : w.length ≤ 1000) (hu : u.length ≤ 1000) : m_ref07_Find w u = some (occL w u) := by
 unfold m_ref07_Find
 have hmx := big_max
 by_cases hlen : u.length ≤ w.length
 ·refine bindL (loop_is (fun i => ((i : Int), occB w u i)) (w.length + 1 - u.length) (occL w u) (fun i hi => ?_) ?_ rfl) rfl
  ·dsimp only
   have hw1 : IntKind.wrap .i64 ((i : Int) + (u.length : Int)) = ((i + u.length : Nat) : Int) := by rw [w64 (by omega) (by omega)]; omega
   rw [hw1, if_pos (by omega)]
   unfold jp
   dsimp only
   rw [if_pos ⟨by omega, by omega, by omega⟩, Int.toNat_natCast, Int.toNat_natCast, nx (n := 1001) (by omega) (by omega)]
   have hp : (w.take (i + u.length)).drop i = u ↔ u.isPrefixOf (w.drop i) = true := by
    rw [List.isPrefixOf_iff_prefix, List.prefix_iff_eq_take, List.take_drop]
    exact eq_comm
   have hs : occB w u (i + 1) = occB w u i ++ if u.isPrefixOf (w.drop i) = true then [(i : Int)] else [] := by
    unfold occB
    rw [List.range_succ, List.filter_append, List.map_append]
    congr 1
    rw [List.filter_cons]
    split <;> rfl
   have hb : (occB w u i).length ≤ i := by
    unfold occB
    rw [List.length_map]
    have := List.length_filter_le (fun i => u.isPrefixOf (w.drop i)) (List.range i)
    rw [List.length_range] at this
    exact this
   rw [hs]
   by_cases h : (w.take (i + u.length)).drop i = u
   ·rw [if_pos h, if_pos (hp.1 h), if_pos ⟨by simp; omega, by simp; omega⟩]
   ·rw [if_neg h, if_neg (fun h' => h (hp.2 h')), List.append_nil]
  ·dsimp only
   have hw1 : IntKind.wrap .i64 (((w.length + 1 - u.length : Nat) : Int) + (u.length : Int)) = ((w.length + 1 : Nat) : Int) := by rw [w64 (by omega) (by omega)]; omega
   rw [hw1, if_neg (by omega)]
   refine congrArg some (congrArg Stp.exit ?_)
   refine (occ_none (by omega) fun i h1 h2 => ?_).symm
   cases hx : u.isPrefixOf (w.drop i) with
   | false => rfl
   | true =>
    have := prefix_len hx
    rw [List.length_drop] at this
    omega
 ·refine bindL (loopW_exit (x := []) ?_) ?_
  ·dsimp only
   rw [w64 (by omega) (by omega), if_neg (by omega)]
  ·refine congrArg some ?_
   refine (occ_none (a := 0) (b := w.length + 1) (Nat.zero_le _) fun i h1 h2 => ?_).symm
   cases hx : u.isPrefixOf (w.drop i) with
   | false => rfl
   | true =>
    have := prefix_len hx
    rw [List.length_drop] at this
    omega
theorem RefOverlaps_eq {mark : List UInt8} (hm : mark.length ≤ 1000) : m_ref54_Overlaps mark = some (ovL mark) := by
 have hmx := big_max
 unfold m_ref54_Overlaps
 refine bindL (loop_is (fun i => (((i + 1 : Nat) : Int), ovB mark (i + 1))) (mark.length - 1) (ovL mark) (fun i hi => ?_) ?_ rfl) rfl
 ·dsimp only
  rw [if_pos (by omega)]
  unfold jp
  dsimp only
  have hw1 : IntKind.wrap .i64 ((mark.length : Int) - ((i + 1 : Nat) : Int)) = ((mark.length - (i + 1) : Nat) : Int) := by rw [w64 (by omega) (by omega)]; omega
  rw [hw1, if_pos ⟨Int.le_refl _, by omega, by omega⟩, if_pos ⟨by omega, by omega, Int.le_refl _⟩, Int.toNat_natCast, Int.toNat_natCast, Int.toNat_natCast, List.take_length, nx (n := 1001) (by omega) (by omega), ovB_succ mark (k := i + 1) (by omega)]
  have hb := ovB_len mark (i + 1)
  have hs := suf_dec (mark := mark) (w := mark) (j := i + 1) (by omega)
  rw [decide_eq_true (by omega), Bool.true_and] at hs
  rw [show ((mark.take (i + 1)).drop (0 : Int).toNat) = mark.take (i + 1) from rfl]
  by_cases h : mark.take (i + 1) = mark.drop (mark.length - (i + 1))
  ·have hR : (mark.take (i + 1)).isSuffixOf mark = true := by rw [hs]; exact decide_eq_true h.symm
   rw [if_pos h, if_pos hR, if_pos ⟨by simp; omega, by simp; omega⟩]
  ·have hR : ¬ (mark.take (i + 1)).isSuffixOf mark = true := by rw [hs, decide_eq_true_eq]; exact fun h' => h h'.symm
   rw [if_neg h, if_neg hR, List.append_nil]
 ·dsimp only
  rw [if_neg (by omega)]
  rfl
end
theorem long54 (mark : List UInt8) : ∃ b, m_law54_long mark = some b ∧ (b = false → mark.length ≤ 35) := by
 unfold m_law54_long
 simp only [jp]
 by_cases h1 : 6 < (mark.length : Int)
 ·rw [if_pos h1]
  by_cases h2 : (mark.length : Int) ≤ 32
  ·rw [if_pos h2]; exact ⟨true, rfl, by simp⟩
  ·rw [if_neg h2]
   exact ⟨_, rfl, fun h => by have := of_decide_eq_false h; omega⟩
 ·rw [if_neg h1]
  exact ⟨_, rfl, fun h => by have := of_decide_eq_false h; omega⟩
theorem law54_checks (g : Gr) (mark : List UInt8) (n : Int) (w : List UInt8) : m_law54_SyncmarkChecks g mark n w = some true := by
  obtain ⟨b, hb, _⟩ := great54_tot g
  obtain ⟨c, hc, hc2⟩ := long54 mark
  unfold m_law54_SyncmarkChecks jp
  dsimp only
  rw [hb, Option.bind_some]
  by_cases h1 : b = true
  · rw [if_pos h1, if_pos rfl]; rfl
  rw [if_neg h1, hc, Option.bind_some]
  by_cases h2 : c = true
  · rw [if_pos h2, if_pos rfl]; rfl
  rw [if_neg h2]
  have hm := hc2 (Bool.eq_false_iff.2 h2)
  have key : ∀ x : Bool, x = decide (40 < (w.length : Int)) → (if x = true then (m_law54_awake).bind fun x4 => some x4 else
    (m_syncmark_Valid g mark n).bind fun x6 => (m_ref54_Valid g mark n).bind fun x8 => (m_syncmark_Bad g mark n).bind fun x10 => (m_ref54_Bad g mark n).bind fun x12 => (m_syncmark_Free g mark).bind fun x14 => (m_ref54_Free g mark).bind fun x16 =>
     if (x6.1 == x8.1) = true then
      if x6.2 = x8.2 then
       if x10.1 = x12.1 then
        if (x10.2.1 == x12.2.1) = true then
         if x10.2.2 = x12.2.2 then
          if (x14.1 == x16.1) = true then
           if x14.2 = x16.2 then
            (m_syncmark_Occurs mark w).bind fun x21 =>
            (m_ref54_Occurs mark w).bind fun x23 =>
            (m_slices_Equal_Lint_int x21 x23).bind fun x25 =>
            if x25 = true then
             (m_syncmark_Overlaps mark).bind fun x27 =>
             (m_ref54_Overlaps mark).bind fun x29 =>
             (m_slices_Equal_Lint_int x27 x29).bind fun x31 =>
             if x31 = true then
              (m_law54_awake).bind fun x33 => some x33
             else some false
            else some false
           else some false
          else some false
         else some false
        else some false
       else some false
      else some false
     else some false) = some true := by
    intro x hx
    subst hx
    by_cases h3 : 40 < (w.length : Int)
    · rw [if_pos (decide_eq_true h3)]; rfl
    rw [if_neg (by rw [decide_eq_true_eq]; exact h3)]
    obtain ⟨p, q, r, e1, e2, e3, e4, e5, e6⟩ := both54 g mark n
    rw [e1, e2, e3, e4, e5, e6]
    simp only [Option.bind_some, beq_self_eq_true, if_true]
    have hw : w.length ≤ 40 := by omega
    have hol := occL_len w mark
    have hov := ovL_len mark
    rw [Occurs_eq (by omega) (by omega), Option.bind_some]
    unfold m_ref54_Occurs
    rw [RefFind_eq (by omega) (by omega), Option.bind_some, Option.bind_some, EqI_eq (by omega), Option.bind_some, if_pos (decide_eq_true rfl), Overlaps_eq (by omega), Option.bind_some, RefOverlaps_eq (by omega), Option.bind_some, EqI_eq (by omega), Option.bind_some, if_pos (decide_eq_true rfl)]
    rfl
  by_cases h4 : 8 < n
  · rw [if_pos h4]
    by_cases h5 : n ≤ 4096
    · rw [if_pos h5, if_pos rfl]; rfl
    · rw [if_neg h5]; exact key _ rfl
  · rw [if_neg h4]; exact key _ rfl
end Go.AW
namespace Go.AW
open Go Go.ChangeShapes Go.WideShapes Go.ChangeAt Go.RowKit
def Kept (W W' : World) : Prop := W'.os = W.os ∧ W'.output = W.output ∧ W.heap.size ≤ W'.heap.size ∧ ∀ b : Nat, b < W.heap.size → W'.heap[b]? = W.heap[b]?
theorem Kept.frame {W W' : World} (h : Kept W W') (may : MemPlace → Prop) : W.keptBut W' may := by
 refine ⟨h.1, h.2.1, fun i hi => ?_⟩
 rw [h.2.2.2 i hi]
 cases W.heap[i]? with
 | none => rfl
 | some o => cases o with
  | cells c t fr => exact ⟨rfl, rfl, rfl, fun _ _ => rfl⟩
  | map es clock => exact .inr ⟨rfl, rfl⟩
  | _ => rfl
theorem Kept.frozen {W W' : World} (h : Kept W W') (a : Addr) (ha : a.block < W.heap.size) : W'.frozen? a = W.frozen? a := by
 simp only [World.frozen?, h.2.2.2 _ ha]
def Mu.zero : Mu := { nx := 0, loc := fun _ => none, held := fun _ => False }
theorem SR.zero (W : World) : SR W Mu.zero [] :=
 ⟨(fun _ _ _ h => by cases h), (fun _ _ _ h => by cases h), (fun _ _ h => by cases h), (fun _ _ _ _ _ h => by cases h), (fun _ h => h.elim)⟩
theorem calls_of_pure {P : Program} {f : FuncId} {args : List HV} {vs : List Value} {W : World} (hp : Pure P f args (· = .bool true)) (hr : RepL W Mu.zero args vs) (hgl : GlOk W Mu.zero := by exact fun _ h => by cases h) :
  Calls P f vs.toArray W fun e W' => e = .returned (.bool true) ∧ Kept W W' := by
 refine (hp.2 Mu.zero W vs (SR.zero W) hr hgl).mono ?_
 rintro e W' ⟨v, r, H', μ', rfl, ⟨rfl, _, _⟩, hs, hv, E⟩
 have hv' : v = .bool true := hv
 subst hv'
 exact ⟨rfl, E.os, E.output, E.size, fun b hb => E.keep b hb fun ⟨_, _, hl⟩ => by cases hl⟩
theorem rep_string {W : World} {μ : Mu} (s : ByteArray) (h : s.size ≤ maxLen) : Rep W μ (.str s.data.toList) (.string s) := by
 refine ⟨by cases s; simp, ?_⟩
 have : s.data.toList.length = s.size := by simp
 omega
theorem post_of_kept {H : Type} {enc : TypeId × Value → H} {P : Program} {f : Func} {s : ChangeSpec} {apart fresh handsOn again : Bool} {W W' : World} {args : Array Value} {v : Value} {ds gs : List (DataW H)} {before pa pv : List MemPlace}
  (hW : DataW.Whole enc P f.params.toList s.vars apart W args.toList ds gs before)
  (hres : ∀ (b : Nat) (sp : Nat → Bool) (hd : Bool), DataW.TrodAll enc P W' b sp hd f.resultTypes.toList (v.resultList f.resultTypes.size) (s.fn H (ds ++ gs)).results [])
  (hargs : ∀ sp : Nat → Bool, (∀ p ∈ before, sp p.block = true) → DataW.TrodAll enc P W' 0 sp true f.params.toList args.toList (s.fn H (ds ++ gs)).args pa)
  (hvars : ∀ sp : Nat → Bool, (∀ p ∈ before, sp p.block = true) → DataW.TrodVars enc P W' sp s.vars (s.fn H (ds ++ gs)).vars pv)
  (hps : before = pa ++ pv) (hk : Kept W W')
  (hok : ∀ (j : Nat) (t : TypeId) (r : Value), f.resultTypes[j]? = some t → (v.resultList f.resultTypes.size)[j]? = some r → Value.okWide P W' .any 0 t r) :
  s.post enc P f apart fresh handsOn again W args v W' := by
 have hold : ∀ p ∈ before, (fun b => decide (b < W.heap.size)) p.block = true := fun p hp => by simpa using hW.lt p hp
 refine ⟨ds, gs, before, [], pa, pv, hW, hres _ _ _, hargs _ hold, hvars _ hold, World.keptBut_mono (fun p hp => ⟨hp, ?_⟩) (hk.frame (· ∈ before)), fun _ => ?_⟩
 ·rw [hps, List.mem_append] at hp
  exact Or.inr hp
 ·have hlt := hW.lt
  obtain ⟨_, _, _, _, _, hz, hn⟩ := hW
  refine ⟨hok, _, _, ([] ++ pa) ++ pv, ⟨[] ++ pa, pv, trodAll_append (hargs _ (fun _ _ => rfl)) (hres _ _ _), hvars _ (fun _ _ => rfl), rfl, ?_, ?_⟩, ?_⟩
  ·intro b off hp
   have hp' : MemPlace.cell b off ∈ before := by rw [hps]; simpa using hp
   rw [hk.frozen _ (hlt _ hp')]
   exact hz b off hp'
  ·intro ha
   have := hn ha
   rw [hps] at this
   simpa using this
  ·intro p hp _
   rw [hps]
   simpa using hp
theorem rowAt_le {p : Program} {fits : TypeId → Bool} {d : Nat} {e : TypeId} {count off n : Nat} (h : rowAt p fits d e count off n = true) : off ≤ count * p.cellsOf e := by
 cases d with
 | zero => simp [rowAt] at h
 | succ d =>
  unfold rowAt at h
  simp only at h
  split at h
  ·cases h
  ·rename_i hs
   have hs' : 0 < p.cellsOf e := Nat.pos_of_ne_zero hs
   have hd := Nat.div_add_mod off (p.cellsOf e)
   rw [Nat.mul_comm] at hd
   simp only [Bool.or_eq_true, Bool.and_eq_true, beq_iff_eq, decide_eq_true_eq] at h
   rcases h with ⟨⟨h0, h1⟩, _⟩ | ⟨h1, _⟩
   ·rw [← hd, h0, Nat.add_zero]
    exact Nat.mul_le_mul_right _ (by omega)
   ·have hm := Nat.mod_lt off hs'
    have : (off / p.cellsOf e + 1) * p.cellsOf e ≤ count * p.cellsOf e := Nat.mul_le_mul_right _ h1
    rw [Nat.add_mul] at this
    omega
theorem liesAt_le {p : Program} {d : Nat} {e u : TypeId} {count off n : Nat} (h : liesAt p d e count off u n = true) : off ≤ count * p.cellsOf e := by
 induction d generalizing u n with
 | zero => simp [liesAt] at h
 | succ d ih =>
  unfold liesAt at h
  rw [Bool.or_eq_true] at h
  rcases h with h | h
  ·exact rowAt_le h
  ·split at h
   ·exact ih h
   ·cases h
theorem has_seg {P : Program} {W : World} {r : Reach} {base : Nat} {a : Addr} {e : TypeId} {cap : Nat} (h : W.has P r base a e cap) {vs : List Value} (hc : ∀ i (hi : i < vs.length), W.cell? (a.add i) = some vs[i]) :
  ∃ b off, a = ⟨b, off, none⟩ ∧ Seg W b off vs := by
 obtain ⟨_, hsp, row, cells, hsh, hl⟩ := h
 obtain ⟨b, off, spot⟩ := a
 dsimp only at hsp hsh hl
 subst hsp
 refine ⟨b, off, rfl, ?_⟩
 unfold World.shape? at hsh
 split at hsh
 ·rename_i cur e' fr hb
  simp only [Option.some.injEq, Prod.mk.injEq] at hsh
  obtain ⟨rfl, rfl⟩ := hsh
  have hoff : off ≤ cur.size := Nat.le_trans (liesAt_le hl) (Nat.div_mul_le_self _ _)
  have hget : ∀ i (hi : i < vs.length), cur.toList[off + i]? = some vs[i] := fun i hi => by
   have := hc i hi
   rw [add_plain] at this
   unfold World.cell? at this
   rw [hb] at this
   simpa using this
  refine ⟨cur, e', fr, cur.toList.take off, cur.toList.drop (off + vs.length), hb, ?_, by simp [hoff]⟩
  have hvs : vs = (cur.toList.drop off).take vs.length := by
   apply List.ext_getElem?
   intro i
   rcases Nat.lt_or_ge i vs.length with hi | hi
   ·rw [List.getElem?_take_of_lt hi, List.getElem?_drop, hget i hi, List.getElem?_eq_getElem hi]
   ·rw [List.getElem?_eq_none hi, List.getElem?_eq_none (by simp; omega)]
  have : vs ++ cur.toList.drop (off + vs.length) = cur.toList.drop off := by
   conv => lhs; arg 1; rw [hvs]
   rw [← List.drop_drop]
   exact List.take_append_drop _ _
  rw [List.append_assoc, this, List.take_append_drop]
 ·cases hsh
theorem nown (b : Nat) : ¬ Mu.zero.owns b := fun h => h.elim (fun ⟨_, _, h⟩ => by cases h) id
theorem open_num {H : Type} {enc : TypeId × Value → H} {P : Program} {W : World} {base : Nat} {t : TypeId} {k : IntKind} {v : Value} {d : DataW H} {ps : List MemPlace} (ht : P.underlying t = some (.int k))
  (hval : Value.okWide P W .any base t v) (h : DataW.Trod enc P W 0 (fun _ => true) true t v d ps) : ∃ n : Int, (Lit.int k n).wf = true ∧ Rep W Mu.zero (.int k n) v := by
 obtain ⟨n, rfl, _, _, hw⟩ := open_int ht hval h
 exact ⟨n, hw, rfl, hw⟩
theorem trodAll_stays {H : Type} {enc : TypeId × Value → H} {P : Program} (hl : laidOutB P = true) {W W' : World} {sp : Nat → Bool} : ∀ {ts : List TypeId} {vs : List Value} {ds : List (DataW H)} {ps : List MemPlace},
  (ts.all fun t => P.readableRec t && decide (t < P.types.size)) = true → DataW.TrodAll enc P W 0 (fun _ => true) true ts vs ds ps → (∀ p ∈ ps, W.sameAt W' p) → (∀ p ∈ ps, sp p.block = true) → DataW.TrodAll enc P W' 0 sp true ts vs ds ps
 | [], vs, ds, ps, _, h, _, _ => by
  obtain ⟨rfl, rfl, rfl⟩ := trodAll_nil h
  exact trodAll_mk0
 | t :: ts, vs, ds, ps, ht, h, h1, h2 => by
  obtain ⟨v, vs', d, ds', p, q, rfl, rfl, rfl, h3, h4⟩ := trodAll_cons h
  simp only [List.all_cons, Bool.and_eq_true, decide_eq_true_eq] at ht
  exact trodAll_cons_mk (WideElems.Trod_stays hl ht.1.1 ht.1.2 h3 (fun x hx => h1 x (List.mem_append_left _ hx)) (fun x hx => h2 x (List.mem_append_left _ hx)))
   (trodAll_stays hl ht.2 h4 (fun x hx => h1 x (List.mem_append_right _ hx)) (fun x hx => h2 x (List.mem_append_right _ hx)))
theorem Kept.same {W W' : World} (h : Kept W W') (p : MemPlace) (hp : p.block < W.heap.size) : W.sameAt W' p := by
 cases p with
 | cell b off =>
  show W'.cell? ⟨b, off, none⟩ = W.cell? ⟨b, off, none⟩
  unfold World.cell?
  rw [h.2.2.2 b hp]
 | map b => exact h.2.2.2 b hp
theorem post_of_true {H : Type} {enc : TypeId × Value → H} {P : Program} {f : Func} {s : ChangeSpec} {apart fresh handsOn again : Bool} {W W' : World} {args : Array Value} {ds gs : List (DataW H)} {before : List MemPlace} {t : TypeId}
  (hl : laidOutB P = true) (hps : (f.params.toList.all fun t => P.readableRec t && decide (t < P.types.size)) = true) (hres : f.resultTypes = #[t]) (ht : P.underlying t = some .bool) (hv : s.vars = [])
  (hW : DataW.Whole enc P f.params.toList s.vars apart W args.toList ds gs before) (hk : Kept W W')
  (h1 : (s.fn H (ds ++ gs)).results = [.lit (.bool true)]) (h2 : (s.fn H (ds ++ gs)).args = ds) (h3 : (s.fn H (ds ++ gs)).vars = []) :
  s.post enc P f apart fresh handsOn again W args (.bool true) W' := by
 have hlt := hW.lt
 have hW' := hW
 obtain ⟨p, q, hA, hV, rfl, _, _⟩ := hW
 rw [hv] at hV
 obtain ⟨rfl, rfl⟩ := trodVars_none hV
 refine post_of_kept (pa := p) (pv := []) hW' (fun _ _ _ => ?_) (fun sp hsp => ?_) (fun _ _ => ?_) (by simp) hk (ok_one hres rfl (okWide_bool_mk ht _))
 ·rw [hres, h1]
  exact trodAll_cons_mk (shut_bool ht _) trodAll_mk0
 ·rw [h2]
  exact trodAll_stays hl hps hA (fun x hx => hk.same x (hlt x (by simpa using hx))) (fun x hx => hsp x (by simpa using hx))
 ·rw [h3, hv]
  rfl
section
variable {H : Type} {enc : TypeId × Value → H} {P : Program} {W : World} {base : Nat}
theorem repL_app {μ : Mu} : ∀ {hs ks : List HV} {vs us : List Value}, RepL W μ hs vs → RepL W μ ks us → RepL W μ (hs ++ ks) (vs ++ us)
 | [], _, _, _, h, h' => by cases h; exact h'
 | _ :: _, _, _, _, ⟨x, xs, rfl, h1, h2⟩, h' => ⟨x, _, rfl, h1, repL_app h2 h'⟩
theorem add_adds (a : Addr) (i j : Nat) : (a.add i).add j = a.add (i + j) := by
 unfold Addr.add
 repeat' split
 all_goals simp_all [Nat.add_assoc]
theorem open_rows {α : Type} (c : EncL α) {fuel : Nat} {t e : TypeId} {cs : List Value} {x : DataW H × List MemPlace} (ht : P.underlying t = some (.slice e)) (hk : P.cellsOf e = c.k) (hone : ∀ x, ones (c.C x))
  (hel : ∀ n cs y, DataW.trod enc P W 0 (fun _ => true) true n e cs = some y → ∃ x : α, RepL W Mu.zero (c.C x) cs)
  (hhas : ∀ a len cap, cs = [.slice (some a) len cap] → W.has P .any base a e cap) (h : DataW.trod enc P W 0 (fun _ => true) true fuel t cs = some x) : ∃ l : List α, RepL W Mu.zero [slE c l] cs := by
 rcases DataW.trod_slice ht h with ⟨rfl, _⟩ | ⟨a, len, cap, elems, rest, n, _, rfl, _, _, hl, hm, hlen, hel', _, _⟩
 ·refine ⟨[], _, _, rfl, ?_, rfl⟩
  show _ ∧ _
  exact ⟨(by rw [c.nil]; exact fun _ h => nomatch h), (by rw [c.nil]; simp), Nat.zero_le _, .inl ⟨rfl, rfl⟩⟩
 ·have each : ∀ i, i < len → ∃ cs' x, W.cells? 0 (a.add (i * c.k)) c.k = some cs' ∧ RepL W Mu.zero (c.C x) cs' := fun i hi => by
   have h1 := hel' i hi
   rw [List.getElem?_eq_getElem (by omega), Option.bind_eq_some_iff, hk] at h1
   obtain ⟨cs', h2, h3⟩ := h1
   obtain ⟨x, hx⟩ := hel _ _ _ h3
   exact ⟨cs', x, h2, hx⟩
  have build : ∀ m, m ≤ len → ∃ (l : List α) (vs : List Value), l.length = m ∧ vs.length = m * c.k ∧ RepL W Mu.zero (c.E l) vs ∧ ∀ i (hi : i < vs.length), W.cell? (a.add i) = some vs[i] := by
   intro m
   induction m with
   | zero => exact fun _ => ⟨[], [], rfl, by simp, by rw [c.nil]; rfl, fun i hi => by simp at hi⟩
   | succ m ih =>
    intro hm
    obtain ⟨l, vs, h1, h2, h3, h4⟩ := ih (by omega)
    obtain ⟨cs', x, h5, h6⟩ := each m (by omega)
    obtain ⟨_, h7, h8⟩ := World.cells?_some h5
    refine ⟨l ++ [x], vs ++ cs', by simp [h1], by rw [List.length_append, h2, h7, Nat.succ_mul], by rw [c.append, c.one]; exact repL_app h3 h6, fun i hi => ?_⟩
    rcases Nat.lt_or_ge i vs.length with hi' | hi'
    ·rw [List.getElem_append_left hi']; exact h4 i hi'
    ·rw [List.getElem_append_right hi']
     rw [List.length_append] at hi
     have := h8 (i - vs.length) (by omega)
     rw [add_adds, h2, show m * c.k + (i - m * c.k) = i by omega] at this
     rw [this, List.getElem?_eq_getElem (by omega)]
     simp only [h2]
  obtain ⟨l, vs, h1, h2, h3, h4⟩ := build len (Nat.le_refl _)
  obtain ⟨b, off, rfl, hseg⟩ := has_seg (hhas _ _ _ rfl) h4
  refine ⟨l, _, _, rfl, ?_, rfl⟩
  show _ ∧ _
  refine ⟨fun d hd => ?_, c.len l, by omega, .inr ⟨b, off, cap, vs, by rw [h1], by omega, nown b, hseg, h3⟩⟩
  rw [c.hE] at hd
  obtain ⟨x, _, hdx⟩ := List.mem_flatMap.1 hd
  exact hone x d hdx
theorem open3 {t : TypeId} {f0 f1 f2 : Field} {fuel : Nat} {cs : List Value} {x : DataW H × List MemPlace} (ht : P.underlying t = some (.struct #[f0, f1, f2])) (o0 : f0.offset = 0) (o1 : f1.offset = 1) (o2 : f2.offset = 2) (c : P.cellsOf t = 3)
  (c0 : P.cellsOf f0.type = 1) (c1 : P.cellsOf f1.type = 1) (c2 : P.cellsOf f2.type = 1) (h : DataW.trod enc P W 0 (fun _ => true) true fuel t cs = some x) :
  ∃ v0 v1 v2 y0 y1 y2 n, cs = [v0, v1, v2] ∧ DataW.trod enc P W 0 (fun _ => true) true n f0.type [v0] = some y0 ∧ DataW.trod enc P W 0 (fun _ => true) true n f1.type [v1] = some y1 ∧ DataW.trod enc P W 0 (fun _ => true) true n f2.type [v2] = some y2 := by
 obtain ⟨xs, n, _, rfl, hl, hlen, hf⟩ := DataW.trod_struct ht h
 rw [c] at hl
 match cs, hl with
 | [v0, v1, v2], _ =>
  match xs, hlen with
  | [y0, y1, y2], _ =>
   refine ⟨v0, v1, v2, y0, y1, y2, n, rfl, ?_, ?_, ?_⟩
   ·have := hf 0 f0 rfl; rw [o0, c0] at this; exact this
   ·have := hf 1 f1 rfl; rw [o1, c1] at this; exact this
   ·have := hf 2 f2 rfl; rw [o2, c2] at this; exact this
theorem rep_i64 {n : Int} {ti : TypeId} {m : Nat} {v : Value} {y : DataW H × List MemPlace} (hti : P.underlying ti = some (.int .i64)) (h : DataW.trod enc P W 0 (fun _ => true) true m ti [v] = some y) : ∃ n : Int, Rep W Mu.zero (.int .i64 n) v := by
 obtain ⟨n, hv, _, hw⟩ := DataW.trod_int hti h
 cases hv
 exact ⟨n, rfl, hw⟩
theorem open_graph {t ti ts te : TypeId} {f0 f1 f2 e0 e1 e2 : Field} {v : Value} {d : DataW H} {ps : List MemPlace} (ht : P.underlying t = some (.struct #[f0, f1, f2])) (o : f0.offset = 0 ∧ f1.offset = 1 ∧ f2.offset = 2) (y : f0.type = ti ∧ f1.type = ti ∧ f2.type = ts)
  (c : P.cellsOf t = 3) (ci : P.cellsOf ti = 1) (cs : P.cellsOf ts = 1) (ct : P.cellTypes P.depth t = some [ti, ti, ts]) (hti : P.underlying ti = some (.int .i64)) (hts : P.underlying ts = some (.slice te))
  (hte : P.underlying te = some (.struct #[e0, e1, e2])) (oe : e0.offset = 0 ∧ e1.offset = 1 ∧ e2.offset = 2) (ye : e0.type = ti ∧ e1.type = ti ∧ e2.type = ti) (ce : P.cellsOf te = 3)
  (hval : Value.okWide P W .any base t v) (h : DataW.Trod enc P W 0 (fun _ => true) true t v d ps) : ∃ g : TLabelsStatesEdges, Rep W Mu.zero (.agg [.int .i64 g.1, .int .i64 g.2.1, slE eFromLabelTo g.2.2]) v := by
 obtain ⟨y0, y1, y2⟩ := y
 obtain ⟨z0, z1, z2⟩ := ye
 simp only [Value.okWide, ht] at hval
 obtain ⟨arr, rfl, _, hrow⟩ := hval
 obtain ⟨fuel, hf⟩ := h
 obtain ⟨v0, v1, v2, a0, a1, a2, n, hcs, h0, h1, h2⟩ := open3 ht o.1 o.2.1 o.2.2 c (by rw [y0]; exact ci) (by rw [y1]; exact ci) (by rw [y2]; exact cs) hf
 have harr : arr = #[v0, v1, v2] := by
  have : arr.toList = [v0, v1, v2] := hcs
  cases arr
  simp_all
 subst harr
 rw [y0] at h0
 rw [y1] at h1
 rw [y2] at h2
 obtain ⟨l, r0⟩ := rep_i64 (n := 0) hti h0
 obtain ⟨s, r1⟩ := rep_i64 (n := 0) hti h1
 obtain ⟨es, _, _, r2, r2', r2''⟩ := open_rows (base := base) eFromLabelTo hts ce (fun x d hd => by
   have hd : d ∈ [HV.int .i64 x.1, HV.int .i64 x.2.1, HV.int .i64 x.2.2] := hd
   simp only [List.mem_cons, List.not_mem_nil, or_false] at hd
   rcases hd with rfl | rfl | rfl <;> rfl) (fun m cs' y hy => by
   obtain ⟨w0, w1, w2, b0, b1, b2, n', rfl, k0, k1, k2⟩ := open3 hte oe.1 oe.2.1 oe.2.2 ce (by rw [z0]; exact ci) (by rw [z1]; exact ci) (by rw [z2]; exact ci) hy
   rw [z0] at k0
   rw [z1] at k1
   rw [z2] at k2
   obtain ⟨p0, q0⟩ := rep_i64 (n := 0) hti k0
   obtain ⟨p1, q1⟩ := rep_i64 (n := 0) hti k1
   obtain ⟨p2, q2⟩ := rep_i64 (n := 0) hti k2
   exact ⟨(p0, p1, p2), _, _, rfl, q0, _, _, rfl, q1, _, _, rfl, q2, rfl⟩) (fun a len cap e => by
   cases e
   obtain ⟨tys, ht1, _, hcell⟩ := hrow
   rw [ct] at ht1
   cases ht1
   obtain ⟨u, hu, hok⟩ := hcell 2 (.slice (some a) len cap) rfl
   cases hu
   simp only [Cell.okWide, hts, Cell.ok] at hok
   exact hok.2.2) h2
 cases r2
 refine ⟨(l, s, es), ?_⟩
 show _ ∧ _
 refine ⟨fun d hd => ?_, _, rfl, _, _, rfl, r0, _, _, rfl, r1, _, _, rfl, r2', rfl⟩
 simp only [List.mem_cons, List.not_mem_nil, or_false] at hd
 rcases hd with rfl | rfl | rfl <;> rfl
end
end Go.AW
namespace Go.AW
open Go Go.ChangeShapes Go.WideShapes Go.ChangeAt Go.RowKit
section
variable {H : Type} {enc : TypeId × Value → H} {P : Program} {W : World} {base : Nat}
end
end Go.AW
namespace Go.AW
open Go Go.ChangeShapes Go.WideShapes Go.ChangeAt Go.RowKit
section
variable {H : Type} {enc : TypeId × Value → H} {P : Program} {W : World} {base : Nat}
end
end Go.AW
namespace Go.AW
open Go Go.ChangeShapes Go.WideShapes Go.ChangeAt Go.RowKit
section
variable {H : Type} {enc : TypeId × Value → H} {P : Program} {W : World} {base : Nat}
end
end Go.AW
namespace Go.Proofs.Ytnjepajbbkejeaa
open Go Go.AW Go.ChangeShapes Go.WideShapes Go.ChangeAt Go.RowKit Go.ChangeMaps
set_option linter.unusedVariables false
theorem ownM : ownKnob Try.prog.godebug = none := by kernel_rfl
theorem laidB : laidOutB Try.prog = true := by kernel_rfl
theorem wLaw (a0 : TLabelsStatesEdges) (a1 : List UInt8) (a2 : Int) (a3 : List UInt8) : Pure Try.prog 3 [HV.agg [HV.int .i64 a0.1, HV.int .i64 a0.2.1, slE eFromLabelTo a0.2.2], .str a1, .int .i64 a2, .str a3] (· = .bool true) := w_law54_SyncmarkChecks (law54_checks a0 a1 a2 a3)
set_option maxRecDepth 100000 in
theorem liftedL (os : Os) (started : os.Started) (H : Type) (enc : TypeId × Value → H) :
  ReturnsInHanded {} Try.checked os 3 .any (Rows.syncmarkChecksSpec.pre6 enc Try.prog Try.f3 Rows.syncmarkChecksRow.domain false) (Rows.syncmarkChecksSpec.post enc Try.prog Try.f3 false true false false) := by
 refine returnsInHanded_of_change_shaped (C := Try.checked) ownM started (by kernel_rfl) Try.func3
  (ChangeSpec.witness6 (enc := enc) (C := Try.checked) false ⟨#[], #[.agg #[.int .i64 0, .int .i64 0, .slice none 0 0], .string ⟨#[]⟩, .int .i64 0, .string ⟨#[]⟩], []⟩ 8 (by kernel_rfl) (by kernel_rfl) (by kernel_rfl) (by kernel_rfl)) ?_
 intro W base args ds gs before hval0 hW hcnd _ hsh _
 have hval : ∀ (j : Nat) t v, Try.f3.params[j]? = some t → args[j]? = some v → Value.okWide Try.prog W .any base t v := hval0
 have hW' := hW
 obtain ⟨p, q, hA0, hV, rfl, hfz, hnd⟩ := hW
 have hA : DataW.TrodAll enc Try.prog W 0 (fun _ => true) true Try.f3.params.toList args.toList ds p := hA0
 rw [Try.params3] at hA hval
 obtain ⟨v0, vs0, d0, ds0, p0, q0, hargs, rfl, rfl, h0, r0⟩ := trodAll_cons hA
 obtain ⟨v1, vs1, d1, ds1, p1, q1, rfl, rfl, rfl, h1, r1⟩ := trodAll_cons r0
 obtain ⟨v2, vs2, d2, ds2, p2, q2, rfl, rfl, rfl, h2, r2⟩ := trodAll_cons r1
 obtain ⟨v3, vs3, d3, ds3, p3, q3, rfl, rfl, rfl, h3, r3⟩ := trodAll_cons r2
 obtain ⟨rfl, rfl, rfl⟩ := trodAll_nil r3
 obtain rfl : args = #[v0, v1, v2, v3] := by cases args; simp_all
 obtain ⟨rfl, rfl⟩ := trodVars_none hV
 obtain ⟨a0, hr0⟩ := open_graph Try.underlying24 ⟨rfl, rfl, rfl⟩ ⟨rfl, rfl, rfl⟩ (by kernel_rfl) (by kernel_rfl) (by kernel_rfl) (by kernel_rfl) Try.underlying3 Try.underlying22 Try.underlying53 ⟨rfl, rfl, rfl⟩ ⟨rfl, rfl, rfl⟩ (by kernel_rfl) (hval 0 24 v0 rfl rfl) h0
 obtain ⟨s1, rfl, _, _, l1⟩ := open_string Try.underlying9 (hval 1 9 v1 rfl rfl) h1
 obtain ⟨a2, _, hr2⟩ := open_num Try.underlying3 (hval 2 3 v2 rfl rfl) h2
 obtain ⟨s3, rfl, _, _, l3⟩ := open_string Try.underlying9 (hval 3 9 v3 rfl rfl) h3
 have hgl : GlOk W Mu.zero := fun g hg => by
  obtain rfl : g = 0 := by simpa [gNos] using hg
  exact ⟨Try.index.s1_3 W hsh, fun ⟨_, _, h⟩ => by cases h⟩
 refine (calls_of_pure (hgl := hgl) (vs := [v0, .string s1, v2, .string s3]) (wLaw a0 s1.data.toList a2 s3.data.toList) ⟨_, _, rfl, hr0, _, _, rfl, rep_string s1 l1, _, _, rfl, hr2, _, _, rfl, rep_string s3 l3, rfl⟩).mono fun e W' ⟨he, hk⟩ => ?_
 subst he
 exact ⟨_, rfl, post_of_true laidB (by kernel_rfl) rfl Try.underlying4 rfl hW' hk rfl rfl rfl⟩
theorem syncmarkChecksProved : Rows.SyncmarkChecksSaid :=
 OpenClaim.holds_of_wide 3 Try.f3 rfl rfl rfl rfl rfl rfl rfl ⟨rfl, rfl, rfl, rfl, rfl⟩ rfl rfl rfl rfl rfl (by kernel_rfl) Try.func3 (by kernel_rfl)
  (of_decide_eq_true (by kernel_rfl)) (by unfold Func.isWrapper; first | (rw [if_pos (by decide +kernel)]; kernel_rfl) | (rw [if_neg (by decide +kernel)]; exact ⟨rfl, rfl⟩))
  (fun os started H enc _ => liftedL os started H enc)
#print axioms syncmarkChecksProved
end Go.Proofs.Ytnjepajbbkejeaa
