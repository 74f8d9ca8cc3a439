import Derived.Test.YtlddcjolelmpmaaGreatWr5
import Derived.OpenShut
import Derived.ProofKit
import Derived.SliceStrings
import Derived.WalkKit
import Derived.WideKeyArgs
namespace Go.AW
open Go Go.Proofs
set_option maxHeartbeats 1600000
set_option maxRecDepth 100000
set_option linter.unusedVariables false
theorem w_ref31_Great {p0 : TWordsMerges} {r : Bool} (h : m_ref31_Great p0 = some r) : Pure Tryz.prog 18 [jA p0] (· = HV.bool r) := by
 unfold m_ref31_Great at h
 refine Pure.of_body Tryz.func18 rfl rfl (lb rfl) fun hf => ?_
 unfold Tryz.f18
 dsimp only [enumS, Nat.reduceAdd]
 refine AW.rgs rfl fun K hK => b_op rfl (o_box rfl rfl rfl ?_)
 refine mv rfl rfl ?_
 refine bf hK ⟨[(1, jF p0)], []⟩ ?_
 refine AW.seq ?_
 refine AW.seqJ h (S := Bool) (V := Unit) (fun a v => ⟨[(1, jF p0), (38, .bool a)], []⟩) (fun a1 w2 h => ?_) (fun k3 h => ?_)
 ·refine AW.cond rfl (fun hc => ?_) (fun hc => ?_)
  ·have h := ifT hc h
   refine AW.rgs rfl fun K hK => mv rfl rfl ?_
   refine bf hK ⟨[(2, .bool true)], []⟩ ?_
   refine AW.ret ?_
   have h := Option.some.inj h
   subst h
   exact ret_pure (hs := [.bool true]) (.inr rfl) (resT rfl rfl) rfl trivial
  have h := ifF (bF' hc) h
  refine AW.skip ?_
  refine AW.seq ?_
  refine AW.rgs rfl fun K hK => mv rfl rfl ?_
  refine bf hK ⟨[(1, jF p0), (3, hI 0)], []⟩ ?_
  refine AW.lpR h (by first | exact up_then | exact up_to) (S := Int) (V := Unit) (fun a v => ⟨[(1, jF p0), (3, hI a)], []⟩) ?_ (X := Unit) (W := Unit) (fun a v => ⟨[(1, jF p0)], []⟩) (fun a21 w22 h => ?_) (fun a4 w5 st6 h hr7=> ?_)
  ·exact to_L ⟨(), rfl⟩
  ·refine AW.seq ?_
   refine AW.rgs rfl fun K hK => mv rfl rfl ?_
   refine bf hK ⟨[(1, jF p0), (4, hI 0)], []⟩ ?_
   refine AW.lpR h (by first | exact up_then | exact up_to) (S := Int) (V := Unit) (fun a v => ⟨[(1, jF p0), (4, hI a)], []⟩) ?_ (X := Unit) (W := Unit) (fun a v => ⟨[], []⟩) (fun a40 w41 h => ?_) (fun a23 w24 st25 h hr26=> ?_)
   ·exact to_L ⟨(), rfl⟩
   ·refine AW.rgs rfl fun K hK => mv rfl rfl ?_
    refine bf hK ⟨[(2, .bool false)], []⟩ ?_
    refine AW.ret ?_
    have h := Option.some.inj h
    subst h
    exact ret_pure (hs := [.bool false]) (.inr rfl) (resT rfl rfl) rfl trivial
   refine AW.seq ?_
   refine AW.rgs rfl fun K hK => mv rfl rfl (bv rfl (v_fieldAddrF fo24_1 rfl) (bv rfl (v_loadF ty22 rfl (l_lit rfl rfl)) (bv rfl (v_lenF rfl rfl ty22 rfl) (bv rfl (v_bin rfl rfl b_lss) ?_))))
   refine bf hK ⟨[(1, jF p0), (4, hI a23), (75, .bool (decide (a23 < ((p0.2).length : Int))))], []⟩ ?_
   refine AW.cond rfl (fun hc => ?_) (fun hc => ?_)
   ·obtain ⟨hc, h⟩ := cT hc h
    refine AW.skip ?_
    refine AW.seq (AW.block ?_)
    refine AW.seqJ h (S := Bool) (V := Unit) (fun a v => ⟨[(1, jF p0), (4, hI a23), (102, .bool a)], []⟩) (fun a27 w28 h => ?_) (fun k29 h => ?_)
    ·refine AW.cond rfl (fun hc => ?_) (fun hc => ?_)
     ·have h := ifT hc h
      refine AW.rgs rfl fun K hK => mv rfl rfl ?_
      refine bf hK ⟨[(2, .bool true)], []⟩ ?_
      have h := hr26 _ h
      refine AW.ret ?_
      have h := Option.some.inj h
      subst h
      exact ret_pure (hs := [.bool true]) (.inr rfl) (resT rfl rfl) rfl trivial
     have h := ifF (bF' hc) h
     refine AW.skip ?_
     refine AW.rg rfl fun K hK => mv rfl rfl (bv rfl (v_bin rfl rfl b_add) (mv rfl rfl ?_))
     refine b_nil (hK _ ?_)
     exact to_L ⟨IntKind.wrap .i64 (a23 + 1), (), h, rfl⟩
    refine AW.rg rfl fun K hK => bv rfl (v_fieldAddrF fo24_1 rfl) (bv rfl (v_loadF ty22 rfl (l_lit rfl rfl)) (mv rfl rfl ?_))
    obtain ⟨x30, h31, h⟩ := bS h
    refine bv rfl (v_idxF ty22 es22 rfl rfl (idx_lt h31)) (bv rfl (v_loadF ty9 rfl (l_cell eStr h31 (o := 0) rfl rfl)) (bv rfl (v_lenS rfl rfl ty9 rfl) (bv rfl (v_bin rfl rfl b_gtr) (mv rfl rfl ?_))))
    by_cases hg39 : 8 < ((x30).length : Int)
    ·have h := ifT hg39 h
     refine b_T rfl rfl rfl rfl (decide_eq_true hg39) (o_val rfl (v_fieldAddrF fo24_1 rfl) ?_)
     refine b_T rfl rfl rfl rfl rfl (o_val rfl (v_loadF ty22 rfl (l_lit rfl rfl)) ?_)
     refine b_T rfl rfl rfl rfl rfl (o_val rfl (mv_val rfl rfl).2 ?_)
     obtain ⟨x32, h33, h⟩ := bS h
     refine b_T rfl rfl rfl rfl rfl (o_val rfl (v_idxF ty22 es22 rfl rfl (idx_lt h33)) ?_)
     refine b_T rfl rfl rfl rfl rfl (o_val rfl (v_loadF ty9 rfl (l_cell eStr h33 (o := 0) rfl rfl)) ?_)
     refine b_T rfl rfl rfl rfl rfl (o_val rfl (v_lenS rfl rfl ty9 rfl) ?_)
     refine b_T rfl rfl rfl rfl rfl (o_val rfl (v_bin rfl rfl b_leq) ?_)
     refine bv rfl (v_pickT rfl rfl rfl) (mv rfl rfl ?_)
     by_cases hg36 : ((x32).length : Int) ≤ 16
     ·have h := ifT hg36 h
      refine b_F rfl rfl rfl rfl rfl (decide_eq_true hg36) ?_
      refine b_F rfl rfl rfl rfl rfl rfl ?_
      refine b_F rfl rfl rfl rfl rfl rfl ?_
      refine b_F rfl rfl rfl rfl rfl rfl ?_
      refine b_F rfl rfl rfl rfl rfl rfl ?_
      refine b_F rfl rfl rfl rfl rfl rfl ?_
      refine b_F rfl rfl rfl rfl rfl rfl ?_
      refine bv rfl (v_pickT rfl rfl rfl) ?_
      refine b_nil (hK _ ?_)
      exact to_L ⟨true, (), h, rfl⟩
     have h := ifF hg36 h
     refine b_T rfl rfl rfl rfl (decide_eq_false hg36) (o_val rfl (v_fieldAddrF fo24_1 rfl) ?_)
     refine b_T rfl rfl rfl rfl rfl (o_val rfl (v_loadF ty22 rfl (l_lit rfl rfl)) ?_)
     refine b_T rfl rfl rfl rfl rfl (o_val rfl (mv_val rfl rfl).2 ?_)
     obtain ⟨x34, h35, h⟩ := bS h
     refine b_T rfl rfl rfl rfl rfl (o_val rfl (v_idxF ty22 es22 rfl rfl (idx_lt h35)) ?_)
     refine b_T rfl rfl rfl rfl rfl (o_val rfl (v_loadF ty9 rfl (l_cell eStr h35 (o := 0) rfl rfl)) ?_)
     refine b_T rfl rfl rfl rfl rfl (o_val rfl (v_lenS rfl rfl ty9 rfl) ?_)
     refine b_T rfl rfl rfl rfl rfl (o_val rfl (v_bin rfl rfl b_gtr) ?_)
     refine bv rfl (v_pickF rfl rfl rfl) ?_
     refine b_nil (hK _ ?_)
     exact to_L ⟨decide (20 < ((x34).length : Int)), (), h, rfl⟩
    have h := ifF hg39 h
    refine b_F rfl rfl rfl rfl rfl (decide_eq_false hg39) ?_
    refine b_F rfl rfl rfl rfl rfl rfl ?_
    refine b_F rfl rfl rfl rfl rfl rfl ?_
    refine b_F rfl rfl rfl rfl rfl rfl ?_
    refine b_F rfl rfl rfl rfl rfl rfl ?_
    refine b_F rfl rfl rfl rfl rfl rfl ?_
    refine b_F rfl rfl rfl rfl rfl rfl ?_
    refine bv rfl (v_pickF rfl rfl rfl) (mv rfl rfl ?_)
    refine b_T rfl rfl rfl rfl rfl (o_val rfl (v_fieldAddrF fo24_1 rfl) ?_)
    refine b_T rfl rfl rfl rfl rfl (o_val rfl (v_loadF ty22 rfl (l_lit rfl rfl)) ?_)
    refine b_T rfl rfl rfl rfl rfl (o_val rfl (mv_val rfl rfl).2 ?_)
    obtain ⟨x37, h38, h⟩ := bS h
    refine b_T rfl rfl rfl rfl rfl (o_val rfl (v_idxF ty22 es22 rfl rfl (idx_lt h38)) ?_)
    refine b_T rfl rfl rfl rfl rfl (o_val rfl (v_loadF ty9 rfl (l_cell eStr h38 (o := 0) rfl rfl)) ?_)
    refine b_T rfl rfl rfl rfl rfl (o_val rfl (v_lenS rfl rfl ty9 rfl) ?_)
    refine b_T rfl rfl rfl rfl rfl (o_val rfl (v_bin rfl rfl b_gtr) ?_)
    refine bv rfl (v_pickF rfl rfl rfl) ?_
    refine b_nil (hK _ ?_)
    exact to_L ⟨decide (20 < ((x37).length : Int)), (), h, rfl⟩
   obtain ⟨hc, h⟩ := cF hc h
   refine AW.exit ?_
   exact to_L ⟨(), (), h, rfl⟩
  refine AW.seq ?_
  refine AW.rgs rfl fun K hK => mv rfl rfl (bv rfl (v_fieldAddrF fo24_0 rfl) (bv rfl (v_loadF ty22 rfl (l_lit rfl rfl)) (bv rfl (v_lenF rfl rfl ty22 rfl) (bv rfl (v_bin rfl rfl b_lss) ?_))))
  refine bf hK ⟨[(1, jF p0), (3, hI a4), (43, .bool (decide (a4 < ((p0.1).length : Int))))], []⟩ ?_
  refine AW.cond rfl (fun hc => ?_) (fun hc => ?_)
  ·obtain ⟨hc, h⟩ := cT hc h
   refine AW.skip ?_
   refine AW.seq (AW.block ?_)
   refine AW.seqJ h (S := Bool) (V := Unit) (fun a v => ⟨[(1, jF p0), (3, hI a4), (70, .bool a)], []⟩) (fun a8 w9 h => ?_) (fun k10 h => ?_)
   ·refine AW.cond rfl (fun hc => ?_) (fun hc => ?_)
    ·have h := ifT hc h
     refine AW.rgs rfl fun K hK => mv rfl rfl ?_
     refine bf hK ⟨[(2, .bool true)], []⟩ ?_
     have h := hr7 _ h
     refine AW.ret ?_
     have h := Option.some.inj h
     subst h
     exact ret_pure (hs := [.bool true]) (.inr rfl) (resT rfl rfl) rfl trivial
    have h := ifF (bF' hc) h
    refine AW.skip ?_
    refine AW.rg rfl fun K hK => mv rfl rfl (bv rfl (v_bin rfl rfl b_add) (mv rfl rfl ?_))
    refine b_nil (hK _ ?_)
    exact to_L ⟨IntKind.wrap .i64 (a4 + 1), (), h, rfl⟩
   refine AW.rg rfl fun K hK => bv rfl (v_fieldAddrF fo24_0 rfl) (bv rfl (v_loadF ty22 rfl (l_lit rfl rfl)) (mv rfl rfl ?_))
   obtain ⟨x11, h12, h⟩ := bS h
   refine bv rfl (v_idxF ty22 es22 rfl rfl (idx_lt h12)) (bv rfl (v_loadF ty9 rfl (l_cell eStr h12 (o := 0) rfl rfl)) (bv rfl (v_lenS rfl rfl ty9 rfl) (bv rfl (v_bin rfl rfl b_gtr) (mv rfl rfl ?_))))
   by_cases hg20 : 8 < ((x11).length : Int)
   ·have h := ifT hg20 h
    refine b_T rfl rfl rfl rfl (decide_eq_true hg20) (o_val rfl (v_fieldAddrF fo24_0 rfl) ?_)
    refine b_T rfl rfl rfl rfl rfl (o_val rfl (v_loadF ty22 rfl (l_lit rfl rfl)) ?_)
    refine b_T rfl rfl rfl rfl rfl (o_val rfl (mv_val rfl rfl).2 ?_)
    obtain ⟨x13, h14, h⟩ := bS h
    refine b_T rfl rfl rfl rfl rfl (o_val rfl (v_idxF ty22 es22 rfl rfl (idx_lt h14)) ?_)
    refine b_T rfl rfl rfl rfl rfl (o_val rfl (v_loadF ty9 rfl (l_cell eStr h14 (o := 0) rfl rfl)) ?_)
    refine b_T rfl rfl rfl rfl rfl (o_val rfl (v_lenS rfl rfl ty9 rfl) ?_)
    refine b_T rfl rfl rfl rfl rfl (o_val rfl (v_bin rfl rfl b_leq) ?_)
    refine bv rfl (v_pickT rfl rfl rfl) (mv rfl rfl ?_)
    by_cases hg17 : ((x13).length : Int) ≤ 16
    ·have h := ifT hg17 h
     refine b_F rfl rfl rfl rfl rfl (decide_eq_true hg17) ?_
     refine b_F rfl rfl rfl rfl rfl rfl ?_
     refine b_F rfl rfl rfl rfl rfl rfl ?_
     refine b_F rfl rfl rfl rfl rfl rfl ?_
     refine b_F rfl rfl rfl rfl rfl rfl ?_
     refine b_F rfl rfl rfl rfl rfl rfl ?_
     refine b_F rfl rfl rfl rfl rfl rfl ?_
     refine bv rfl (v_pickT rfl rfl rfl) ?_
     refine b_nil (hK _ ?_)
     exact to_L ⟨true, (), h, rfl⟩
    have h := ifF hg17 h
    refine b_T rfl rfl rfl rfl (decide_eq_false hg17) (o_val rfl (v_fieldAddrF fo24_0 rfl) ?_)
    refine b_T rfl rfl rfl rfl rfl (o_val rfl (v_loadF ty22 rfl (l_lit rfl rfl)) ?_)
    refine b_T rfl rfl rfl rfl rfl (o_val rfl (mv_val rfl rfl).2 ?_)
    obtain ⟨x15, h16, h⟩ := bS h
    refine b_T rfl rfl rfl rfl rfl (o_val rfl (v_idxF ty22 es22 rfl rfl (idx_lt h16)) ?_)
    refine b_T rfl rfl rfl rfl rfl (o_val rfl (v_loadF ty9 rfl (l_cell eStr h16 (o := 0) rfl rfl)) ?_)
    refine b_T rfl rfl rfl rfl rfl (o_val rfl (v_lenS rfl rfl ty9 rfl) ?_)
    refine b_T rfl rfl rfl rfl rfl (o_val rfl (v_bin rfl rfl b_gtr) ?_)
    refine bv rfl (v_pickF rfl rfl rfl) ?_
    refine b_nil (hK _ ?_)
    exact to_L ⟨decide (20 < ((x15).length : Int)), (), h, rfl⟩
   have h := ifF hg20 h
   refine b_F rfl rfl rfl rfl rfl (decide_eq_false hg20) ?_
   refine b_F rfl rfl rfl rfl rfl rfl ?_
   refine b_F rfl rfl rfl rfl rfl rfl ?_
   refine b_F rfl rfl rfl rfl rfl rfl ?_
   refine b_F rfl rfl rfl rfl rfl rfl ?_
   refine b_F rfl rfl rfl rfl rfl rfl ?_
   refine b_F rfl rfl rfl rfl rfl rfl ?_
   refine bv rfl (v_pickF rfl rfl rfl) (mv rfl rfl ?_)
   refine b_T rfl rfl rfl rfl rfl (o_val rfl (v_fieldAddrF fo24_0 rfl) ?_)
   refine b_T rfl rfl rfl rfl rfl (o_val rfl (v_loadF ty22 rfl (l_lit rfl rfl)) ?_)
   refine b_T rfl rfl rfl rfl rfl (o_val rfl (mv_val rfl rfl).2 ?_)
   obtain ⟨x18, h19, h⟩ := bS h
   refine b_T rfl rfl rfl rfl rfl (o_val rfl (v_idxF ty22 es22 rfl rfl (idx_lt h19)) ?_)
   refine b_T rfl rfl rfl rfl rfl (o_val rfl (v_loadF ty9 rfl (l_cell eStr h19 (o := 0) rfl rfl)) ?_)
   refine b_T rfl rfl rfl rfl rfl (o_val rfl (v_lenS rfl rfl ty9 rfl) ?_)
   refine b_T rfl rfl rfl rfl rfl (o_val rfl (v_bin rfl rfl b_gtr) ?_)
   refine bv rfl (v_pickF rfl rfl rfl) ?_
   refine b_nil (hK _ ?_)
   exact to_L ⟨decide (20 < ((x18).length : Int)), (), h, rfl⟩
  obtain ⟨hc, h⟩ := cF hc h
  refine AW.exit ?_
  exact to_L ⟨(), (), h, rfl⟩
 refine AW.rg rfl fun K hK => bv rfl (v_fieldAddrF fo24_0 rfl) (bv rfl (v_loadF ty22 rfl (l_lit rfl rfl)) (bv rfl (v_lenF rfl rfl ty22 rfl) (bv rfl (v_bin rfl rfl b_gtr) (mv rfl rfl ?_))))
 by_cases hg51 : 6 < ((p0.1).length : Int)
 ·have h := ifT hg51 h
  refine b_T rfl rfl rfl rfl (decide_eq_true hg51) (o_val rfl (v_fieldAddrF fo24_0 rfl) ?_)
  refine b_T rfl rfl rfl rfl rfl (o_val rfl (v_loadF ty22 rfl (l_lit rfl rfl)) ?_)
  refine b_T rfl rfl rfl rfl rfl (o_val rfl (v_lenF rfl rfl ty22 rfl) ?_)
  refine b_T rfl rfl rfl rfl rfl (o_val rfl (v_bin rfl rfl b_leq) ?_)
  refine bv rfl (v_pickT rfl rfl rfl) (mv rfl rfl ?_)
  by_cases hg46 : ((p0.1).length : Int) ≤ 256
  ·have h := ifT hg46 h
   refine b_F rfl rfl rfl rfl rfl (decide_eq_true hg46) ?_
   refine b_F rfl rfl rfl rfl rfl rfl ?_
   refine b_F rfl rfl rfl rfl rfl rfl ?_
   refine b_F rfl rfl rfl rfl rfl rfl ?_
   refine b_F rfl rfl rfl rfl rfl rfl ?_
   refine b_U rfl rfl rfl rfl rfl ?_
   refine b_U rfl rfl rfl rfl rfl ?_
   refine b_U rfl rfl rfl rfl rfl ?_
   refine b_U rfl rfl rfl rfl rfl ?_
   refine b_F rfl rfl rfl rfl rfl rfl ?_
   refine bv rfl (v_pickT rfl rfl rfl) (mv rfl rfl ?_)
   refine b_F rfl rfl rfl rfl rfl rfl ?_
   refine b_F rfl rfl rfl rfl rfl rfl ?_
   refine b_F rfl rfl rfl rfl rfl rfl ?_
   refine b_F rfl rfl rfl rfl rfl rfl ?_
   refine bv rfl (v_pickT rfl rfl rfl) (mv rfl rfl ?_)
   refine b_F rfl rfl rfl rfl rfl rfl ?_
   refine b_F rfl rfl rfl rfl rfl rfl ?_
   refine b_F rfl rfl rfl rfl rfl rfl ?_
   refine b_F rfl rfl rfl rfl rfl rfl ?_
   refine bv rfl (v_pickT rfl rfl rfl) ?_
   refine b_nil (hK _ ?_)
   exact to_L ⟨true, (), h, rfl⟩
  have h := ifF hg46 h
  refine b_T rfl rfl rfl rfl (decide_eq_false hg46) (o_val rfl (v_fieldAddrF fo24_1 rfl) ?_)
  refine b_T rfl rfl rfl rfl rfl (o_val rfl (v_loadF ty22 rfl (l_lit rfl rfl)) ?_)
  refine b_T rfl rfl rfl rfl rfl (o_val rfl (v_lenF rfl rfl ty22 rfl) ?_)
  refine b_T rfl rfl rfl rfl rfl (o_val rfl (v_bin rfl rfl b_gtr) ?_)
  refine b_T rfl rfl rfl rfl rfl (o_val rfl (mv_val rfl rfl).2 ?_)
  by_cases hg45 : 8 < ((p0.2).length : Int)
  ·have h := ifT hg45 h
   refine b_T rfl rfl rfl rfl (decide_eq_true hg45) (o_val rfl (v_fieldAddrF fo24_1 rfl) ?_)
   refine b_T rfl rfl rfl rfl rfl (o_val rfl (v_loadF ty22 rfl (l_lit rfl rfl)) ?_)
   refine b_T rfl rfl rfl rfl rfl (o_val rfl (v_lenF rfl rfl ty22 rfl) ?_)
   refine b_T rfl rfl rfl rfl rfl (o_val rfl (v_bin rfl rfl b_leq) ?_)
   refine b_T rfl rfl rfl rfl rfl (o_val rfl (v_pickT rfl rfl rfl) ?_)
   refine bv rfl (v_pickF rfl rfl rfl) (mv rfl rfl ?_)
   by_cases hg43 : ((p0.2).length : Int) ≤ 256
   ·have h := ifT hg43 h
    refine b_F rfl rfl rfl rfl rfl (decide_eq_true hg43) ?_
    refine b_F rfl rfl rfl rfl rfl rfl ?_
    refine b_F rfl rfl rfl rfl rfl rfl ?_
    refine b_F rfl rfl rfl rfl rfl rfl ?_
    refine bv rfl (v_pickT rfl rfl rfl) (mv rfl rfl ?_)
    refine b_F rfl rfl rfl rfl rfl rfl ?_
    refine b_F rfl rfl rfl rfl rfl rfl ?_
    refine b_F rfl rfl rfl rfl rfl rfl ?_
    refine b_F rfl rfl rfl rfl rfl rfl ?_
    refine bv rfl (v_pickT rfl rfl rfl) ?_
    refine b_nil (hK _ ?_)
    exact to_L ⟨true, (), h, rfl⟩
   have h := ifF hg43 h
   refine b_T rfl rfl rfl rfl (decide_eq_false hg43) (o_val rfl (v_fieldAddrF fo24_0 rfl) ?_)
   refine b_T rfl rfl rfl rfl rfl (o_val rfl (v_loadF ty22 rfl (l_lit rfl rfl)) ?_)
   refine b_T rfl rfl rfl rfl rfl (o_val rfl (v_lenF rfl rfl ty22 rfl) ?_)
   refine b_T rfl rfl rfl rfl rfl (o_val rfl (v_bin rfl rfl b_gtr) ?_)
   refine bv rfl (v_pickF rfl rfl rfl) (mv rfl rfl ?_)
   by_cases hg42 : 259 < ((p0.1).length : Int)
   ·have h := ifT hg42 h
    refine b_F rfl rfl rfl rfl rfl (decide_eq_true hg42) ?_
    refine b_F rfl rfl rfl rfl rfl rfl ?_
    refine b_F rfl rfl rfl rfl rfl rfl ?_
    refine b_F rfl rfl rfl rfl rfl rfl ?_
    refine bv rfl (v_pickT rfl rfl rfl) ?_
    refine b_nil (hK _ ?_)
    exact to_L ⟨true, (), h, rfl⟩
   have h := ifF hg42 h
   refine b_T rfl rfl rfl rfl (decide_eq_false hg42) (o_val rfl (v_fieldAddrF fo24_1 rfl) ?_)
   refine b_T rfl rfl rfl rfl rfl (o_val rfl (v_loadF ty22 rfl (l_lit rfl rfl)) ?_)
   refine b_T rfl rfl rfl rfl rfl (o_val rfl (v_lenF rfl rfl ty22 rfl) ?_)
   refine b_T rfl rfl rfl rfl rfl (o_val rfl (v_bin rfl rfl b_gtr) ?_)
   refine bv rfl (v_pickF rfl rfl rfl) ?_
   refine b_nil (hK _ ?_)
   exact to_L ⟨decide (259 < ((p0.2).length : Int)), (), h, rfl⟩
  have h := ifF hg45 h
  refine b_F rfl rfl rfl rfl rfl (decide_eq_false hg45) ?_
  refine b_F rfl rfl rfl rfl rfl rfl ?_
  refine b_F rfl rfl rfl rfl rfl rfl ?_
  refine b_F rfl rfl rfl rfl rfl rfl ?_
  refine b_T rfl rfl rfl rfl rfl (o_val rfl (v_pickF rfl rfl rfl) ?_)
  refine bv rfl (v_pickF rfl rfl rfl) (mv rfl rfl ?_)
  refine b_T rfl rfl rfl rfl rfl (o_val rfl (v_fieldAddrF fo24_0 rfl) ?_)
  refine b_T rfl rfl rfl rfl rfl (o_val rfl (v_loadF ty22 rfl (l_lit rfl rfl)) ?_)
  refine b_T rfl rfl rfl rfl rfl (o_val rfl (v_lenF rfl rfl ty22 rfl) ?_)
  refine b_T rfl rfl rfl rfl rfl (o_val rfl (v_bin rfl rfl b_gtr) ?_)
  refine bv rfl (v_pickF rfl rfl rfl) (mv rfl rfl ?_)
  by_cases hg44 : 259 < ((p0.1).length : Int)
  ·have h := ifT hg44 h
   refine b_F rfl rfl rfl rfl rfl (decide_eq_true hg44) ?_
   refine b_F rfl rfl rfl rfl rfl rfl ?_
   refine b_F rfl rfl rfl rfl rfl rfl ?_
   refine b_F rfl rfl rfl rfl rfl rfl ?_
   refine bv rfl (v_pickT rfl rfl rfl) ?_
   refine b_nil (hK _ ?_)
   exact to_L ⟨true, (), h, rfl⟩
  have h := ifF hg44 h
  refine b_T rfl rfl rfl rfl (decide_eq_false hg44) (o_val rfl (v_fieldAddrF fo24_1 rfl) ?_)
  refine b_T rfl rfl rfl rfl rfl (o_val rfl (v_loadF ty22 rfl (l_lit rfl rfl)) ?_)
  refine b_T rfl rfl rfl rfl rfl (o_val rfl (v_lenF rfl rfl ty22 rfl) ?_)
  refine b_T rfl rfl rfl rfl rfl (o_val rfl (v_bin rfl rfl b_gtr) ?_)
  refine bv rfl (v_pickF rfl rfl rfl) ?_
  refine b_nil (hK _ ?_)
  exact to_L ⟨decide (259 < ((p0.2).length : Int)), (), h, rfl⟩
 have h := ifF hg51 h
 refine b_F rfl rfl rfl rfl rfl (decide_eq_false hg51) ?_
 refine b_F rfl rfl rfl rfl rfl rfl ?_
 refine b_F rfl rfl rfl rfl rfl rfl ?_
 refine b_F rfl rfl rfl rfl rfl rfl ?_
 refine bv rfl (v_pickF rfl rfl rfl) (mv rfl rfl ?_)
 refine b_T rfl rfl rfl rfl rfl (o_val rfl (v_fieldAddrF fo24_1 rfl) ?_)
 refine b_T rfl rfl rfl rfl rfl (o_val rfl (v_loadF ty22 rfl (l_lit rfl rfl)) ?_)
 refine b_T rfl rfl rfl rfl rfl (o_val rfl (v_lenF rfl rfl ty22 rfl) ?_)
 refine b_T rfl rfl rfl rfl rfl (o_val rfl (v_bin rfl rfl b_gtr) ?_)
 refine b_T rfl rfl rfl rfl rfl (o_val rfl (mv_val rfl rfl).2 ?_)
 by_cases hg50 : 8 < ((p0.2).length : Int)
 ·have h := ifT hg50 h
  refine b_T rfl rfl rfl rfl (decide_eq_true hg50) (o_val rfl (v_fieldAddrF fo24_1 rfl) ?_)
  refine b_T rfl rfl rfl rfl rfl (o_val rfl (v_loadF ty22 rfl (l_lit rfl rfl)) ?_)
  refine b_T rfl rfl rfl rfl rfl (o_val rfl (v_lenF rfl rfl ty22 rfl) ?_)
  refine b_T rfl rfl rfl rfl rfl (o_val rfl (v_bin rfl rfl b_leq) ?_)
  refine b_T rfl rfl rfl rfl rfl (o_val rfl (v_pickT rfl rfl rfl) ?_)
  refine bv rfl (v_pickF rfl rfl rfl) (mv rfl rfl ?_)
  by_cases hg48 : ((p0.2).length : Int) ≤ 256
  ·have h := ifT hg48 h
   refine b_F rfl rfl rfl rfl rfl (decide_eq_true hg48) ?_
   refine b_F rfl rfl rfl rfl rfl rfl ?_
   refine b_F rfl rfl rfl rfl rfl rfl ?_
   refine b_F rfl rfl rfl rfl rfl rfl ?_
   refine bv rfl (v_pickT rfl rfl rfl) (mv rfl rfl ?_)
   refine b_F rfl rfl rfl rfl rfl rfl ?_
   refine b_F rfl rfl rfl rfl rfl rfl ?_
   refine b_F rfl rfl rfl rfl rfl rfl ?_
   refine b_F rfl rfl rfl rfl rfl rfl ?_
   refine bv rfl (v_pickT rfl rfl rfl) ?_
   refine b_nil (hK _ ?_)
   exact to_L ⟨true, (), h, rfl⟩
  have h := ifF hg48 h
  refine b_T rfl rfl rfl rfl (decide_eq_false hg48) (o_val rfl (v_fieldAddrF fo24_0 rfl) ?_)
  refine b_T rfl rfl rfl rfl rfl (o_val rfl (v_loadF ty22 rfl (l_lit rfl rfl)) ?_)
  refine b_T rfl rfl rfl rfl rfl (o_val rfl (v_lenF rfl rfl ty22 rfl) ?_)
  refine b_T rfl rfl rfl rfl rfl (o_val rfl (v_bin rfl rfl b_gtr) ?_)
  refine bv rfl (v_pickF rfl rfl rfl) (mv rfl rfl ?_)
  by_cases hg47 : 259 < ((p0.1).length : Int)
  ·have h := ifT hg47 h
   refine b_F rfl rfl rfl rfl rfl (decide_eq_true hg47) ?_
   refine b_F rfl rfl rfl rfl rfl rfl ?_
   refine b_F rfl rfl rfl rfl rfl rfl ?_
   refine b_F rfl rfl rfl rfl rfl rfl ?_
   refine bv rfl (v_pickT rfl rfl rfl) ?_
   refine b_nil (hK _ ?_)
   exact to_L ⟨true, (), h, rfl⟩
  have h := ifF hg47 h
  refine b_T rfl rfl rfl rfl (decide_eq_false hg47) (o_val rfl (v_fieldAddrF fo24_1 rfl) ?_)
  refine b_T rfl rfl rfl rfl rfl (o_val rfl (v_loadF ty22 rfl (l_lit rfl rfl)) ?_)
  refine b_T rfl rfl rfl rfl rfl (o_val rfl (v_lenF rfl rfl ty22 rfl) ?_)
  refine b_T rfl rfl rfl rfl rfl (o_val rfl (v_bin rfl rfl b_gtr) ?_)
  refine bv rfl (v_pickF rfl rfl rfl) ?_
  refine b_nil (hK _ ?_)
  exact to_L ⟨decide (259 < ((p0.2).length : Int)), (), h, rfl⟩
 have h := ifF hg50 h
 refine b_F rfl rfl rfl rfl rfl (decide_eq_false hg50) ?_
 refine b_F rfl rfl rfl rfl rfl rfl ?_
 refine b_F rfl rfl rfl rfl rfl rfl ?_
 refine b_F rfl rfl rfl rfl rfl rfl ?_
 refine b_T rfl rfl rfl rfl rfl (o_val rfl (v_pickF rfl rfl rfl) ?_)
 refine bv rfl (v_pickF rfl rfl rfl) (mv rfl rfl ?_)
 refine b_T rfl rfl rfl rfl rfl (o_val rfl (v_fieldAddrF fo24_0 rfl) ?_)
 refine b_T rfl rfl rfl rfl rfl (o_val rfl (v_loadF ty22 rfl (l_lit rfl rfl)) ?_)
 refine b_T rfl rfl rfl rfl rfl (o_val rfl (v_lenF rfl rfl ty22 rfl) ?_)
 refine b_T rfl rfl rfl rfl rfl (o_val rfl (v_bin rfl rfl b_gtr) ?_)
 refine bv rfl (v_pickF rfl rfl rfl) (mv rfl rfl ?_)
 by_cases hg49 : 259 < ((p0.1).length : Int)
 ·have h := ifT hg49 h
  refine b_F rfl rfl rfl rfl rfl (decide_eq_true hg49) ?_
  refine b_F rfl rfl rfl rfl rfl rfl ?_
  refine b_F rfl rfl rfl rfl rfl rfl ?_
  refine b_F rfl rfl rfl rfl rfl rfl ?_
  refine bv rfl (v_pickT rfl rfl rfl) ?_
  refine b_nil (hK _ ?_)
  exact to_L ⟨true, (), h, rfl⟩
 have h := ifF hg49 h
 refine b_T rfl rfl rfl rfl (decide_eq_false hg49) (o_val rfl (v_fieldAddrF fo24_1 rfl) ?_)
 refine b_T rfl rfl rfl rfl rfl (o_val rfl (v_loadF ty22 rfl (l_lit rfl rfl)) ?_)
 refine b_T rfl rfl rfl rfl rfl (o_val rfl (v_lenF rfl rfl ty22 rfl) ?_)
 refine b_T rfl rfl rfl rfl rfl (o_val rfl (v_bin rfl rfl b_gtr) ?_)
 refine bv rfl (v_pickF rfl rfl rfl) ?_
 refine b_nil (hK _ ?_)
 exact to_L ⟨decide (259 < ((p0.2).length : Int)), (), h, rfl⟩
theorem w_ref11_Great {p0 : TLabelsStatesEdges} {r : Bool} (h : m_ref11_Great p0 = some r) : Pure Tryz.prog 45 [gA p0] (· = HV.bool r) := by
 unfold m_ref11_Great at h
 refine Pure.of_body Tryz.func45 rfl rfl (lb rfl) fun hf => ?_
 unfold Tryz.f45
 dsimp only [enumS, Nat.reduceAdd]
 refine AW.rgs rfl fun K hK => b_op rfl (o_box rfl rfl rfl ?_)
 refine mv rfl rfl ?_
 refine bf hK ⟨[(1, gF p0)], []⟩ ?_
 refine AW.seqJ h (S := Bool) (V := Unit) (fun a v => ⟨[(2, .bool a)], []⟩) (fun a1 w2 h => ?_) (fun k3 h => ?_)
 ·refine AW.ret ?_
  have h := Option.some.inj h
  subst h
  exact ret_pure (hs := [.bool a1]) (.inr rfl) (resT rfl rfl) rfl trivial
 refine AW.rg rfl fun K hK => bv rfl (v_fieldAddrF fo27_1 rfl) (bv rfl (v_loadF ty3 rfl (l_lit rfl rfl)) (bv rfl (v_bin rfl rfl b_gtr) (mv rfl rfl ?_)))
 by_cases hg9 : 8 < p0.2.1
 ·have h := ifT hg9 h
  refine b_T rfl rfl rfl rfl (decide_eq_true hg9) (o_val rfl (v_fieldAddrF fo27_1 rfl) ?_)
  refine b_T rfl rfl rfl rfl rfl (o_val rfl (v_loadF ty3 rfl (l_lit rfl rfl)) ?_)
  refine b_T rfl rfl rfl rfl rfl (o_val rfl (v_bin rfl rfl b_leq) ?_)
  refine bv rfl (v_pickT rfl rfl rfl) (mv rfl rfl ?_)
  by_cases hg6 : p0.2.1 ≤ 64
  ·have h := ifT hg6 h
   refine b_F rfl rfl rfl rfl rfl (decide_eq_true hg6) ?_
   refine b_F rfl rfl rfl rfl rfl rfl ?_
   refine b_F rfl rfl rfl rfl rfl rfl ?_
   refine b_F rfl rfl rfl rfl rfl rfl ?_
   refine b_F rfl rfl rfl rfl rfl rfl ?_
   refine b_U rfl rfl rfl rfl rfl ?_
   refine b_U rfl rfl rfl rfl rfl ?_
   refine b_U rfl rfl rfl rfl rfl ?_
   refine b_U rfl rfl rfl rfl rfl ?_
   refine b_F rfl rfl rfl rfl rfl rfl ?_
   refine bv rfl (v_pickT rfl rfl rfl) (mv rfl rfl ?_)
   refine b_F rfl rfl rfl rfl rfl rfl ?_
   refine b_F rfl rfl rfl rfl rfl rfl ?_
   refine b_F rfl rfl rfl rfl rfl rfl ?_
   refine b_F rfl rfl rfl rfl rfl rfl ?_
   refine bv rfl (v_pickT rfl rfl rfl) (mv rfl rfl ?_)
   refine b_nil (hK _ ?_)
   exact to_L ⟨true, (), h, rfl⟩
  have h := ifF hg6 h
  refine b_T rfl rfl rfl rfl (decide_eq_false hg6) (o_val rfl (v_fieldAddrF fo27_2 rfl) ?_)
  refine b_T rfl rfl rfl rfl rfl (o_val rfl (v_loadF ty25 rfl (l_lit rfl rfl)) ?_)
  refine b_T rfl rfl rfl rfl rfl (o_val rfl (v_lenF rfl rfl ty25 rfl) ?_)
  refine b_T rfl rfl rfl rfl rfl (o_val rfl (v_bin rfl rfl b_gtr) ?_)
  refine b_T rfl rfl rfl rfl rfl (o_val rfl (mv_val rfl rfl).2 ?_)
  by_cases hg5 : 30 < ((p0.2.2).length : Int)
  ·have h := ifT hg5 h
   refine b_T rfl rfl rfl rfl (decide_eq_true hg5) (o_val rfl (v_fieldAddrF fo27_2 rfl) ?_)
   refine b_T rfl rfl rfl rfl rfl (o_val rfl (v_loadF ty25 rfl (l_lit rfl rfl)) ?_)
   refine b_T rfl rfl rfl rfl rfl (o_val rfl (v_lenF rfl rfl ty25 rfl) ?_)
   refine b_T rfl rfl rfl rfl rfl (o_val rfl (v_bin rfl rfl b_leq) ?_)
   refine b_T rfl rfl rfl rfl rfl (o_val rfl (v_pickT rfl rfl rfl) ?_)
   refine bv rfl (v_pickF rfl rfl rfl) (mv rfl rfl ?_)
   by_cases hg4 : ((p0.2.2).length : Int) ≤ 1024
   ·have h := ifT hg4 h
    refine b_F rfl rfl rfl rfl rfl (decide_eq_true hg4) ?_
    refine b_F rfl rfl rfl rfl rfl rfl ?_
    refine b_F rfl rfl rfl rfl rfl rfl ?_
    refine b_F rfl rfl rfl rfl rfl rfl ?_
    refine bv rfl (v_pickT rfl rfl rfl) (mv rfl rfl ?_)
    refine b_nil (hK _ ?_)
    exact to_L ⟨true, (), h, rfl⟩
   have h := ifF hg4 h
   refine b_T rfl rfl rfl rfl (decide_eq_false hg4) (o_val rfl (v_fieldAddrF fo27_2 rfl) ?_)
   refine b_T rfl rfl rfl rfl rfl (o_val rfl (v_loadF ty25 rfl (l_lit rfl rfl)) ?_)
   refine b_T rfl rfl rfl rfl rfl (o_val rfl (v_lenF rfl rfl ty25 rfl) ?_)
   refine b_T rfl rfl rfl rfl rfl (o_val rfl (v_bin rfl rfl b_gtr) ?_)
   refine bv rfl (v_pickF rfl rfl rfl) (mv rfl rfl ?_)
   refine b_nil (hK _ ?_)
   exact to_L ⟨decide (1027 < ((p0.2.2).length : Int)), (), h, rfl⟩
  have h := ifF hg5 h
  refine b_F rfl rfl rfl rfl rfl (decide_eq_false hg5) ?_
  refine b_F rfl rfl rfl rfl rfl rfl ?_
  refine b_F rfl rfl rfl rfl rfl rfl ?_
  refine b_F rfl rfl rfl rfl rfl rfl ?_
  refine b_T rfl rfl rfl rfl rfl (o_val rfl (v_pickF rfl rfl rfl) ?_)
  refine bv rfl (v_pickF rfl rfl rfl) (mv rfl rfl ?_)
  refine b_T rfl rfl rfl rfl rfl (o_val rfl (v_fieldAddrF fo27_2 rfl) ?_)
  refine b_T rfl rfl rfl rfl rfl (o_val rfl (v_loadF ty25 rfl (l_lit rfl rfl)) ?_)
  refine b_T rfl rfl rfl rfl rfl (o_val rfl (v_lenF rfl rfl ty25 rfl) ?_)
  refine b_T rfl rfl rfl rfl rfl (o_val rfl (v_bin rfl rfl b_gtr) ?_)
  refine bv rfl (v_pickF rfl rfl rfl) (mv rfl rfl ?_)
  refine b_nil (hK _ ?_)
  exact to_L ⟨decide (1027 < ((p0.2.2).length : Int)), (), h, rfl⟩
 have h := ifF hg9 h
 refine b_F rfl rfl rfl rfl rfl (decide_eq_false hg9) ?_
 refine b_F rfl rfl rfl rfl rfl rfl ?_
 refine b_F rfl rfl rfl rfl rfl rfl ?_
 refine bv rfl (v_pickF rfl rfl rfl) (mv rfl rfl ?_)
 refine b_T rfl rfl rfl rfl rfl (o_val rfl (v_fieldAddrF fo27_2 rfl) ?_)
 refine b_T rfl rfl rfl rfl rfl (o_val rfl (v_loadF ty25 rfl (l_lit rfl rfl)) ?_)
 refine b_T rfl rfl rfl rfl rfl (o_val rfl (v_lenF rfl rfl ty25 rfl) ?_)
 refine b_T rfl rfl rfl rfl rfl (o_val rfl (v_bin rfl rfl b_gtr) ?_)
 refine b_T rfl rfl rfl rfl rfl (o_val rfl (mv_val rfl rfl).2 ?_)
 by_cases hg8 : 30 < ((p0.2.2).length : Int)
 ·have h := ifT hg8 h
  refine b_T rfl rfl rfl rfl (decide_eq_true hg8) (o_val rfl (v_fieldAddrF fo27_2 rfl) ?_)
  refine b_T rfl rfl rfl rfl rfl (o_val rfl (v_loadF ty25 rfl (l_lit rfl rfl)) ?_)
  refine b_T rfl rfl rfl rfl rfl (o_val rfl (v_lenF rfl rfl ty25 rfl) ?_)
  refine b_T rfl rfl rfl rfl rfl (o_val rfl (v_bin rfl rfl b_leq) ?_)
  refine b_T rfl rfl rfl rfl rfl (o_val rfl (v_pickT rfl rfl rfl) ?_)
  refine bv rfl (v_pickF rfl rfl rfl) (mv rfl rfl ?_)
  by_cases hg7 : ((p0.2.2).length : Int) ≤ 1024
  ·have h := ifT hg7 h
   refine b_F rfl rfl rfl rfl rfl (decide_eq_true hg7) ?_
   refine b_F rfl rfl rfl rfl rfl rfl ?_
   refine b_F rfl rfl rfl rfl rfl rfl ?_
   refine b_F rfl rfl rfl rfl rfl rfl ?_
   refine bv rfl (v_pickT rfl rfl rfl) (mv rfl rfl ?_)
   refine b_nil (hK _ ?_)
   exact to_L ⟨true, (), h, rfl⟩
  have h := ifF hg7 h
  refine b_T rfl rfl rfl rfl (decide_eq_false hg7) (o_val rfl (v_fieldAddrF fo27_2 rfl) ?_)
  refine b_T rfl rfl rfl rfl rfl (o_val rfl (v_loadF ty25 rfl (l_lit rfl rfl)) ?_)
  refine b_T rfl rfl rfl rfl rfl (o_val rfl (v_lenF rfl rfl ty25 rfl) ?_)
  refine b_T rfl rfl rfl rfl rfl (o_val rfl (v_bin rfl rfl b_gtr) ?_)
  refine bv rfl (v_pickF rfl rfl rfl) (mv rfl rfl ?_)
  refine b_nil (hK _ ?_)
  exact to_L ⟨decide (1027 < ((p0.2.2).length : Int)), (), h, rfl⟩
 have h := ifF hg8 h
 refine b_F rfl rfl rfl rfl rfl (decide_eq_false hg8) ?_
 refine b_F rfl rfl rfl rfl rfl rfl ?_
 refine b_F rfl rfl rfl rfl rfl rfl ?_
 refine b_F rfl rfl rfl rfl rfl rfl ?_
 refine b_T rfl rfl rfl rfl rfl (o_val rfl (v_pickF rfl rfl rfl) ?_)
 refine bv rfl (v_pickF rfl rfl rfl) (mv rfl rfl ?_)
 refine b_T rfl rfl rfl rfl rfl (o_val rfl (v_fieldAddrF fo27_2 rfl) ?_)
 refine b_T rfl rfl rfl rfl rfl (o_val rfl (v_loadF ty25 rfl (l_lit rfl rfl)) ?_)
 refine b_T rfl rfl rfl rfl rfl (o_val rfl (v_lenF rfl rfl ty25 rfl) ?_)
 refine b_T rfl rfl rfl rfl rfl (o_val rfl (v_bin rfl rfl b_gtr) ?_)
 refine bv rfl (v_pickF rfl rfl rfl) (mv rfl rfl ?_)
 refine b_nil (hK _ ?_)
 exact to_L ⟨decide (1027 < ((p0.2.2).length : Int)), (), h, rfl⟩
theorem w_law31_great {p0 : TWordsMerges} {p1 : TLabelsStatesEdges} {r : Bool} (h : m_law31_great p0 p1 = some r) : Pure Tryz.prog 29 [jA p0, gA p1] (· = HV.bool r) := by
 unfold m_law31_great at h
 refine Pure.of_body Tryz.func29 rfl rfl (lb rfl) fun hf => ?_
 unfold Tryz.f29
 dsimp only [enumS, Nat.reduceAdd]
 refine AW.rgs rfl fun K hK => b_op rfl (o_box rfl rfl rfl ?_)
 refine b_op rfl (o_box rfl rfl rfl ?_)
 refine mv rfl rfl ?_
 refine bf hK ⟨[(2, jF p0), (3, gF p1)], []⟩ ?_
 refine AW.seqJ h (S := Bool) (V := Unit) (fun a v => ⟨[(4, .bool a)], []⟩) (fun a1 w2 h => ?_) (fun k3 h => ?_)
 ·refine AW.ret ?_
  have h := Option.some.inj h
  subst h
  exact ret_pure (hs := [.bool a1]) (.inr rfl) (resT rfl rfl) rfl trivial
 refine AW.rg rfl fun K hK => bv rfl (v_loadF ty24 rfl (l_litA rfl (lb rfl) rfl)) ?_
 obtain ⟨x4, h5, h⟩ := bS h
 refine b_op rfl (o_call rfl rfl rfl rfl (ACallD.pure0 (w_ref31_Great h5)) ?_)
 refine mv rfl rfl ?_
 by_cases hg8 : x4 = true
 ·have h := ifT hg8 h
  refine b_F rfl rfl rfl rfl rfl hg8 ?_
  refine b_F rfl rfl rfl rfl rfl rfl ?_
  refine bv rfl (v_pickT rfl rfl rfl) (mv rfl rfl ?_)
  refine b_nil (hK _ ?_)
  exact to_L ⟨true, (), h, rfl⟩
 have h := ifF hg8 h
 refine b_T rfl rfl rfl rfl (bF hg8) (o_val rfl (v_loadF ty27 rfl (l_litA rfl (lb rfl) rfl)) ?_)
 obtain ⟨x6, h7, h⟩ := bS h
 refine b_T rfl rfl rfl rfl rfl (o_call rfl rfl rfl rfl (ACallD.pure0 (w_ref11_Great h7)) ?_)
 refine bv rfl (v_pickF rfl rfl rfl) (mv rfl rfl ?_)
 refine b_nil (hK _ ?_)
 exact to_L ⟨x6, (), h, rfl⟩
theorem w_ref11_All {p0 : TLabelsStatesEdges} {r : (List (Int))} (h : m_ref11_All p0 = some r) : Pure Tryz.prog 153 [gA p0] (· = slE eInt r) := by
 unfold m_ref11_All at h
 refine Pure.of_body Tryz.func153 rfl rfl (lb rfl) fun hf => ?_
 unfold Tryz.f153
 dsimp only [enumS, Nat.reduceAdd]
 refine AW.rgs rfl fun K hK => b_op rfl (o_box rfl rfl rfl ?_)
 refine mv rfl rfl ?_
 refine bf hK ⟨[(1, gF p0)], []⟩ ?_
 refine AW.rgs rfl fun K hK => b_op rfl (o_bslM (fid := 153) 153005 rfl rfl rfl (as_of (cs := []) ty31 ty3 rfl rfl rfl rfl rfl) (fun v1 => ?_))
 refine mv rfl rfl ?_
 refine bf hK ⟨[(1, gF p0), (3, .ar 153005 v1 eInt.k 0 0)], [(153005, v1, .arr eInt.k 3 [])]⟩ ?_
 refine AW.seq ?_
 refine AW.rgs rfl fun K hK => mv rfl rfl ?_
 refine bf hK ⟨[(1, gF p0), (3, .ar 153005 v1 eInt.k 0 0), (4, hI 0)], [(153005, v1, .arr eInt.k 3 [])]⟩ ?_
 refine AW.lpX h (by first | exact up_then | exact up_to) (S := Int × (List Int)) (V := Nat) (fun a v => ⟨[(1, gF p0), (3, .ar 153005 v eInt.k 0 ((a.2).length)), (4, hI a.1)], [(153005, v, .arr eInt.k 3 (eInt.E a.2))]⟩) ?_ (X := (List Int)) (W := Nat) (fun a v => ⟨[(3, .ar 153005 v eInt.k 0 ((a).length))], [(153005, v, .arr eInt.k 3 (eInt.E a))]⟩) (fun a8 w9 h => ?_) (fun a2 w3 st4 h => ?_)
 ·exact to_L ⟨v1, rfl⟩
 ·refine AW.rgs rfl fun K hK => mv rfl rfl (mv rfl rfl ?_)
  refine bf hK ⟨[(2, .ar 153005 w9 eInt.k 0 ((a8).length))], [(153005, w9, .arr eInt.k 3 (eInt.E a8))]⟩ ?_
  refine AW.to (to_frz 2 [(153005, w9, .arr eInt.k 3 (eInt.E a8))] ⟨[(2, slE eInt a8)], []⟩ ⟨⟨_, rfl, frz_slE eInt (l := a8) rfl fun _ _ => rfl⟩, trivial⟩ trivial ⟨rfl, trivial⟩ ⟨rfl, trivial⟩ ?_)
  refine AW.ret ?_
  have h := Option.some.inj h
  subst h
  exact ret_pure (hs := [slE eInt a8]) (.inr rfl) (resT rfl rfl) rfl (clean_slE fun _ _ => ⟨trivial, trivial⟩)
 refine AW.seq ?_
 refine AW.rgs rfl fun K hK => mv rfl rfl (bv rfl (v_fieldAddrF fo27_1 rfl) (bv rfl (v_loadF ty3 rfl (l_lit rfl rfl)) (bv rfl (v_bin rfl rfl b_lss) ?_)))
 refine bf hK ⟨[(1, gF p0), (3, .ar 153005 w3 eInt.k 0 ((a2.2).length)), (4, hI a2.1), (9, .bool (decide (a2.1 < p0.2.1)))], [(153005, w3, .arr eInt.k 3 (eInt.E a2.2))]⟩ ?_
 refine AW.cond rfl (fun hc => ?_) (fun hc => ?_)
 ·obtain ⟨hc, h⟩ := cT hc h
  refine AW.skip ?_
  refine AW.seq (AW.block ?_)
  refine AW.rg rfl fun K hK => mv rfl rfl (mv rfl rfl ?_)
  refine b_op rfl (o_bsl rfl rfl (as_of (cs := [hI a2.1]) ty31 ty3 rfl rfl rfl rfl rfl) ?_)
  obtain ⟨h7, h⟩ := ifN h
  refine b_op rfl (o_appE eInt (l := a2.2) (m := [a2.1]) rfl rfl ty31 ty31 ty3 rfl rfl rfl rfl rfl h7 (fun v6 => ?_))
  refine mv rfl rfl ?_
  refine bf hK ⟨[(1, gF p0), (3, .ar 153005 v6 eInt.k 0 ((a2.2 ++ [a2.1]).length)), (4, hI a2.1)], [(153005, v6, .arr eInt.k 3 (eInt.E (a2.2 ++ [a2.1])))]⟩ ?_
  refine AW.rg rfl fun K hK => mv rfl rfl (bv rfl (v_bin rfl rfl b_add) (mv rfl rfl ?_))
  refine b_nil (hK _ ?_)
  exact to_L ⟨(IntKind.wrap .i64 (a2.1 + 1), a2.2 ++ [a2.1]), v6, h, rfl⟩
 obtain ⟨hc, h⟩ := cF hc h
 refine AW.exit ?_
 exact to_L ⟨a2.2, w3, h, rfl⟩
theorem w_ref07_Digit {p0 : Int} {r : Int} (h : m_ref07_Digit p0 = some r) : Pure Tryz.prog 204 [.int .u8 p0] (· = hI r) := by
 unfold m_ref07_Digit at h
 refine Pure.of_body Tryz.func204 rfl rfl (lb rfl) fun hf => ?_
 unfold Tryz.f204
 dsimp only [enumS, Nat.reduceAdd]
 refine AW.rgs rfl fun K hK => mv rfl rfl ?_
 refine bf hK ⟨[(0, .int .u8 p0)], []⟩ ?_
 refine AW.seq ?_
 refine AW.rgs rfl fun K hK => mv rfl rfl ?_
 refine bf hK ⟨[(0, .int .u8 p0), (3, hI 0)], []⟩ ?_
 refine AW.lpR h (by first | exact up_then | exact up_to) (S := Int) (V := Unit) (fun a v => ⟨[(0, .int .u8 p0), (3, hI a)], []⟩) ?_ (X := Unit) (W := Unit) (fun a v => ⟨[], []⟩) (fun a7 w8 h => ?_) (fun a1 w2 st3 h hr4=> ?_)
 ·exact to_L ⟨(), rfl⟩
 ·refine AW.rgs rfl fun K hK => mv rfl rfl ?_
  refine bf hK ⟨[(2, hI (-1))], []⟩ ?_
  refine AW.ret ?_
  have h := Option.some.inj h
  subst h
  exact ret_pure (hs := [hI (-1)]) (.inr rfl) (resT rfl rfl) rfl trivial
 refine AW.seq ?_
 refine AW.rgs rfl fun K hK => mv rfl rfl (bv rfl (v_bin rfl rfl b_lss) ?_)
 refine bf hK ⟨[(0, .int .u8 p0), (3, hI a1), (5, .bool (decide (a1 < 16)))], []⟩ ?_
 refine AW.cond rfl (fun hc => ?_) (fun hc => ?_)
 ·obtain ⟨hc, h⟩ := cT hc h
  refine AW.skip ?_
  refine AW.seq (AW.block ?_)
  refine AW.rgs rfl fun K hK => mv rfl rfl ?_
  obtain ⟨x5, h6, h⟩ := bS h
  refine bv rfl (v_idxS ty9 rfl rfl h6) (mv rfl rfl (bv rfl (v_bin rfl rfl b_eql) ?_))
  refine bf hK ⟨[(0, .int .u8 p0), (3, hI a1), (11, .bool (decide ((x5.toNat : Int) = p0)))], []⟩ ?_
  refine AW.cond rfl (fun hc => ?_) (fun hc => ?_)
  ·obtain ⟨hc, h⟩ := cT hc h
   refine AW.rgs rfl fun K hK => mv rfl rfl (mv rfl rfl ?_)
   refine bf hK ⟨[(2, hI a1)], []⟩ ?_
   have h := hr4 _ h
   refine AW.ret ?_
   have h := Option.some.inj h
   subst h
   exact ret_pure (hs := [hI a1]) (.inr rfl) (resT rfl rfl) rfl trivial
  obtain ⟨hc, h⟩ := cF hc h
  refine AW.skip ?_
  refine AW.rg rfl fun K hK => mv rfl rfl (bv rfl (v_bin rfl rfl b_add) (mv rfl rfl ?_))
  refine b_nil (hK _ ?_)
  exact to_L ⟨IntKind.wrap .i64 (a1 + 1), (), h, rfl⟩
 obtain ⟨hc, h⟩ := cF hc h
 refine AW.exit ?_
 exact to_L ⟨(), (), h, rfl⟩
theorem w_ref07_Check {p0 : Int} {p1 : List UInt8} {r : Int} (h : m_ref07_Check p0 p1 = some r) : Pure Tryz.prog 181 [hI p0, .str p1] (· = hI r) := by
 unfold m_ref07_Check at h
 refine Pure.of_body Tryz.func181 rfl rfl (lb rfl) fun hf => ?_
 unfold Tryz.f181
 dsimp only [enumS, Nat.reduceAdd]
 refine AW.rgs rfl fun K hK => mv rfl rfl ?_
 refine bf hK ⟨[(0, hI p0), (1, .str p1)], []⟩ ?_
 refine AW.seq ?_
 refine AW.seqJ h (S := Bool) (V := Unit) (fun a v => ⟨[(0, hI p0), (1, .str p1), (12, .bool a)], []⟩) (fun a1 w2 h => ?_) (fun k3 h => ?_)
 ·refine AW.cond rfl (fun hc => ?_) (fun hc => ?_)
  ·have h := ifT hc h
   refine AW.rgs rfl fun K hK => mv rfl rfl ?_
   refine bf hK ⟨[(4, hI 12)], []⟩ ?_
   refine AW.ret ?_
   have h := Option.some.inj h
   subst h
   exact ret_pure (hs := [hI 12]) (.inr rfl) (resT rfl rfl) rfl trivial
  have h := ifF (bF' hc) h
  refine AW.skip ?_
  refine AW.seq ?_
  refine AW.rgs rfl fun K hK => mv rfl rfl (bv rfl (v_lenS rfl rfl ty9 rfl) (bv rfl (v_bin rfl rfl b_gtr) ?_))
  refine bf hK ⟨[(0, hI p0), (1, .str p1), (15, .bool (decide (65536 < ((p1).length : Int))))], []⟩ ?_
  refine AW.cond rfl (fun hc => ?_) (fun hc => ?_)
  ·obtain ⟨hc, h⟩ := cT hc h
   refine AW.rgs rfl fun K hK => mv rfl rfl ?_
   refine bf hK ⟨[(4, hI 4)], []⟩ ?_
   refine AW.ret ?_
   have h := Option.some.inj h
   subst h
   exact ret_pure (hs := [hI 4]) (.inr rfl) (resT rfl rfl) rfl trivial
  obtain ⟨hc, h⟩ := cF hc h
  refine AW.skip ?_
  refine AW.seq ?_
  refine AW.rgs rfl fun K hK => mv rfl rfl ?_
  refine bf hK ⟨[(0, hI p0), (1, .str p1), (5, hI 0)], []⟩ ?_
  refine AW.lpR h (by first | exact up_then | exact up_to) (S := Int) (V := Unit) (fun a v => ⟨[(0, hI p0), (1, .str p1), (5, hI a)], []⟩) ?_ (X := Unit) (W := Unit) (fun a v => ⟨[], []⟩) (fun a16 w17 h => ?_) (fun a4 w5 st6 h hr7=> ?_)
  ·exact to_L ⟨(), rfl⟩
  ·refine AW.rgs rfl fun K hK => mv rfl rfl ?_
   refine bf hK ⟨[(4, hI 0)], []⟩ ?_
   refine AW.ret ?_
   have h := Option.some.inj h
   subst h
   exact ret_pure (hs := [hI 0]) (.inr rfl) (resT rfl rfl) rfl trivial
  refine AW.seq ?_
  refine AW.rgs rfl fun K hK => mv rfl rfl (mv rfl rfl (bv rfl (v_lenS rfl rfl ty9 rfl) (bv rfl (v_bin rfl rfl b_lss) ?_)))
  refine bf hK ⟨[(0, hI p0), (1, .str p1), (5, hI a4), (19, .bool (decide (a4 < ((p1).length : Int))))], []⟩ ?_
  refine AW.cond rfl (fun hc => ?_) (fun hc => ?_)
  ·obtain ⟨hc, h⟩ := cT hc h
   refine AW.skip ?_
   refine AW.seq (AW.block ?_)
   refine AW.rgs rfl fun K hK => mv rfl rfl (mv rfl rfl ?_)
   obtain ⟨x8, h9, h⟩ := bS h
   refine bv rfl (v_idxS ty9 rfl rfl h9) ?_
   obtain ⟨x10, h11, h⟩ := bS h
   refine b_op rfl (o_call rfl rfl rfl rfl (ACallD.pure0 (w_ref07_Digit h11)) ?_)
   refine mv rfl rfl ?_
   refine bf hK ⟨[(0, hI p0), (1, .str p1), (5, hI a4), (6, hI x10)], []⟩ ?_
   refine AW.seqJ h (S := Bool) (V := Unit) (fun a v => ⟨[(0, hI p0), (1, .str p1), (5, hI a4), (32, .bool a)], []⟩) (fun a12 w13 h => ?_) (fun k14 h => ?_)
   ·refine AW.cond rfl (fun hc => ?_) (fun hc => ?_)
    ·have h := ifT hc h
     refine AW.rgs rfl fun K hK => mv rfl rfl ?_
     refine bf hK ⟨[(4, hI 13)], []⟩ ?_
     have h := hr7 _ h
     refine AW.ret ?_
     have h := Option.some.inj h
     subst h
     exact ret_pure (hs := [hI 13]) (.inr rfl) (resT rfl rfl) rfl trivial
    have h := ifF (bF' hc) h
    refine AW.skip ?_
    refine AW.rg rfl fun K hK => mv rfl rfl (bv rfl (v_bin rfl rfl b_add) (mv rfl rfl ?_))
    refine b_nil (hK _ ?_)
    exact to_L ⟨IntKind.wrap .i64 (a4 + 1), (), h, rfl⟩
   refine AW.rg rfl fun K hK => mv rfl rfl (bv rfl (v_bin rfl rfl b_lss) (mv rfl rfl ?_))
   by_cases hg15 : x10 < 0
   ·have h := ifT hg15 h
    refine b_F rfl rfl rfl rfl rfl (decide_eq_true hg15) ?_
    refine b_F rfl rfl rfl rfl rfl rfl ?_
    refine b_F rfl rfl rfl rfl rfl rfl ?_
    refine bv rfl (v_pickT rfl rfl rfl) ?_
    refine b_nil (hK _ ?_)
    exact to_L ⟨true, (), h, rfl⟩
   have h := ifF hg15 h
   refine b_T rfl rfl rfl rfl (decide_eq_false hg15) (o_val rfl (mv_val rfl rfl).2 ?_)
   refine b_T rfl rfl rfl rfl rfl (o_val rfl (mv_val rfl rfl).2 ?_)
   refine b_T rfl rfl rfl rfl rfl (o_val rfl (v_bin rfl rfl b_geq) ?_)
   refine bv rfl (v_pickF rfl rfl rfl) ?_
   refine b_nil (hK _ ?_)
   exact to_L ⟨decide (p0 ≤ x10), (), h, rfl⟩
  obtain ⟨hc, h⟩ := cF hc h
  refine AW.exit ?_
  exact to_L ⟨(), (), h, rfl⟩
 refine AW.rg rfl fun K hK => mv rfl rfl (bv rfl (v_bin rfl rfl b_lss) (mv rfl rfl ?_))
 by_cases hg18 : p0 < 1
 ·have h := ifT hg18 h
  refine b_F rfl rfl rfl rfl rfl (decide_eq_true hg18) ?_
  refine b_F rfl rfl rfl rfl rfl rfl ?_
  refine bv rfl (v_pickT rfl rfl rfl) ?_
  refine b_nil (hK _ ?_)
  exact to_L ⟨true, (), h, rfl⟩
 have h := ifF hg18 h
 refine b_T rfl rfl rfl rfl (decide_eq_false hg18) (o_val rfl (mv_val rfl rfl).2 ?_)
 refine b_T rfl rfl rfl rfl rfl (o_val rfl (v_bin rfl rfl b_gtr) ?_)
 refine bv rfl (v_pickF rfl rfl rfl) ?_
 refine b_nil (hK _ ?_)
 exact to_L ⟨decide (16 < p0), (), h, rfl⟩
theorem w_ref09_Compare {p0 : TFromLabelTo} {p1 : TFromLabelTo} {r : Int} (h : m_ref09_Compare p0 p1 = some r) : Pure Tryz.prog 137 [.agg [hI p0.1, hI p0.2.1, hI p0.2.2], .agg [hI p1.1, hI p1.2.1, hI p1.2.2]] (· = hI r) := by
 unfold m_ref09_Compare at h
 refine Pure.of_body Tryz.func137 rfl rfl (lb rfl) fun hf => ?_
 unfold Tryz.f137
 dsimp only [enumS, Nat.reduceAdd]
 refine AW.rgs rfl fun K hK => b_op rfl (o_box rfl rfl rfl ?_)
 refine b_op rfl (o_box rfl rfl rfl ?_)
 refine mv rfl rfl ?_
 refine bf hK ⟨[(2, .fptr [hI p0.1, hI p0.2.1, hI p0.2.2] 0), (3, .fptr [hI p1.1, hI p1.2.1, hI p1.2.2] 0)], []⟩ ?_
 refine AW.dgs 16 follows rfl rfl fun K hK => ?_
 refine sv rfl (v_fieldAddrF fo128_0 rfl) ?_
 refine sv rfl (v_loadF ty3 rfl (l_lit rfl rfl)) ?_
 refine sv rfl (v_fieldAddrF fo128_1 rfl) ?_
 refine sv rfl (v_loadF ty3 rfl (l_lit rfl rfl)) ?_
 refine sv rfl (v_fieldAddrF fo128_2 rfl) ?_
 refine sv rfl (v_loadF ty3 rfl (l_lit rfl rfl)) ?_
 refine s_op rfl rfl (ops_bsl rfl rfl (as_of (cs := [hI p0.1, hI p0.2.1, hI p0.2.2]) ty31 ty3 rfl rfl rfl rfl rfl) ?_)
 refine sv rfl (v_fieldAddrF fo128_0 rfl) ?_
 refine sv rfl (v_loadF ty3 rfl (l_lit rfl rfl)) ?_
 refine sv rfl (v_fieldAddrF fo128_1 rfl) ?_
 refine sv rfl (v_loadF ty3 rfl (l_lit rfl rfl)) ?_
 refine sv rfl (v_fieldAddrF fo128_2 rfl) ?_
 refine sv rfl (v_loadF ty3 rfl (l_lit rfl rfl)) ?_
 refine s_op rfl rfl (ops_bsl rfl rfl (as_of (cs := [hI p1.1, hI p1.2.1, hI p1.2.2]) ty31 ty3 rfl rfl rfl rfl rfl) ?_)
 refine sm rfl rfl ?_
 refine sm rfl rfl ?_
 refine s_nil ?_
 refine bf hK ⟨[(5, slE eInt [p0.1, p0.2.1, p0.2.2]), (6, slE eInt [p1.1, p1.2.1, p1.2.2])], []⟩ ?_
 refine AW.seq ?_
 refine AW.rgs rfl fun K hK => mv rfl rfl ?_
 refine bf hK ⟨[(5, slE eInt [p0.1, p0.2.1, p0.2.2]), (6, slE eInt [p1.1, p1.2.1, p1.2.2]), (7, hI 0)], []⟩ ?_
 refine AW.lpR h (by first | exact up_then | exact up_to) (S := Int) (V := Unit) (fun a v => ⟨[(5, slE eInt [p0.1, p0.2.1, p0.2.2]), (6, slE eInt [p1.1, p1.2.1, p1.2.2]), (7, hI a)], []⟩) ?_ (X := Unit) (W := Unit) (fun a v => ⟨[], []⟩) (fun a13 w14 h => ?_) (fun a1 w2 st3 h hr4=> ?_)
 ·exact to_L ⟨(), rfl⟩
 ·refine AW.rgs rfl fun K hK => mv rfl rfl ?_
  refine bf hK ⟨[(4, hI 0)], []⟩ ?_
  refine AW.ret ?_
  have h := Option.some.inj h
  subst h
  exact ret_pure (hs := [hI 0]) (.inr rfl) (resT rfl rfl) rfl trivial
 refine AW.seq ?_
 refine AW.rgs rfl fun K hK => mv rfl rfl (bv rfl (v_bin rfl rfl b_lss) ?_)
 refine bf hK ⟨[(5, slE eInt [p0.1, p0.2.1, p0.2.2]), (6, slE eInt [p1.1, p1.2.1, p1.2.2]), (7, hI a1), (23, .bool (decide (a1 < 3)))], []⟩ ?_
 refine AW.cond rfl (fun hc => ?_) (fun hc => ?_)
 ·obtain ⟨hc, h⟩ := cT hc h
  refine AW.skip ?_
  refine AW.seq (AW.block ?_)
  refine AW.seq ?_
  refine AW.dgs 9 follows rfl rfl fun K hK => ?_
  refine sm rfl rfl ?_
  refine sm rfl rfl ?_
  obtain ⟨x5, h6, h⟩ := bS h
  refine sv rfl (v_idxF ty31 es31 rfl rfl (idx_lt h6)) ?_
  refine sv rfl (v_loadF ty3 rfl (l_cell eInt h6 (o := 0) rfl rfl)) ?_
  refine sm rfl rfl ?_
  refine sm rfl rfl ?_
  obtain ⟨x7, h8, h⟩ := bS h
  refine sv rfl (v_idxF ty31 es31 rfl rfl (idx_lt h8)) ?_
  refine sv rfl (v_loadF ty3 rfl (l_cell eInt h8 (o := 0) rfl rfl)) ?_
  refine sv rfl (v_bin rfl rfl b_lss) ?_
  refine s_nil ?_
  refine bf hK ⟨[(5, slE eInt [p0.1, p0.2.1, p0.2.2]), (6, slE eInt [p1.1, p1.2.1, p1.2.2]), (7, hI a1), (34, .bool (decide (x5 < x7)))], []⟩ ?_
  refine AW.cond rfl (fun hc => ?_) (fun hc => ?_)
  ·obtain ⟨hc, h⟩ := cT hc h
   refine AW.rgs rfl fun K hK => mv rfl rfl ?_
   refine bf hK ⟨[(4, hI (-1))], []⟩ ?_
   have h := hr4 _ h
   refine AW.ret ?_
   have h := Option.some.inj h
   subst h
   exact ret_pure (hs := [hI (-1)]) (.inr rfl) (resT rfl rfl) rfl trivial
  obtain ⟨hc, h⟩ := cF hc h
  refine AW.skip ?_
  refine AW.dgs 9 follows rfl rfl fun K hK => ?_
  refine sm rfl rfl ?_
  refine sm rfl rfl ?_
  obtain ⟨x9, h10, h⟩ := bS h
  refine sv rfl (v_idxF ty31 es31 rfl rfl (idx_lt h10)) ?_
  refine sv rfl (v_loadF ty3 rfl (l_cell eInt h10 (o := 0) rfl rfl)) ?_
  refine sm rfl rfl ?_
  refine sm rfl rfl ?_
  obtain ⟨x11, h12, h⟩ := bS h
  refine sv rfl (v_idxF ty31 es31 rfl rfl (idx_lt h12)) ?_
  refine sv rfl (v_loadF ty3 rfl (l_cell eInt h12 (o := 0) rfl rfl)) ?_
  refine sv rfl (v_bin rfl rfl b_gtr) ?_
  refine s_nil ?_
  refine bf hK ⟨[(5, slE eInt [p0.1, p0.2.1, p0.2.2]), (6, slE eInt [p1.1, p1.2.1, p1.2.2]), (7, hI a1), (43, .bool (decide (x11 < x9)))], []⟩ ?_
  refine AW.cond rfl (fun hc => ?_) (fun hc => ?_)
  ·obtain ⟨hc, h⟩ := cT hc h
   refine AW.rgs rfl fun K hK => mv rfl rfl ?_
   refine bf hK ⟨[(4, hI 1)], []⟩ ?_
   have h := hr4 _ h
   refine AW.ret ?_
   have h := Option.some.inj h
   subst h
   exact ret_pure (hs := [hI 1]) (.inr rfl) (resT rfl rfl) rfl trivial
  obtain ⟨hc, h⟩ := cF hc h
  refine AW.skip ?_
  refine AW.rg rfl fun K hK => mv rfl rfl (bv rfl (v_bin rfl rfl b_add) (mv rfl rfl ?_))
  refine b_nil (hK _ ?_)
  exact to_L ⟨IntKind.wrap .i64 (a1 + 1), (), h, rfl⟩
 obtain ⟨hc, h⟩ := cF hc h
 refine AW.exit ?_
 exact to_L ⟨(), (), h, rfl⟩
theorem w_ref09_Check {p0 : TLabelsStatesEdges} {r : Int} (h : m_ref09_Check p0 = some r) : Pure Tryz.prog 87 [gA p0] (· = hI r) := by
 unfold m_ref09_Check at h
 refine Pure.of_body Tryz.func87 rfl rfl (lb rfl) fun hf => ?_
 unfold Tryz.f87
 dsimp only [enumS, Nat.reduceAdd]
 refine AW.rgs rfl fun K hK => b_op rfl (o_box rfl rfl rfl ?_)
 refine mv rfl rfl ?_
 refine bf hK ⟨[(1, gF p0)], []⟩ ?_
 refine AW.seq ?_
 refine AW.seqJ h (S := Bool) (V := Unit) (fun a v => ⟨[(1, gF p0), (12, .bool a)], []⟩) (fun a1 w2 h => ?_) (fun k3 h => ?_)
 ·refine AW.cond rfl (fun hc => ?_) (fun hc => ?_)
  ·have h := ifT hc h
   refine AW.rgs rfl fun K hK => mv rfl rfl ?_
   refine bf hK ⟨[(2, hI 12)], []⟩ ?_
   refine AW.ret ?_
   have h := Option.some.inj h
   subst h
   exact ret_pure (hs := [hI 12]) (.inr rfl) (resT rfl rfl) rfl trivial
  have h := ifF (bF' hc) h
  refine AW.skip ?_
  refine AW.seq ?_
  refine AW.rgs rfl fun K hK => bv rfl (v_fieldAddrF fo27_1 rfl) (bv rfl (v_loadF ty3 rfl (l_lit rfl rfl)) (bv rfl (v_bin rfl rfl b_lss) ?_))
  refine bf hK ⟨[(1, gF p0), (15, .bool (decide (p0.2.1 < 0)))], []⟩ ?_
  refine AW.cond rfl (fun hc => ?_) (fun hc => ?_)
  ·obtain ⟨hc, h⟩ := cT hc h
   refine AW.rgs rfl fun K hK => mv rfl rfl ?_
   refine bf hK ⟨[(2, hI 2)], []⟩ ?_
   refine AW.ret ?_
   have h := Option.some.inj h
   subst h
   exact ret_pure (hs := [hI 2]) (.inr rfl) (resT rfl rfl) rfl trivial
  obtain ⟨hc, h⟩ := cF hc h
  refine AW.skip ?_
  refine AW.seq ?_
  refine AW.seqJ h (S := Bool) (V := Unit) (fun a v => ⟨[(1, gF p0), (24, .bool a)], []⟩) (fun a4 w5 h => ?_) (fun k6 h => ?_)
  ·refine AW.cond rfl (fun hc => ?_) (fun hc => ?_)
   ·have h := ifT hc h
    refine AW.rgs rfl fun K hK => mv rfl rfl ?_
    refine bf hK ⟨[(2, hI 4)], []⟩ ?_
    refine AW.ret ?_
    have h := Option.some.inj h
    subst h
    exact ret_pure (hs := [hI 4]) (.inr rfl) (resT rfl rfl) rfl trivial
   have h := ifF (bF' hc) h
   refine AW.skip ?_
   refine AW.seq ?_
   refine AW.rgs rfl fun K hK => mv rfl rfl ?_
   refine bf hK ⟨[(1, gF p0), (3, hI 0)], []⟩ ?_
   refine AW.lpR h (by first | exact up_then | exact up_to) (S := Int) (V := Unit) (fun a v => ⟨[(1, gF p0), (3, hI a)], []⟩) ?_ (X := Unit) (W := Unit) (fun a v => ⟨[], []⟩) (fun a30 w31 h => ?_) (fun a7 w8 st9 h hr10=> ?_)
   ·exact to_L ⟨(), rfl⟩
   ·refine AW.rgs rfl fun K hK => mv rfl rfl ?_
    refine bf hK ⟨[(2, hI 0)], []⟩ ?_
    refine AW.ret ?_
    have h := Option.some.inj h
    subst h
    exact ret_pure (hs := [hI 0]) (.inr rfl) (resT rfl rfl) rfl trivial
   refine AW.seq ?_
   refine AW.rgs rfl fun K hK => mv rfl rfl (bv rfl (v_fieldAddrF fo27_2 rfl) (bv rfl (v_loadF ty25 rfl (l_lit rfl rfl)) (bv rfl (v_lenF rfl rfl ty25 rfl) (bv rfl (v_bin rfl rfl b_lss) ?_))))
   refine bf hK ⟨[(1, gF p0), (3, hI a7), (29, .bool (decide (a7 < ((p0.2.2).length : Int))))], []⟩ ?_
   refine AW.cond rfl (fun hc => ?_) (fun hc => ?_)
   ·obtain ⟨hc, h⟩ := cT hc h
    refine AW.skip ?_
    refine AW.seq (AW.block ?_)
    refine AW.rgs rfl fun K hK => bv rfl (v_fieldAddrF fo27_2 rfl) (bv rfl (v_loadF ty25 rfl (l_lit rfl rfl)) (mv rfl rfl ?_))
    obtain ⟨x11, h12, h⟩ := bS h
    refine bv rfl (v_idxF ty25 es25 rfl rfl (idx_lt h12)) (bv rfl (v_loadF ty128 rfl (l_agg eFromLabelTo h12 rfl rfl)) ?_)
    refine b_op rfl (o_alloc (fid := 87) (zs := [hI 0, hI 0, hI 0]) 87004 rfl rfl ty128 rfl (fun v13 => ?_))
    refine b_op rfl (o_store (cs := [hI x11.1, hI x11.2.1, hI x11.2.2]) (zs := [hI x11.1, hI x11.2.1, hI x11.2.2]) rfl rfl rfl ty128 rfl rfl rfl rfl rfl ?_)
    refine bf hK ⟨[(1, gF p0), (3, hI a7), (4, .ptr 87004 v13 0)], [(87004, v13, .arr 3 128 [hI x11.1, hI x11.2.1, hI x11.2.2])]⟩ ?_
    refine AW.seq ?_
    refine AW.seqJ h (S := Bool) (V := Unit) (fun a v => ⟨[(1, gF p0), (3, hI a7), (4, .ptr 87004 v13 0), (70, .bool a)], [(87004, v13, .arr 3 128 [hI x11.1, hI x11.2.1, hI x11.2.2])]⟩) (fun a14 w15 h => ?_) (fun k16 h => ?_)
    ·refine AW.cond rfl (fun hc => ?_) (fun hc => ?_)
     ·have h := ifT hc h
      refine AW.rgs rfl fun K hK => mv rfl rfl ?_
      refine bf hK ⟨[(2, hI 2)], []⟩ ?_
      have h := hr10 _ h
      refine AW.ret ?_
      have h := Option.some.inj h
      subst h
      exact ret_pure (hs := [hI 2]) (.inr rfl) (resT rfl rfl) rfl trivial
     have h := ifF (bF' hc) h
     refine AW.skip ?_
     refine AW.seqJ h (S := Bool) (V := Unit) (fun a v => ⟨[(1, gF p0), (3, hI a7), (83, .bool a)], []⟩) (fun a17 w18 h => ?_) (fun k19 h => ?_)
     ·refine AW.cond rfl (fun hc => ?_) (fun hc => ?_)
      ·have h := ifT hc h
       refine AW.rgs rfl fun K hK => mv rfl rfl ?_
       refine bf hK ⟨[(2, hI 10)], []⟩ ?_
       have h := hr10 _ h
       refine AW.ret ?_
       have h := Option.some.inj h
       subst h
       exact ret_pure (hs := [hI 10]) (.inr rfl) (resT rfl rfl) rfl trivial
      have h := ifF (bF' hc) h
      refine AW.skip ?_
      refine AW.rg rfl fun K hK => mv rfl rfl (bv rfl (v_bin rfl rfl b_add) (mv rfl rfl ?_))
      refine b_nil (hK _ ?_)
      exact to_L ⟨IntKind.wrap .i64 (a7 + 1), (), h, rfl⟩
     refine AW.dg 13 follows rfl rfl fun K hK => ?_
     refine sm rfl rfl ?_
     refine sv rfl (v_bin rfl rfl b_gtr) ?_
     refine sm rfl rfl ?_
     by_cases hg24 : 0 < a7
     ·have h := ifT hg24 h
      refine s_T rfl rfl rfl rfl rfl (decide_eq_true hg24) (ops_val rfl (v_fieldAddrF fo27_2 rfl) ?_)
      refine s_T rfl rfl rfl rfl rfl rfl (ops_val rfl (v_loadF ty25 rfl (l_lit rfl rfl)) ?_)
      refine s_T rfl rfl rfl rfl rfl rfl (ops_val rfl (mv_val rfl rfl).2 ?_)
      refine s_T rfl rfl rfl rfl rfl rfl (ops_val rfl (v_bin rfl rfl b_sub) ?_)
      obtain ⟨x20, h21, h⟩ := bS h
      refine s_T rfl rfl rfl rfl rfl rfl (ops_val rfl (v_idxF ty25 es25 rfl rfl (idx_lt h21)) ?_)
      refine s_T rfl rfl rfl rfl rfl rfl (ops_val rfl (v_loadF ty128 rfl (l_agg eFromLabelTo h21 rfl rfl)) ?_)
      refine s_T rfl rfl rfl rfl rfl rfl (ops_val rfl (v_loadP ty128 rfl rfl (l_litA rfl (lb rfl) rfl)) ?_)
      obtain ⟨x22, h23, h⟩ := bS h
      refine s_T rfl rfl rfl rfl rfl rfl (ops_call rfl rfl rfl rfl (ACallD.pure0 (w_ref09_Compare h23)) ?_)
      refine s_T rfl rfl rfl rfl rfl rfl (ops_val rfl (v_bin rfl rfl b_geq) ?_)
      refine sv rfl (v_pickT rfl rfl rfl) ?_
      refine s_nil ?_
      refine b_nil (hK _ ?_)
      exact to_L ⟨decide (0 ≤ x22), (), h, rfl⟩
     have h := ifF hg24 h
     refine s_F rfl rfl rfl rfl rfl (decide_eq_false hg24) ?_
     refine s_F rfl rfl rfl rfl rfl rfl ?_
     refine s_F rfl rfl rfl rfl rfl rfl ?_
     refine s_F rfl rfl rfl rfl rfl rfl ?_
     refine s_F rfl rfl rfl rfl rfl rfl ?_
     refine s_F rfl rfl rfl rfl rfl rfl ?_
     refine s_F rfl rfl rfl rfl rfl rfl ?_
     refine s_F rfl rfl rfl rfl rfl rfl ?_
     refine s_F rfl rfl rfl rfl rfl rfl ?_
     refine sv rfl (v_pickF rfl rfl rfl) ?_
     refine s_nil ?_
     refine b_nil (hK _ ?_)
     exact to_L ⟨false, (), h, rfl⟩
    refine AW.rg rfl fun K hK => bv rfl (v_fieldAddrP fo128_0 rfl rfl) (bv rfl (v_loadP ty3 rfl rfl (l_lit rfl rfl)) (bv rfl (v_bin rfl rfl b_lss) (mv rfl rfl ?_)))
    by_cases hg29 : x11.1 < 0
    ·have h := ifT hg29 h
     refine b_F rfl rfl rfl rfl rfl (decide_eq_true hg29) ?_
     refine b_F rfl rfl rfl rfl rfl rfl ?_
     refine b_F rfl rfl rfl rfl rfl rfl ?_
     refine b_F rfl rfl rfl rfl rfl rfl ?_
     refine b_F rfl rfl rfl rfl rfl rfl ?_
     refine bv rfl (v_pickT rfl rfl rfl) (mv rfl rfl ?_)
     refine b_F rfl rfl rfl rfl rfl rfl ?_
     refine b_F rfl rfl rfl rfl rfl rfl ?_
     refine b_F rfl rfl rfl rfl rfl rfl ?_
     refine bv rfl (v_pickT rfl rfl rfl) (mv rfl rfl ?_)
     refine b_F rfl rfl rfl rfl rfl rfl ?_
     refine b_F rfl rfl rfl rfl rfl rfl ?_
     refine b_F rfl rfl rfl rfl rfl rfl ?_
     refine b_F rfl rfl rfl rfl rfl rfl ?_
     refine b_F rfl rfl rfl rfl rfl rfl ?_
     refine bv rfl (v_pickT rfl rfl rfl) (mv rfl rfl ?_)
     refine b_F rfl rfl rfl rfl rfl rfl ?_
     refine b_F rfl rfl rfl rfl rfl rfl ?_
     refine b_F rfl rfl rfl rfl rfl rfl ?_
     refine bv rfl (v_pickT rfl rfl rfl) (mv rfl rfl ?_)
     refine b_F rfl rfl rfl rfl rfl rfl ?_
     refine b_F rfl rfl rfl rfl rfl rfl ?_
     refine b_F rfl rfl rfl rfl rfl rfl ?_
     refine b_F rfl rfl rfl rfl rfl rfl ?_
     refine b_F rfl rfl rfl rfl rfl rfl ?_
     refine bv rfl (v_pickT rfl rfl rfl) ?_
     refine b_nil (hK _ ?_)
     exact to_L ⟨true, (), h, rfl⟩
    have h := ifF hg29 h
    refine b_T rfl rfl rfl rfl (decide_eq_false hg29) (o_val rfl (v_fieldAddrP fo128_0 rfl rfl) ?_)
    refine b_T rfl rfl rfl rfl rfl (o_val rfl (v_loadP ty3 rfl rfl (l_lit rfl rfl)) ?_)
    refine b_T rfl rfl rfl rfl rfl (o_val rfl (v_fieldAddrF fo27_1 rfl) ?_)
    refine b_T rfl rfl rfl rfl rfl (o_val rfl (v_loadF ty3 rfl (l_lit rfl rfl)) ?_)
    refine b_T rfl rfl rfl rfl rfl (o_val rfl (v_bin rfl rfl b_geq) ?_)
    refine bv rfl (v_pickF rfl rfl rfl) (mv rfl rfl ?_)
    by_cases hg28 : p0.2.1 ≤ x11.1
    ·have h := ifT hg28 h
     refine b_F rfl rfl rfl rfl rfl (decide_eq_true hg28) ?_
     refine b_F rfl rfl rfl rfl rfl rfl ?_
     refine b_F rfl rfl rfl rfl rfl rfl ?_
     refine bv rfl (v_pickT rfl rfl rfl) (mv rfl rfl ?_)
     refine b_F rfl rfl rfl rfl rfl rfl ?_
     refine b_F rfl rfl rfl rfl rfl rfl ?_
     refine b_F rfl rfl rfl rfl rfl rfl ?_
     refine b_F rfl rfl rfl rfl rfl rfl ?_
     refine b_F rfl rfl rfl rfl rfl rfl ?_
     refine bv rfl (v_pickT rfl rfl rfl) (mv rfl rfl ?_)
     refine b_F rfl rfl rfl rfl rfl rfl ?_
     refine b_F rfl rfl rfl rfl rfl rfl ?_
     refine b_F rfl rfl rfl rfl rfl rfl ?_
     refine bv rfl (v_pickT rfl rfl rfl) (mv rfl rfl ?_)
     refine b_F rfl rfl rfl rfl rfl rfl ?_
     refine b_F rfl rfl rfl rfl rfl rfl ?_
     refine b_F rfl rfl rfl rfl rfl rfl ?_
     refine b_F rfl rfl rfl rfl rfl rfl ?_
     refine b_F rfl rfl rfl rfl rfl rfl ?_
     refine bv rfl (v_pickT rfl rfl rfl) ?_
     refine b_nil (hK _ ?_)
     exact to_L ⟨true, (), h, rfl⟩
    have h := ifF hg28 h
    refine b_T rfl rfl rfl rfl (decide_eq_false hg28) (o_val rfl (v_fieldAddrP fo128_2 rfl rfl) ?_)
    refine b_T rfl rfl rfl rfl rfl (o_val rfl (v_loadP ty3 rfl rfl (l_lit rfl rfl)) ?_)
    refine b_T rfl rfl rfl rfl rfl (o_val rfl (v_bin rfl rfl b_lss) ?_)
    refine bv rfl (v_pickF rfl rfl rfl) (mv rfl rfl ?_)
    by_cases hg27 : x11.2.2 < 0
    ·have h := ifT hg27 h
     refine b_F rfl rfl rfl rfl rfl (decide_eq_true hg27) ?_
     refine b_F rfl rfl rfl rfl rfl rfl ?_
     refine b_F rfl rfl rfl rfl rfl rfl ?_
     refine b_F rfl rfl rfl rfl rfl rfl ?_
     refine b_F rfl rfl rfl rfl rfl rfl ?_
     refine bv rfl (v_pickT rfl rfl rfl) (mv rfl rfl ?_)
     refine b_F rfl rfl rfl rfl rfl rfl ?_
     refine b_F rfl rfl rfl rfl rfl rfl ?_
     refine b_F rfl rfl rfl rfl rfl rfl ?_
     refine bv rfl (v_pickT rfl rfl rfl) (mv rfl rfl ?_)
     refine b_F rfl rfl rfl rfl rfl rfl ?_
     refine b_F rfl rfl rfl rfl rfl rfl ?_
     refine b_F rfl rfl rfl rfl rfl rfl ?_
     refine b_F rfl rfl rfl rfl rfl rfl ?_
     refine b_F rfl rfl rfl rfl rfl rfl ?_
     refine bv rfl (v_pickT rfl rfl rfl) ?_
     refine b_nil (hK _ ?_)
     exact to_L ⟨true, (), h, rfl⟩
    have h := ifF hg27 h
    refine b_T rfl rfl rfl rfl (decide_eq_false hg27) (o_val rfl (v_fieldAddrP fo128_2 rfl rfl) ?_)
    refine b_T rfl rfl rfl rfl rfl (o_val rfl (v_loadP ty3 rfl rfl (l_lit rfl rfl)) ?_)
    refine b_T rfl rfl rfl rfl rfl (o_val rfl (v_fieldAddrF fo27_1 rfl) ?_)
    refine b_T rfl rfl rfl rfl rfl (o_val rfl (v_loadF ty3 rfl (l_lit rfl rfl)) ?_)
    refine b_T rfl rfl rfl rfl rfl (o_val rfl (v_bin rfl rfl b_geq) ?_)
    refine bv rfl (v_pickF rfl rfl rfl) (mv rfl rfl ?_)
    by_cases hg26 : p0.2.1 ≤ x11.2.2
    ·have h := ifT hg26 h
     refine b_F rfl rfl rfl rfl rfl (decide_eq_true hg26) ?_
     refine b_F rfl rfl rfl rfl rfl rfl ?_
     refine b_F rfl rfl rfl rfl rfl rfl ?_
     refine bv rfl (v_pickT rfl rfl rfl) (mv rfl rfl ?_)
     refine b_F rfl rfl rfl rfl rfl rfl ?_
     refine b_F rfl rfl rfl rfl rfl rfl ?_
     refine b_F rfl rfl rfl rfl rfl rfl ?_
     refine b_F rfl rfl rfl rfl rfl rfl ?_
     refine b_F rfl rfl rfl rfl rfl rfl ?_
     refine bv rfl (v_pickT rfl rfl rfl) ?_
     refine b_nil (hK _ ?_)
     exact to_L ⟨true, (), h, rfl⟩
    have h := ifF hg26 h
    refine b_T rfl rfl rfl rfl (decide_eq_false hg26) (o_val rfl (v_fieldAddrP fo128_1 rfl rfl) ?_)
    refine b_T rfl rfl rfl rfl rfl (o_val rfl (v_loadP ty3 rfl rfl (l_lit rfl rfl)) ?_)
    refine b_T rfl rfl rfl rfl rfl (o_val rfl (v_bin rfl rfl b_lss) ?_)
    refine bv rfl (v_pickF rfl rfl rfl) (mv rfl rfl ?_)
    by_cases hg25 : x11.2.1 < 0
    ·have h := ifT hg25 h
     refine b_F rfl rfl rfl rfl rfl (decide_eq_true hg25) ?_
     refine b_F rfl rfl rfl rfl rfl rfl ?_
     refine b_F rfl rfl rfl rfl rfl rfl ?_
     refine b_F rfl rfl rfl rfl rfl rfl ?_
     refine b_F rfl rfl rfl rfl rfl rfl ?_
     refine bv rfl (v_pickT rfl rfl rfl) ?_
     refine b_nil (hK _ ?_)
     exact to_L ⟨true, (), h, rfl⟩
    have h := ifF hg25 h
    refine b_T rfl rfl rfl rfl (decide_eq_false hg25) (o_val rfl (v_fieldAddrP fo128_1 rfl rfl) ?_)
    refine b_T rfl rfl rfl rfl rfl (o_val rfl (v_loadP ty3 rfl rfl (l_lit rfl rfl)) ?_)
    refine b_T rfl rfl rfl rfl rfl (o_val rfl (v_fieldAddrF fo27_0 rfl) ?_)
    refine b_T rfl rfl rfl rfl rfl (o_val rfl (v_loadF ty3 rfl (l_lit rfl rfl)) ?_)
    refine b_T rfl rfl rfl rfl rfl (o_val rfl (v_bin rfl rfl b_geq) ?_)
    refine bv rfl (v_pickF rfl rfl rfl) ?_
    refine b_nil (hK _ ?_)
    exact to_L ⟨decide (p0.1 ≤ x11.2.1), (), h, rfl⟩
   obtain ⟨hc, h⟩ := cF hc h
   refine AW.exit ?_
   exact to_L ⟨(), (), h, rfl⟩
  refine AW.rg rfl fun K hK => bv rfl (v_fieldAddrF fo27_1 rfl) (bv rfl (v_loadF ty3 rfl (l_lit rfl rfl)) (bv rfl (v_bin rfl rfl b_gtr) (mv rfl rfl ?_)))
  by_cases hg32 : 64 < p0.2.1
  ·have h := ifT hg32 h
   refine b_F rfl rfl rfl rfl rfl (decide_eq_true hg32) ?_
   refine b_F rfl rfl rfl rfl rfl rfl ?_
   refine b_F rfl rfl rfl rfl rfl rfl ?_
   refine b_F rfl rfl rfl rfl rfl rfl ?_
   refine bv rfl (v_pickT rfl rfl rfl) ?_
   refine b_nil (hK _ ?_)
   exact to_L ⟨true, (), h, rfl⟩
  have h := ifF hg32 h
  refine b_T rfl rfl rfl rfl (decide_eq_false hg32) (o_val rfl (v_fieldAddrF fo27_2 rfl) ?_)
  refine b_T rfl rfl rfl rfl rfl (o_val rfl (v_loadF ty25 rfl (l_lit rfl rfl)) ?_)
  refine b_T rfl rfl rfl rfl rfl (o_val rfl (v_lenF rfl rfl ty25 rfl) ?_)
  refine b_T rfl rfl rfl rfl rfl (o_val rfl (v_bin rfl rfl b_gtr) ?_)
  refine bv rfl (v_pickF rfl rfl rfl) ?_
  refine b_nil (hK _ ?_)
  exact to_L ⟨decide (1024 < ((p0.2.2).length : Int)), (), h, rfl⟩
 refine AW.rg rfl fun K hK => bv rfl (v_fieldAddrF fo27_0 rfl) (bv rfl (v_loadF ty3 rfl (l_lit rfl rfl)) (bv rfl (v_bin rfl rfl b_lss) (mv rfl rfl ?_)))
 by_cases hg33 : p0.1 < 1
 ·have h := ifT hg33 h
  refine b_F rfl rfl rfl rfl rfl (decide_eq_true hg33) ?_
  refine b_F rfl rfl rfl rfl rfl rfl ?_
  refine b_F rfl rfl rfl rfl rfl rfl ?_
  refine bv rfl (v_pickT rfl rfl rfl) ?_
  refine b_nil (hK _ ?_)
  exact to_L ⟨true, (), h, rfl⟩
 have h := ifF hg33 h
 refine b_T rfl rfl rfl rfl (decide_eq_false hg33) (o_val rfl (v_fieldAddrF fo27_0 rfl) ?_)
 refine b_T rfl rfl rfl rfl rfl (o_val rfl (v_loadF ty3 rfl (l_lit rfl rfl)) ?_)
 refine b_T rfl rfl rfl rfl rfl (o_val rfl (v_bin rfl rfl b_gtr) ?_)
 refine bv rfl (v_pickF rfl rfl rfl) ?_
 refine b_nil (hK _ ?_)
 exact to_L ⟨decide (256 < p0.1), (), h, rfl⟩
theorem w_ref11_check {p0 : TLabelsStatesEdges} {r : Int} (h : m_ref11_check p0 = some r) : Pure Tryz.prog 192 [gA p0] (· = hI r) := by
 unfold m_ref11_check at h
 refine Pure.of_body Tryz.func192 rfl rfl (lb rfl) fun hf => ?_
 unfold Tryz.f192
 dsimp only [enumS, Nat.reduceAdd]
 refine AW.rgs rfl fun K hK => b_op rfl (o_box rfl rfl rfl ?_)
 refine mv rfl rfl ?_
 refine bf hK ⟨[(1, gF p0)], []⟩ ?_
 refine AW.seq ?_
 refine AW.rgs rfl fun K hK => bv rfl (v_loadF ty27 rfl (l_litA rfl (lb rfl) rfl)) ?_
 obtain ⟨x1, h2, h⟩ := bS h
 refine b_op rfl (o_call rfl rfl rfl rfl (ACallD.pure0 (w_ref09_Check h2)) ?_)
 refine bv rfl (v_bin rfl rfl b_neq) ?_
 refine bf hK ⟨[(1, gF p0), (5, .bool (decide (x1 ≠ 0)))], []⟩ ?_
 refine AW.cond rfl (fun hc => ?_) (fun hc => ?_)
 ·obtain ⟨hc, h⟩ := cT hc h
  refine AW.rgs rfl fun K hK => mv rfl rfl ?_
  refine bf hK ⟨[(2, hI 1)], []⟩ ?_
  refine AW.ret ?_
  have h := Option.some.inj h
  subst h
  exact ret_pure (hs := [hI 1]) (.inr rfl) (resT rfl rfl) rfl trivial
 obtain ⟨hc, h⟩ := cF hc h
 refine AW.skip ?_
 refine AW.seq ?_
 refine AW.rgs rfl fun K hK => bv rfl (v_fieldAddrF fo27_0 rfl) (bv rfl (v_loadF ty3 rfl (l_lit rfl rfl)) (bv rfl (v_bin rfl rfl b_gtr) ?_))
 refine bf hK ⟨[(8, .bool (decide (16 < p0.1)))], []⟩ ?_
 refine AW.cond rfl (fun hc => ?_) (fun hc => ?_)
 ·obtain ⟨hc, h⟩ := cT hc h
  refine AW.rgs rfl fun K hK => mv rfl rfl ?_
  refine bf hK ⟨[(2, hI 12)], []⟩ ?_
  refine AW.ret ?_
  have h := Option.some.inj h
  subst h
  exact ret_pure (hs := [hI 12]) (.inr rfl) (resT rfl rfl) rfl trivial
 obtain ⟨hc, h⟩ := cF hc h
 refine AW.skip ?_
 refine AW.rgs rfl fun K hK => mv rfl rfl ?_
 refine bf hK ⟨[(2, hI 0)], []⟩ ?_
 refine AW.ret ?_
 have h := Option.some.inj h
 subst h
 exact ret_pure (hs := [hI 0]) (.inr rfl) (resT rfl rfl) rfl trivial
theorem w_ref11_checkWord {p0 : TLabelsStatesEdges} {p1 : List UInt8} {r : Int} (h : m_ref11_checkWord p0 p1 = some r) : Pure Tryz.prog 173 [gA p0, .str p1] (· = hI r) := by
 unfold m_ref11_checkWord at h
 refine Pure.of_body Tryz.func173 rfl rfl (lb rfl) fun hf => ?_
 unfold Tryz.f173
 dsimp only [enumS, Nat.reduceAdd]
 refine AW.rgs rfl fun K hK => b_op rfl (o_box rfl rfl rfl ?_)
 refine mv rfl rfl ?_
 refine bf hK ⟨[(1, .str p1), (2, gF p0)], []⟩ ?_
 refine AW.seq ?_
 refine AW.rgs rfl fun K hK => bv rfl (v_loadF ty27 rfl (l_litA rfl (lb rfl) rfl)) ?_
 obtain ⟨x1, h2, h⟩ := bS h
 refine b_op rfl (o_call rfl rfl rfl rfl (ACallD.pure0 (w_ref11_check h2)) ?_)
 refine mv rfl rfl ?_
 refine bf hK ⟨[(1, .str p1), (2, gF p0), (5, hI x1)], []⟩ ?_
 refine AW.rgs rfl fun K hK => mv rfl rfl (bv rfl (v_bin rfl rfl b_neq) ?_)
 refine bf hK ⟨[(1, .str p1), (2, gF p0), (5, hI x1), (9, .bool (decide (x1 ≠ 0)))], []⟩ ?_
 refine AW.cond rfl (fun hc => ?_) (fun hc => ?_)
 ·obtain ⟨hc, h⟩ := cT hc h
  refine AW.rgs rfl fun K hK => mv rfl rfl (mv rfl rfl ?_)
  refine bf hK ⟨[(4, hI x1)], []⟩ ?_
  refine AW.ret ?_
  have h := Option.some.inj h
  subst h
  exact ret_pure (hs := [hI x1]) (.inr rfl) (resT rfl rfl) rfl trivial
 obtain ⟨hc, h⟩ := cF hc h
 refine AW.skip ?_
 refine AW.rgs rfl fun K hK => bv rfl (v_fieldAddrF fo27_0 rfl) (bv rfl (v_loadF ty3 rfl (l_lit rfl rfl)) (mv rfl rfl ?_))
 obtain ⟨x3, h4, h⟩ := bS h
 refine b_op rfl (o_call rfl rfl rfl rfl (ACallD.pure0 (w_ref07_Check h4)) ?_)
 refine mv rfl rfl ?_
 refine bf hK ⟨[(4, hI x3)], []⟩ ?_
 refine AW.ret ?_
 have h := Option.some.inj h
 subst h
 exact ret_pure (hs := [hI x3]) (.inr rfl) (resT rfl rfl) rfl trivial
theorem w_ref11_has {p0 : List (Int)} {p1 : Int} {r : Bool} (h : m_ref11_has p0 p1 = some r) : Pure Tryz.prog 229 [slE eInt p0, hI p1] (· = HV.bool r) := by
 unfold m_ref11_has at h
 refine Pure.of_body Tryz.func229 rfl rfl (lb rfl) fun hf => ?_
 unfold Tryz.f229
 dsimp only [enumS, Nat.reduceAdd]
 refine AW.rgs rfl fun K hK => mv rfl rfl ?_
 refine bf hK ⟨[(0, slE eInt p0), (1, hI p1)], []⟩ ?_
 refine AW.seq ?_
 refine AW.rgs rfl fun K hK => mv rfl rfl ?_
 refine bf hK ⟨[(0, slE eInt p0), (1, hI p1), (5, hI 0)], []⟩ ?_
 refine AW.lpR h (by first | exact up_then | exact up_to) (S := Int) (V := Unit) (fun a v => ⟨[(0, slE eInt p0), (1, hI p1), (5, hI a)], []⟩) ?_ (X := Unit) (W := Unit) (fun a v => ⟨[], []⟩) (fun a7 w8 h => ?_) (fun a1 w2 st3 h hr4=> ?_)
 ·exact to_L ⟨(), rfl⟩
 ·refine AW.rgs rfl fun K hK => mv rfl rfl ?_
  refine bf hK ⟨[(4, .bool false)], []⟩ ?_
  refine AW.ret ?_
  have h := Option.some.inj h
  subst h
  exact ret_pure (hs := [.bool false]) (.inr rfl) (resT rfl rfl) rfl trivial
 refine AW.seq ?_
 refine AW.rgs rfl fun K hK => mv rfl rfl (mv rfl rfl (bv rfl (v_lenF rfl rfl ty31 rfl) (bv rfl (v_bin rfl rfl b_lss) ?_)))
 refine bf hK ⟨[(0, slE eInt p0), (1, hI p1), (5, hI a1), (9, .bool (decide (a1 < ((p0).length : Int))))], []⟩ ?_
 refine AW.cond rfl (fun hc => ?_) (fun hc => ?_)
 ·obtain ⟨hc, h⟩ := cT hc h
  refine AW.skip ?_
  refine AW.seq (AW.block ?_)
  refine AW.rgs rfl fun K hK => mv rfl rfl (mv rfl rfl ?_)
  obtain ⟨x5, h6, h⟩ := bS h
  refine bv rfl (v_idxF ty31 es31 rfl rfl (idx_lt h6)) (bv rfl (v_loadF ty3 rfl (l_cell eInt h6 (o := 0) rfl rfl)) (mv rfl rfl (bv rfl (v_bin rfl rfl b_eql) ?_)))
  refine bf hK ⟨[(0, slE eInt p0), (1, hI p1), (5, hI a1), (17, .bool (decide (x5 = p1)))], []⟩ ?_
  refine AW.cond rfl (fun hc => ?_) (fun hc => ?_)
  ·obtain ⟨hc, h⟩ := cT hc h
   refine AW.rgs rfl fun K hK => mv rfl rfl ?_
   refine bf hK ⟨[(4, .bool true)], []⟩ ?_
   have h := hr4 _ h
   refine AW.ret ?_
   have h := Option.some.inj h
   subst h
   exact ret_pure (hs := [.bool true]) (.inr rfl) (resT rfl rfl) rfl trivial
  obtain ⟨hc, h⟩ := cF hc h
  refine AW.skip ?_
  refine AW.rg rfl fun K hK => mv rfl rfl (bv rfl (v_bin rfl rfl b_add) (mv rfl rfl ?_))
  refine b_nil (hK _ ?_)
  exact to_L ⟨IntKind.wrap .i64 (a1 + 1), (), h, rfl⟩
 obtain ⟨hc, h⟩ := cF hc h
 refine AW.exit ?_
 exact to_L ⟨(), (), h, rfl⟩
theorem w_ref11_Step {p0 : TLabelsStatesEdges} {p1 : List (Int)} {p2 : Int} {r : (List (Int))} (h : m_ref11_Step p0 p1 p2 = some r) : Pure Tryz.prog 203 [gA p0, slE eInt p1, hI p2] (· = slE eInt r) := by
 unfold m_ref11_Step at h
 refine Pure.of_body Tryz.func203 rfl rfl (lb rfl) fun hf => ?_
 unfold Tryz.f203
 dsimp only [enumS, Nat.reduceAdd]
 refine AW.rgs rfl fun K hK => b_op rfl (o_box rfl rfl rfl ?_)
 refine mv rfl rfl ?_
 refine bf hK ⟨[(1, slE eInt p1), (2, hI p2), (3, gF p0)], []⟩ ?_
 refine AW.rgs rfl fun K hK => b_op rfl (o_bslM (fid := 203) 203011 rfl rfl rfl (as_of (cs := []) ty31 ty3 rfl rfl rfl rfl rfl) (fun v1 => ?_))
 refine mv rfl rfl ?_
 refine bf hK ⟨[(1, slE eInt p1), (2, hI p2), (3, gF p0), (7, .ar 203011 v1 eInt.k 0 0)], [(203011, v1, .arr eInt.k 3 [])]⟩ ?_
 refine AW.seq ?_
 refine AW.rgs rfl fun K hK => mv rfl rfl ?_
 refine bf hK ⟨[(1, slE eInt p1), (2, hI p2), (3, gF p0), (7, .ar 203011 v1 eInt.k 0 0), (8, hI 0)], [(203011, v1, .arr eInt.k 3 [])]⟩ ?_
 refine AW.lpX h (by first | exact up_then | exact up_to) (S := Int × (List Int)) (V := Nat) (fun a v => ⟨[(1, slE eInt p1), (2, hI p2), (3, gF p0), (7, .ar 203011 v eInt.k 0 ((a.2).length)), (8, hI a.1)], [(203011, v, .arr eInt.k 3 (eInt.E a.2))]⟩) ?_ (X := (List Int)) (W := Nat) (fun a v => ⟨[(7, .ar 203011 v eInt.k 0 ((a).length))], [(203011, v, .arr eInt.k 3 (eInt.E a))]⟩) (fun a33 w34 h => ?_) (fun a2 w3 st4 h => ?_)
 ·exact to_L ⟨v1, rfl⟩
 ·refine AW.rgs rfl fun K hK => mv rfl rfl (mv rfl rfl ?_)
  refine bf hK ⟨[(6, .ar 203011 w34 eInt.k 0 ((a33).length))], [(203011, w34, .arr eInt.k 3 (eInt.E a33))]⟩ ?_
  refine AW.to (to_frz 2 [(203011, w34, .arr eInt.k 3 (eInt.E a33))] ⟨[(6, slE eInt a33)], []⟩ ⟨⟨_, rfl, frz_slE eInt (l := a33) rfl fun _ _ => rfl⟩, trivial⟩ trivial ⟨rfl, trivial⟩ ⟨rfl, trivial⟩ ?_)
  refine AW.ret ?_
  have h := Option.some.inj h
  subst h
  exact ret_pure (hs := [slE eInt a33]) (.inr rfl) (resT rfl rfl) rfl (clean_slE fun _ _ => ⟨trivial, trivial⟩)
 refine AW.seq ?_
 refine AW.rgs rfl fun K hK => mv rfl rfl (bv rfl (v_fieldAddrF fo27_1 rfl) (bv rfl (v_loadF ty3 rfl (l_lit rfl rfl)) (bv rfl (v_bin rfl rfl b_lss) ?_)))
 refine bf hK ⟨[(1, slE eInt p1), (2, hI p2), (3, gF p0), (7, .ar 203011 w3 eInt.k 0 ((a2.2).length)), (8, hI a2.1), (15, .bool (decide (a2.1 < p0.2.1)))], [(203011, w3, .arr eInt.k 3 (eInt.E a2.2))]⟩ ?_
 refine AW.cond rfl (fun hc => ?_) (fun hc => ?_)
 ·obtain ⟨hc, h⟩ := cT hc h
  refine AW.skip ?_
  refine AW.seqJ h (S := (List Int)) (V := Nat) (fun a v => ⟨[(1, slE eInt p1), (2, hI p2), (3, gF p0), (7, .ar 203011 v eInt.k 0 ((a).length)), (8, hI a2.1)], [(203011, v, .arr eInt.k 3 (eInt.E a))]⟩) (fun a6 w7 h => ?_) (fun k8 h => ?_)
  ·refine AW.rg rfl fun K hK => mv rfl rfl (bv rfl (v_bin rfl rfl b_add) (mv rfl rfl ?_))
   refine b_nil (hK _ ?_)
   exact to_L ⟨(IntKind.wrap .i64 (a2.1 + 1), a6), w7, h, rfl⟩
  refine AW.block ?_
  refine AW.rgs rfl fun K hK => mv rfl rfl ?_
  refine bf hK ⟨[(1, slE eInt p1), (2, hI p2), (3, gF p0), (7, .ar 203011 w3 eInt.k 0 ((a2.2).length)), (8, hI a2.1), (9, .bool false)], [(203011, w3, .arr eInt.k 3 (eInt.E a2.2))]⟩ ?_
  refine AW.seq ?_
  refine AW.rgs rfl fun K hK => mv rfl rfl ?_
  refine bf hK ⟨[(1, slE eInt p1), (2, hI p2), (3, gF p0), (7, .ar 203011 w3 eInt.k 0 ((a2.2).length)), (8, hI a2.1), (9, .bool false), (10, hI 0)], [(203011, w3, .arr eInt.k 3 (eInt.E a2.2))]⟩ ?_
  refine AW.lpX h (by first | exact up_then | exact up_to) (S := Bool × Int) (V := Unit) (fun a v => ⟨[(1, slE eInt p1), (2, hI p2), (3, gF p0), (7, .ar 203011 w3 eInt.k 0 ((a2.2).length)), (8, hI a2.1), (9, .bool a.1), (10, hI a.2)], [(203011, w3, .arr eInt.k 3 (eInt.E a2.2))]⟩) ?_ (X := Bool) (W := Unit) (fun a v => ⟨[(1, slE eInt p1), (2, hI p2), (3, gF p0), (7, .ar 203011 w3 eInt.k 0 ((a2.2).length)), (8, hI a2.1), (9, .bool a)], [(203011, w3, .arr eInt.k 3 (eInt.E a2.2))]⟩) (fun a29 w30 h => ?_) (fun a9 w10 st11 h => ?_)
  ·exact to_L ⟨(), rfl⟩
  ·refine AW.rgs rfl fun K hK => mv rfl rfl ?_
   refine bf hK ⟨[(1, slE eInt p1), (2, hI p2), (3, gF p0), (7, .ar 203011 w3 eInt.k 0 ((a2.2).length)), (8, hI a2.1), (53, .bool a29)], [(203011, w3, .arr eInt.k 3 (eInt.E a2.2))]⟩ ?_
   refine AW.cond rfl (fun hc => ?_) (fun hc => ?_)
   ·have h := ifT hc h
    refine AW.rg rfl fun K hK => mv rfl rfl (mv rfl rfl ?_)
    refine b_op rfl (o_bsl rfl rfl (as_of (cs := [hI a2.1]) ty31 ty3 rfl rfl rfl rfl rfl) ?_)
    obtain ⟨h32, h⟩ := ifN h
    refine b_op rfl (o_appE eInt (l := a2.2) (m := [a2.1]) rfl rfl ty31 ty31 ty3 rfl rfl rfl rfl rfl h32 (fun v31 => ?_))
    refine mv rfl rfl ?_
    refine b_nil (hK _ ?_)
    exact to_L ⟨a2.2 ++ [a2.1], v31, h, rfl⟩
   have h := ifF (bF' hc) h
   refine AW.skip ?_
   exact to_L ⟨a2.2, w3, h, rfl⟩
  refine AW.seq ?_
  refine AW.rgs rfl fun K hK => mv rfl rfl (bv rfl (v_fieldAddrF fo27_2 rfl) (bv rfl (v_loadF ty25 rfl (l_lit rfl rfl)) (bv rfl (v_lenF rfl rfl ty25 rfl) (bv rfl (v_bin rfl rfl b_lss) ?_))))
  refine bf hK ⟨[(1, slE eInt p1), (2, hI p2), (3, gF p0), (7, .ar 203011 w3 eInt.k 0 ((a2.2).length)), (8, hI a2.1), (9, .bool a9.1), (10, hI a9.2), (22, .bool (decide (a9.2 < ((p0.2.2).length : Int))))], [(203011, w3, .arr eInt.k 3 (eInt.E a2.2))]⟩ ?_
  refine AW.cond rfl (fun hc => ?_) (fun hc => ?_)
  ·obtain ⟨hc, h⟩ := cT hc h
   refine AW.skip ?_
   refine AW.seqJ h (S := Bool) (V := Unit) (fun a v => ⟨[(1, slE eInt p1), (2, hI p2), (3, gF p0), (7, .ar 203011 w3 eInt.k 0 ((a2.2).length)), (8, hI a2.1), (9, .bool a), (10, hI a9.2)], [(203011, w3, .arr eInt.k 3 (eInt.E a2.2))]⟩) (fun a13 w14 h => ?_) (fun k15 h => ?_)
   ·refine AW.rg rfl fun K hK => mv rfl rfl (bv rfl (v_bin rfl rfl b_add) (mv rfl rfl ?_))
    refine b_nil (hK _ ?_)
    exact to_L ⟨(a13, IntKind.wrap .i64 (a9.2 + 1)), (), h, rfl⟩
   refine AW.block ?_
   refine AW.seqJ h (S := Bool) (V := Unit) (fun a v => ⟨[(1, slE eInt p1), (2, hI p2), (3, gF p0), (7, .ar 203011 w3 eInt.k 0 ((a2.2).length)), (8, hI a2.1), (9, .bool a9.1), (10, hI a9.2), (52, .bool a)], [(203011, w3, .arr eInt.k 3 (eInt.E a2.2))]⟩) (fun a16 w17 h => ?_) (fun k18 h => ?_)
   ·refine AW.cond rfl (fun hc => ?_) (fun hc => ?_)
    ·have h := ifT hc h
     refine AW.rg rfl fun K hK => mv rfl rfl ?_
     refine b_nil (hK _ ?_)
     exact to_L ⟨true, (), h, rfl⟩
    have h := ifF (bF' hc) h
    refine AW.skip ?_
    exact to_L ⟨a9.1, (), h, rfl⟩
   refine AW.rg rfl fun K hK => bv rfl (v_fieldAddrF fo27_2 rfl) (bv rfl (v_loadF ty25 rfl (l_lit rfl rfl)) (mv rfl rfl ?_))
   obtain ⟨x19, h20, h⟩ := bS h
   refine bv rfl (v_idxF ty25 es25 rfl rfl (idx_lt h20)) (bv rfl (v_fieldAddrF fo128_2 rfl) (bv rfl (v_loadF ty3 rfl (l_cell eFromLabelTo h20 (o := 2) rfl rfl)) (mv rfl rfl (bv rfl (v_bin rfl rfl b_eql) (mv rfl rfl ?_)))))
   by_cases hg28 : x19.2.2 = a2.1
   ·have h := ifT hg28 h
    refine b_T rfl rfl rfl rfl (decide_eq_true hg28) (o_val rfl (v_fieldAddrF fo27_2 rfl) ?_)
    refine b_T rfl rfl rfl rfl rfl (o_val rfl (v_loadF ty25 rfl (l_lit rfl rfl)) ?_)
    refine b_T rfl rfl rfl rfl rfl (o_val rfl (mv_val rfl rfl).2 ?_)
    obtain ⟨x21, h22, h⟩ := bS h
    refine b_T rfl rfl rfl rfl rfl (o_val rfl (v_idxF ty25 es25 rfl rfl (idx_lt h22)) ?_)
    refine b_T rfl rfl rfl rfl rfl (o_val rfl (v_fieldAddrF fo128_1 rfl) ?_)
    refine b_T rfl rfl rfl rfl rfl (o_val rfl (v_loadF ty3 rfl (l_cell eFromLabelTo h22 (o := 1) rfl rfl)) ?_)
    refine b_T rfl rfl rfl rfl rfl (o_val rfl (mv_val rfl rfl).2 ?_)
    refine b_T rfl rfl rfl rfl rfl (o_val rfl (v_bin rfl rfl b_eql) ?_)
    refine bv rfl (v_pickT rfl rfl rfl) (mv rfl rfl ?_)
    by_cases hg27 : x21.2.1 = p2
    ·have h := ifT hg27 h
     refine b_T rfl rfl rfl rfl (decide_eq_true hg27) (o_val rfl (mv_val rfl rfl).2 ?_)
     refine b_T rfl rfl rfl rfl rfl (o_val rfl (v_fieldAddrF fo27_2 rfl) ?_)
     refine b_T rfl rfl rfl rfl rfl (o_val rfl (v_loadF ty25 rfl (l_lit rfl rfl)) ?_)
     refine b_T rfl rfl rfl rfl rfl (o_val rfl (mv_val rfl rfl).2 ?_)
     obtain ⟨x23, h24, h⟩ := bS h
     refine b_T rfl rfl rfl rfl rfl (o_val rfl (v_idxF ty25 es25 rfl rfl (idx_lt h24)) ?_)
     refine b_T rfl rfl rfl rfl rfl (o_val rfl (v_fieldAddrF fo128_0 rfl) ?_)
     refine b_T rfl rfl rfl rfl rfl (o_val rfl (v_loadF ty3 rfl (l_cell eFromLabelTo h24 (o := 0) rfl rfl)) ?_)
     obtain ⟨x25, h26, h⟩ := bS h
     refine b_T rfl rfl rfl rfl rfl (o_call rfl rfl rfl rfl (ACallD.pure0 (w_ref11_has h26)) ?_)
     refine bv rfl (v_pickT rfl rfl rfl) ?_
     refine b_nil (hK _ ?_)
     exact to_L ⟨x25, (), h, rfl⟩
    have h := ifF hg27 h
    refine b_F rfl rfl rfl rfl rfl (decide_eq_false hg27) ?_
    refine b_F rfl rfl rfl rfl rfl rfl ?_
    refine b_F rfl rfl rfl rfl rfl rfl ?_
    refine b_F rfl rfl rfl rfl rfl rfl ?_
    refine b_F rfl rfl rfl rfl rfl rfl ?_
    refine b_F rfl rfl rfl rfl rfl rfl ?_
    refine b_F rfl rfl rfl rfl rfl rfl ?_
    refine b_F rfl rfl rfl rfl rfl rfl ?_
    refine bv rfl (v_pickF rfl rfl rfl) ?_
    refine b_nil (hK _ ?_)
    exact to_L ⟨false, (), h, rfl⟩
   have h := ifF hg28 h
   refine b_F rfl rfl rfl rfl rfl (decide_eq_false hg28) ?_
   refine b_F rfl rfl rfl rfl rfl rfl ?_
   refine b_F rfl rfl rfl rfl rfl rfl ?_
   refine b_F rfl rfl rfl rfl rfl rfl ?_
   refine b_F rfl rfl rfl rfl rfl rfl ?_
   refine b_F rfl rfl rfl rfl rfl rfl ?_
   refine b_F rfl rfl rfl rfl rfl rfl ?_
   refine b_F rfl rfl rfl rfl rfl rfl ?_
   refine bv rfl (v_pickF rfl rfl rfl) (mv rfl rfl ?_)
   refine b_F rfl rfl rfl rfl rfl rfl ?_
   refine b_F rfl rfl rfl rfl rfl rfl ?_
   refine b_F rfl rfl rfl rfl rfl rfl ?_
   refine b_F rfl rfl rfl rfl rfl rfl ?_
   refine b_F rfl rfl rfl rfl rfl rfl ?_
   refine b_F rfl rfl rfl rfl rfl rfl ?_
   refine b_F rfl rfl rfl rfl rfl rfl ?_
   refine b_F rfl rfl rfl rfl rfl rfl ?_
   refine bv rfl (v_pickF rfl rfl rfl) ?_
   refine b_nil (hK _ ?_)
   exact to_L ⟨false, (), h, rfl⟩
  obtain ⟨hc, h⟩ := cF hc h
  refine AW.exit ?_
  exact to_L ⟨a9.1, (), h, rfl⟩
 obtain ⟨hc, h⟩ := cF hc h
 refine AW.exit ?_
 exact to_L ⟨a2.2, w3, h, rfl⟩
theorem w_ref11_ends {p0 : TLabelsStatesEdges} {p1 : List (Int)} {p2 : List UInt8} {r : (List (Int))} (h : m_ref11_ends p0 p1 p2 = some r) : Pure Tryz.prog 174 [gA p0, slE eInt p1, .str p2] (· = slE eInt r) := by
 unfold m_ref11_ends at h
 refine Pure.of_body Tryz.func174 rfl rfl (lb rfl) fun hf => ?_
 unfold Tryz.f174
 dsimp only [enumS, Nat.reduceAdd]
 refine AW.rgs rfl fun K hK => b_op rfl (o_box rfl rfl rfl ?_)
 refine mv rfl rfl ?_
 refine bf hK ⟨[(1, slE eInt p1), (2, .str p2), (3, gF p0)], []⟩ ?_
 refine AW.seq ?_
 refine AW.rgs rfl fun K hK => mv rfl rfl ?_
 refine bf hK ⟨[(1, slE eInt p1), (2, .str p2), (3, gF p0), (7, hI 0)], []⟩ ?_
 refine AW.lpX h (by first | exact up_then | exact up_to) (S := (List Int) × Int) (V := Unit) (fun a v => ⟨[(1, slE eInt a.1), (2, .str p2), (3, gF p0), (7, hI a.2)], []⟩) ?_ (X := (List Int)) (W := Unit) (fun a v => ⟨[(1, slE eInt a)], []⟩) (fun a11 w12 h => ?_) (fun a1 w2 st3 h => ?_)
 ·exact to_L ⟨(), rfl⟩
 ·refine AW.rgs rfl fun K hK => mv rfl rfl (mv rfl rfl ?_)
  refine bf hK ⟨[(6, slE eInt a11)], []⟩ ?_
  refine AW.ret ?_
  have h := Option.some.inj h
  subst h
  exact ret_pure (hs := [slE eInt a11]) (.inr rfl) (resT rfl rfl) rfl (clean_slE fun _ _ => ⟨trivial, trivial⟩)
 refine AW.seq ?_
 refine AW.rgs rfl fun K hK => mv rfl rfl (mv rfl rfl (bv rfl (v_lenS rfl rfl ty9 rfl) (bv rfl (v_bin rfl rfl b_lss) ?_)))
 refine bf hK ⟨[(1, slE eInt a1.1), (2, .str p2), (3, gF p0), (7, hI a1.2), (11, .bool (decide (a1.2 < ((p2).length : Int))))], []⟩ ?_
 refine AW.cond rfl (fun hc => ?_) (fun hc => ?_)
 ·obtain ⟨hc, h⟩ := cT hc h
  refine AW.skip ?_
  refine AW.seq (AW.block ?_)
  refine AW.dg 8 follows rfl rfl fun K hK => ?_
  refine sv rfl (v_loadF ty27 rfl (l_litA rfl (lb rfl) rfl)) ?_
  refine sm rfl rfl ?_
  refine sm rfl rfl ?_
  refine sm rfl rfl ?_
  obtain ⟨x5, h6, h⟩ := bS h
  refine sv rfl (v_idxS ty9 rfl rfl h6) ?_
  obtain ⟨x7, h8, h⟩ := bS h
  refine s_op rfl rfl (ops_call rfl rfl rfl rfl (ACallD.pure0 (w_ref07_Digit h8)) ?_)
  obtain ⟨x9, h10, h⟩ := bS h
  refine s_op rfl rfl (ops_call rfl rfl rfl rfl (ACallD.pure0 (w_ref11_Step h10)) ?_)
  refine sm rfl rfl ?_
  refine s_nil ?_
  refine bf hK ⟨[(1, slE eInt x9), (2, .str p2), (3, gF p0), (7, hI a1.2)], []⟩ ?_
  refine AW.rg rfl fun K hK => mv rfl rfl (bv rfl (v_bin rfl rfl b_add) (mv rfl rfl ?_))
  refine b_nil (hK _ ?_)
  exact to_L ⟨(x9, IntKind.wrap .i64 (a1.2 + 1)), (), h, rfl⟩
 obtain ⟨hc, h⟩ := cF hc h
 refine AW.exit ?_
 exact to_L ⟨a1.1, (), h, rfl⟩
theorem w_ref11_Accepts {p0 : TLabelsStatesEdges} {p1 : List UInt8} {r : Bool × Int} (h : m_ref11_Accepts p0 p1 = some r) : Pure Tryz.prog 126 [gA p0, .str p1] (· = HV.tup [.bool r.1, hI r.2]) := by
 unfold m_ref11_Accepts at h
 refine Pure.of_body Tryz.func126 rfl rfl (lb rfl) fun hf => ?_
 unfold Tryz.f126
 dsimp only [enumS, Nat.reduceAdd]
 refine AW.rgs rfl fun K hK => b_op rfl (o_box rfl rfl rfl ?_)
 refine mv rfl rfl (mv rfl rfl ?_)
 refine bf hK ⟨[(1, .str p1), (2, gF p0)], []⟩ ?_
 refine AW.seq ?_
 refine AW.rgs rfl fun K hK => bv rfl (v_loadF ty27 rfl (l_litA rfl (lb rfl) rfl)) (mv rfl rfl ?_)
 obtain ⟨x1, h2, h⟩ := bS h
 refine b_op rfl (o_call rfl rfl rfl rfl (ACallD.pure0 (w_ref11_checkWord h2)) ?_)
 refine mv rfl rfl ?_
 refine bf hK ⟨[(1, .str p1), (2, gF p0), (6, hI x1)], []⟩ ?_
 refine AW.rgs rfl fun K hK => mv rfl rfl (bv rfl (v_bin rfl rfl b_neq) ?_)
 refine bf hK ⟨[(1, .str p1), (2, gF p0), (6, hI x1), (11, .bool (decide (x1 ≠ 0)))], []⟩ ?_
 refine AW.cond rfl (fun hc => ?_) (fun hc => ?_)
 ·obtain ⟨hc, h⟩ := cT hc h
  refine AW.rgs rfl fun K hK => mv rfl rfl (mv rfl rfl (mv rfl rfl ?_))
  refine bf hK ⟨[(4, .bool false), (5, hI x1)], []⟩ ?_
  refine AW.ret ?_
  have h := Option.some.inj h
  subst h
  exact ret_pure (hs := [.bool false, hI x1]) (.inr rfl) (resT rfl (resT rfl rfl)) rfl ⟨trivial, trivial, trivial⟩
 obtain ⟨hc, h⟩ := cF hc h
 refine AW.skip ?_
 refine AW.dgs 9 follows rfl rfl fun K hK => ?_
 refine sv rfl (v_loadF ty27 rfl (l_litA rfl (lb rfl) rfl)) ?_
 refine sv rfl (v_loadF ty27 rfl (l_litA rfl (lb rfl) rfl)) ?_
 obtain ⟨x3, h4, h⟩ := bS h
 refine s_op rfl rfl (ops_call rfl rfl rfl rfl (ACallD.pure0 (w_ref11_All h4)) ?_)
 refine sm rfl rfl ?_
 obtain ⟨x5, h6, h⟩ := bS h
 refine s_op rfl rfl (ops_call rfl rfl rfl rfl (ACallD.pure0 (w_ref11_ends h6)) ?_)
 refine sv rfl (v_lenF rfl rfl ty31 rfl) ?_
 refine sv rfl (v_bin rfl rfl b_gtr) ?_
 refine sm rfl rfl ?_
 refine sm rfl rfl ?_
 refine s_nil ?_
 refine bf hK ⟨[(4, .bool (decide (0 < ((x5).length : Int)))), (5, hI 0)], []⟩ ?_
 refine AW.ret ?_
 have h := Option.some.inj h
 subst h
 exact ret_pure (hs := [.bool (decide (0 < ((x5).length : Int))), hI 0]) (.inr rfl) (resT rfl (resT rfl rfl)) rfl ⟨trivial, trivial, trivial⟩
theorem w_ref31_accepts {p0 : TLabelsStatesEdges} {p1 : List UInt8} {r : Bool} (h : m_ref31_accepts p0 p1 = some r) : Pure Tryz.prog 77 [gA p0, .str p1] (· = HV.bool r) := by
 unfold m_ref31_accepts at h
 refine Pure.of_body Tryz.func77 rfl rfl (lb rfl) fun hf => ?_
 unfold Tryz.f77
 dsimp only [enumS, Nat.reduceAdd]
 refine AW.rgs rfl fun K hK => b_op rfl (o_box rfl rfl rfl ?_)
 refine mv rfl rfl ?_
 refine bf hK ⟨[(1, .str p1), (2, gF p0)], []⟩ ?_
 refine AW.rgs rfl fun K hK => bv rfl (v_loadF ty27 rfl (l_litA rfl (lb rfl) rfl)) (mv rfl rfl ?_)
 obtain ⟨x1, h2, h⟩ := bS h
 refine b_op rfl (o_call rfl rfl rfl rfl (ACallD.pure0 (w_ref11_Accepts h2)) ?_)
 refine mv rfl rfl (bv rfl (v_extract rfl rfl) (bv rfl (v_extract rfl rfl) (mv rfl rfl (mv rfl rfl ?_))))
 refine bf hK ⟨[(5, .bool x1.1)], []⟩ ?_
 refine AW.rgs rfl fun K hK => mv rfl rfl (mv rfl rfl ?_)
 refine bf hK ⟨[(4, .bool x1.1)], []⟩ ?_
 refine AW.ret ?_
 have h := Option.some.inj h
 subst h
 exact ret_pure (hs := [.bool x1.1]) (.inr rfl) (resT rfl rfl) rfl trivial
theorem w_ref31_uniform {p0 : List (List UInt8)} {r : Bool} (h : m_ref31_uniform p0 = some r) : Pure Tryz.prog 127 [slE eStr p0] (· = HV.bool r) := by
 unfold m_ref31_uniform at h
 refine Pure.of_body Tryz.func127 rfl rfl (lb rfl) fun hf => ?_
 unfold Tryz.f127
 dsimp only [enumS, Nat.reduceAdd]
 refine AW.rgs rfl fun K hK => mv rfl rfl ?_
 refine bf hK ⟨[(0, slE eStr p0)], []⟩ ?_
 refine AW.seq ?_
 refine AW.rgs rfl fun K hK => mv rfl rfl ?_
 refine bf hK ⟨[(0, slE eStr p0), (3, hI 0)], []⟩ ?_
 refine AW.lpR h (by first | exact up_then | exact up_to) (S := Int) (V := Unit) (fun a v => ⟨[(0, slE eStr p0), (3, hI a)], []⟩) ?_ (X := Unit) (W := Unit) (fun a v => ⟨[], []⟩) (fun a9 w10 h => ?_) (fun a1 w2 st3 h hr4=> ?_)
 ·exact to_L ⟨(), rfl⟩
 ·refine AW.rgs rfl fun K hK => mv rfl rfl ?_
  refine bf hK ⟨[(2, .bool true)], []⟩ ?_
  refine AW.ret ?_
  have h := Option.some.inj h
  subst h
  exact ret_pure (hs := [.bool true]) (.inr rfl) (resT rfl rfl) rfl trivial
 refine AW.seq ?_
 refine AW.rgs rfl fun K hK => mv rfl rfl (mv rfl rfl (bv rfl (v_lenF rfl rfl ty22 rfl) (bv rfl (v_bin rfl rfl b_lss) ?_)))
 refine bf hK ⟨[(0, slE eStr p0), (3, hI a1), (7, .bool (decide (a1 < ((p0).length : Int))))], []⟩ ?_
 refine AW.cond rfl (fun hc => ?_) (fun hc => ?_)
 ·obtain ⟨hc, h⟩ := cT hc h
  refine AW.skip ?_
  refine AW.seq (AW.block ?_)
  refine AW.dgs 10 follows rfl rfl fun K hK => ?_
  refine sm rfl rfl ?_
  refine sm rfl rfl ?_
  obtain ⟨x5, h6, h⟩ := bS h
  refine sv rfl (v_idxF ty22 es22 rfl rfl (idx_lt h6)) ?_
  refine sv rfl (v_loadF ty9 rfl (l_cell eStr h6 (o := 0) rfl rfl)) ?_
  refine sv rfl (v_lenS rfl rfl ty9 rfl) ?_
  refine sm rfl rfl ?_
  obtain ⟨x7, h8, h⟩ := bS h
  refine sv rfl (v_idxF ty22 es22 rfl rfl (idx_lt h8)) ?_
  refine sv rfl (v_loadF ty9 rfl (l_cell eStr h8 (o := 0) rfl rfl)) ?_
  refine sv rfl (v_lenS rfl rfl ty9 rfl) ?_
  refine sv rfl (v_bin rfl rfl b_neq) ?_
  refine s_nil ?_
  refine bf hK ⟨[(0, slE eStr p0), (3, hI a1), (19, .bool (decide (((x5).length : Int) ≠ ((x7).length : Int))))], []⟩ ?_
  refine AW.cond rfl (fun hc => ?_) (fun hc => ?_)
  ·obtain ⟨hc, h⟩ := cT hc h
   refine AW.rgs rfl fun K hK => mv rfl rfl ?_
   refine bf hK ⟨[(2, .bool false)], []⟩ ?_
   have h := hr4 _ h
   refine AW.ret ?_
   have h := Option.some.inj h
   subst h
   exact ret_pure (hs := [.bool false]) (.inr rfl) (resT rfl rfl) rfl trivial
  obtain ⟨hc, h⟩ := cF hc h
  refine AW.skip ?_
  refine AW.rg rfl fun K hK => mv rfl rfl (bv rfl (v_bin rfl rfl b_add) (mv rfl rfl ?_))
  refine b_nil (hK _ ?_)
  exact to_L ⟨IntKind.wrap .i64 (a1 + 1), (), h, rfl⟩
 obtain ⟨hc, h⟩ := cF hc h
 refine AW.exit ?_
 exact to_L ⟨(), (), h, rfl⟩
theorem w_ref31_binary {p0 : List (List UInt8)} {r : Bool} (h : m_ref31_binary p0 = some r) : Pure Tryz.prog 128 [slE eStr p0] (· = HV.bool r) := by
 unfold m_ref31_binary at h
 refine Pure.of_body Tryz.func128 rfl rfl (lb rfl) fun hf => ?_
 unfold Tryz.f128
 dsimp only [enumS, Nat.reduceAdd]
 refine AW.rgs rfl fun K hK => mv rfl rfl ?_
 refine bf hK ⟨[(0, slE eStr p0)], []⟩ ?_
 refine AW.seq ?_
 refine AW.rgs rfl fun K hK => mv rfl rfl ?_
 refine bf hK ⟨[(0, slE eStr p0), (3, hI 0)], []⟩ ?_
 refine AW.lpR h (by first | exact up_then | exact up_to) (S := Int) (V := Unit) (fun a v => ⟨[(0, slE eStr p0), (3, hI a)], []⟩) ?_ (X := Unit) (W := Unit) (fun a v => ⟨[], []⟩) (fun a25 w26 h => ?_) (fun a1 w2 st3 h hr4=> ?_)
 ·exact to_L ⟨(), rfl⟩
 ·refine AW.rgs rfl fun K hK => mv rfl rfl ?_
  refine bf hK ⟨[(2, .bool true)], []⟩ ?_
  refine AW.ret ?_
  have h := Option.some.inj h
  subst h
  exact ret_pure (hs := [.bool true]) (.inr rfl) (resT rfl rfl) rfl trivial
 refine AW.seq ?_
 refine AW.rgs rfl fun K hK => mv rfl rfl (mv rfl rfl (bv rfl (v_lenF rfl rfl ty22 rfl) (bv rfl (v_bin rfl rfl b_lss) ?_)))
 refine bf hK ⟨[(0, slE eStr p0), (3, hI a1), (8, .bool (decide (a1 < ((p0).length : Int))))], []⟩ ?_
 refine AW.cond rfl (fun hc => ?_) (fun hc => ?_)
 ·obtain ⟨hc, h⟩ := cT hc h
  refine AW.skip ?_
  refine AW.seq (AW.block ?_)
  refine AW.rgs rfl fun K hK => mv rfl rfl ?_
  refine bf hK ⟨[(0, slE eStr p0), (3, hI a1), (4, hI 0)], []⟩ ?_
  refine AW.lpR h (by first | exact up_then | exact up_to) (S := Int) (V := Unit) (fun a v => ⟨[(0, slE eStr p0), (3, hI a1), (4, hI a)], []⟩) ?_ (X := Unit) (W := Unit) (fun a v => ⟨[(0, slE eStr p0), (3, hI a1)], []⟩) (fun a23 w24 h => ?_) (fun a5 w6 st7 h hr8=> ?_)
  ·exact to_L ⟨(), rfl⟩
  ·refine AW.rg rfl fun K hK => mv rfl rfl (bv rfl (v_bin rfl rfl b_add) (mv rfl rfl ?_))
   refine b_nil (hK _ ?_)
   exact to_L ⟨IntKind.wrap .i64 (a1 + 1), (), h, rfl⟩
  refine AW.seq ?_
  refine AW.rgs rfl fun K hK => mv rfl rfl (mv rfl rfl (mv rfl rfl ?_))
  obtain ⟨x9, h10, h⟩ := bS h
  refine bv rfl (v_idxF ty22 es22 rfl rfl (idx_lt h10)) (bv rfl (v_loadF ty9 rfl (l_cell eStr h10 (o := 0) rfl rfl)) (bv rfl (v_lenS rfl rfl ty9 rfl) (bv rfl (v_bin rfl rfl b_lss) ?_)))
  refine bf hK ⟨[(0, slE eStr p0), (3, hI a1), (4, hI a5), (17, .bool (decide (a5 < ((x9).length : Int))))], []⟩ ?_
  refine AW.cond rfl (fun hc => ?_) (fun hc => ?_)
  ·obtain ⟨hc, h⟩ := cT hc h
   refine AW.skip ?_
   refine AW.seq (AW.block ?_)
   refine AW.seqJ h (S := Bool) (V := Unit) (fun a v => ⟨[(0, slE eStr p0), (3, hI a1), (4, hI a5), (35, .bool a)], []⟩) (fun a11 w12 h => ?_) (fun k13 h => ?_)
   ·refine AW.cond rfl (fun hc => ?_) (fun hc => ?_)
    ·have h := ifT hc h
     refine AW.rgs rfl fun K hK => mv rfl rfl ?_
     refine bf hK ⟨[(2, .bool false)], []⟩ ?_
     have h := hr8 _ h
     have h := hr4 _ h
     refine AW.ret ?_
     have h := Option.some.inj h
     subst h
     exact ret_pure (hs := [.bool false]) (.inr rfl) (resT rfl rfl) rfl trivial
    have h := ifF (bF' hc) h
    refine AW.skip ?_
    refine AW.rg rfl fun K hK => mv rfl rfl (bv rfl (v_bin rfl rfl b_add) (mv rfl rfl ?_))
    refine b_nil (hK _ ?_)
    exact to_L ⟨IntKind.wrap .i64 (a5 + 1), (), h, rfl⟩
   refine AW.rg rfl fun K hK => mv rfl rfl (mv rfl rfl ?_)
   obtain ⟨x14, h15, h⟩ := bS h
   refine bv rfl (v_idxF ty22 es22 rfl rfl (idx_lt h15)) (bv rfl (v_loadF ty9 rfl (l_cell eStr h15 (o := 0) rfl rfl)) (mv rfl rfl ?_))
   obtain ⟨x16, h17, h⟩ := bS h
   refine bv rfl (v_idxS ty9 rfl rfl h17) (bv rfl (v_bin rfl rfl b_neq) (mv rfl rfl ?_))
   by_cases hg22 : (x16.toNat : Int) ≠ 48
   ·have h := ifT hg22 h
    refine b_T rfl rfl rfl rfl (decide_eq_true hg22) (o_val rfl (mv_val rfl rfl).2 ?_)
    refine b_T rfl rfl rfl rfl rfl (o_val rfl (mv_val rfl rfl).2 ?_)
    obtain ⟨x18, h19, h⟩ := bS h
    refine b_T rfl rfl rfl rfl rfl (o_val rfl (v_idxF ty22 es22 rfl rfl (idx_lt h19)) ?_)
    refine b_T rfl rfl rfl rfl rfl (o_val rfl (v_loadF ty9 rfl (l_cell eStr h19 (o := 0) rfl rfl)) ?_)
    refine b_T rfl rfl rfl rfl rfl (o_val rfl (mv_val rfl rfl).2 ?_)
    obtain ⟨x20, h21, h⟩ := bS h
    refine b_T rfl rfl rfl rfl rfl (o_val rfl (v_idxS ty9 rfl rfl h21) ?_)
    refine b_T rfl rfl rfl rfl rfl (o_val rfl (v_bin rfl rfl b_neq) ?_)
    refine bv rfl (v_pickT rfl rfl rfl) ?_
    refine b_nil (hK _ ?_)
    exact to_L ⟨decide ((x20.toNat : Int) ≠ 49), (), h, rfl⟩
   have h := ifF hg22 h
   refine b_F rfl rfl rfl rfl rfl (decide_eq_false hg22) ?_
   refine b_F rfl rfl rfl rfl rfl rfl ?_
   refine b_F rfl rfl rfl rfl rfl rfl ?_
   refine b_F rfl rfl rfl rfl rfl rfl ?_
   refine b_F rfl rfl rfl rfl rfl rfl ?_
   refine b_F rfl rfl rfl rfl rfl rfl ?_
   refine b_F rfl rfl rfl rfl rfl rfl ?_
   refine bv rfl (v_pickF rfl rfl rfl) ?_
   refine b_nil (hK _ ?_)
   exact to_L ⟨false, (), h, rfl⟩
  obtain ⟨hc, h⟩ := cF hc h
  refine AW.exit ?_
  exact to_L ⟨(), (), h, rfl⟩
 obtain ⟨hc, h⟩ := cF hc h
 refine AW.exit ?_
 exact to_L ⟨(), (), h, rfl⟩
theorem w_ref31_place {p0 : List (List UInt8)} {p1 : List UInt8} {r : Int} (h : m_ref31_place p0 p1 = some r) : Pure Tryz.prog 80 [slE eStr p0, .str p1] (· = hI r) := by
 unfold m_ref31_place at h
 refine Pure.of_body Tryz.func80 rfl rfl (lb rfl) fun hf => ?_
 unfold Tryz.f80
 dsimp only [enumS, Nat.reduceAdd]
 refine AW.rgs rfl fun K hK => mv rfl rfl ?_
 refine bf hK ⟨[(0, slE eStr p0), (1, .str p1)], []⟩ ?_
 refine AW.seq ?_
 refine AW.rgs rfl fun K hK => mv rfl rfl ?_
 refine bf hK ⟨[(0, slE eStr p0), (1, .str p1), (5, hI 0)], []⟩ ?_
 refine AW.lpR h (by first | exact up_then | exact up_to) (S := Int) (V := Unit) (fun a v => ⟨[(0, slE eStr p0), (1, .str p1), (5, hI a)], []⟩) ?_ (X := Unit) (W := Unit) (fun a v => ⟨[], []⟩) (fun a7 w8 h => ?_) (fun a1 w2 st3 h hr4=> ?_)
 ·exact to_L ⟨(), rfl⟩
 ·refine AW.rgs rfl fun K hK => mv rfl rfl ?_
  refine bf hK ⟨[(4, hI (-1))], []⟩ ?_
  refine AW.ret ?_
  have h := Option.some.inj h
  subst h
  exact ret_pure (hs := [hI (-1)]) (.inr rfl) (resT rfl rfl) rfl trivial
 refine AW.seq ?_
 refine AW.rgs rfl fun K hK => mv rfl rfl (mv rfl rfl (bv rfl (v_lenF rfl rfl ty22 rfl) (bv rfl (v_bin rfl rfl b_lss) ?_)))
 refine bf hK ⟨[(0, slE eStr p0), (1, .str p1), (5, hI a1), (9, .bool (decide (a1 < ((p0).length : Int))))], []⟩ ?_
 refine AW.cond rfl (fun hc => ?_) (fun hc => ?_)
 ·obtain ⟨hc, h⟩ := cT hc h
  refine AW.skip ?_
  refine AW.seq (AW.block ?_)
  refine AW.rgs rfl fun K hK => mv rfl rfl (mv rfl rfl ?_)
  obtain ⟨x5, h6, h⟩ := bS h
  refine bv rfl (v_idxF ty22 es22 rfl rfl (idx_lt h6)) (bv rfl (v_loadF ty9 rfl (l_cell eStr h6 (o := 0) rfl rfl)) (mv rfl rfl (bv rfl (v_bin rfl rfl b_seql) ?_)))
  refine bf hK ⟨[(0, slE eStr p0), (1, .str p1), (5, hI a1), (17, .bool (decide (x5 = p1)))], []⟩ ?_
  refine AW.cond rfl (fun hc => ?_) (fun hc => ?_)
  ·obtain ⟨hc, h⟩ := cT hc h
   refine AW.rgs rfl fun K hK => mv rfl rfl (mv rfl rfl ?_)
   refine bf hK ⟨[(4, hI a1)], []⟩ ?_
   have h := hr4 _ h
   refine AW.ret ?_
   have h := Option.some.inj h
   subst h
   exact ret_pure (hs := [hI a1]) (.inr rfl) (resT rfl rfl) rfl trivial
  obtain ⟨hc, h⟩ := cF hc h
  refine AW.skip ?_
  refine AW.rg rfl fun K hK => mv rfl rfl (bv rfl (v_bin rfl rfl b_add) (mv rfl rfl ?_))
  refine b_nil (hK _ ?_)
  exact to_L ⟨IntKind.wrap .i64 (a1 + 1), (), h, rfl⟩
 obtain ⟨hc, h⟩ := cF hc h
 refine AW.exit ?_
 exact to_L ⟨(), (), h, rfl⟩
theorem w_ref31_different {p0 : List (List UInt8)} {r : Bool} (h : m_ref31_different p0 = some r) : Pure Tryz.prog 129 [slE eStr p0] (· = HV.bool r) := by
 unfold m_ref31_different at h
 refine Pure.of_body Tryz.func129 rfl rfl (lb rfl) fun hf => ?_
 unfold Tryz.f129
 dsimp only [enumS, Nat.reduceAdd]
 refine AW.rgs rfl fun K hK => mv rfl rfl ?_
 refine bf hK ⟨[(0, slE eStr p0)], []⟩ ?_
 refine AW.seq ?_
 refine AW.rgs rfl fun K hK => mv rfl rfl ?_
 refine bf hK ⟨[(0, slE eStr p0), (3, hI 0)], []⟩ ?_
 refine AW.lpR h (by first | exact up_then | exact up_to) (S := Int) (V := Unit) (fun a v => ⟨[(0, slE eStr p0), (3, hI a)], []⟩) ?_ (X := Unit) (W := Unit) (fun a v => ⟨[], []⟩) (fun a10 w11 h => ?_) (fun a1 w2 st3 h hr4=> ?_)
 ·exact to_L ⟨(), rfl⟩
 ·refine AW.rgs rfl fun K hK => mv rfl rfl ?_
  refine bf hK ⟨[(2, .bool true)], []⟩ ?_
  refine AW.ret ?_
  have h := Option.some.inj h
  subst h
  exact ret_pure (hs := [.bool true]) (.inr rfl) (resT rfl rfl) rfl trivial
 refine AW.seq ?_
 refine AW.rgs rfl fun K hK => mv rfl rfl (mv rfl rfl (bv rfl (v_lenF rfl rfl ty22 rfl) (bv rfl (v_bin rfl rfl b_lss) ?_)))
 refine bf hK ⟨[(0, slE eStr p0), (3, hI a1), (7, .bool (decide (a1 < ((p0).length : Int))))], []⟩ ?_
 refine AW.cond rfl (fun hc => ?_) (fun hc => ?_)
 ·obtain ⟨hc, h⟩ := cT hc h
  refine AW.skip ?_
  refine AW.seq (AW.block ?_)
  refine AW.dgs 9 follows rfl rfl fun K hK => ?_
  refine sm rfl rfl ?_
  refine sm rfl rfl ?_
  obtain ⟨h5, h⟩ := ifN h
  refine sv rfl (v_sliceF eStr ty22 es22 rfl rfl rfl h5) ?_
  refine sm rfl rfl ?_
  refine sm rfl rfl ?_
  obtain ⟨x6, h7, h⟩ := bS h
  refine sv rfl (v_idxF ty22 es22 rfl rfl (idx_lt h7)) ?_
  refine sv rfl (v_loadF ty9 rfl (l_cell eStr h7 (o := 0) rfl rfl)) ?_
  obtain ⟨x8, h9, h⟩ := bS h
  refine s_op rfl rfl (ops_call rfl rfl rfl rfl (ACallD.pure0 (w_ref31_place h9)) ?_)
  refine sv rfl (v_bin rfl rfl b_geq) ?_
  refine s_nil ?_
  refine bf hK ⟨[(0, slE eStr p0), (3, hI a1), (18, .bool (decide (0 ≤ x8)))], []⟩ ?_
  refine AW.cond rfl (fun hc => ?_) (fun hc => ?_)
  ·obtain ⟨hc, h⟩ := cT hc h
   refine AW.rgs rfl fun K hK => mv rfl rfl ?_
   refine bf hK ⟨[(2, .bool false)], []⟩ ?_
   have h := hr4 _ h
   refine AW.ret ?_
   have h := Option.some.inj h
   subst h
   exact ret_pure (hs := [.bool false]) (.inr rfl) (resT rfl rfl) rfl trivial
  obtain ⟨hc, h⟩ := cF hc h
  refine AW.skip ?_
  refine AW.rg rfl fun K hK => mv rfl rfl (bv rfl (v_bin rfl rfl b_add) (mv rfl rfl ?_))
  refine b_nil (hK _ ?_)
  exact to_L ⟨IntKind.wrap .i64 (a1 + 1), (), h, rfl⟩
 obtain ⟨hc, h⟩ := cF hc h
 refine AW.exit ?_
 exact to_L ⟨(), (), h, rfl⟩
theorem w_ref31_Form {p0 : TWordsMerges} {r : Int} (h : m_ref31_Form p0 = some r) : Pure Tryz.prog 79 [jA p0] (· = hI r) := by
 unfold m_ref31_Form at h
 refine Pure.of_body Tryz.func79 rfl rfl (lb rfl) fun hf => ?_
 unfold Tryz.f79
 dsimp only [enumS, Nat.reduceAdd]
 refine AW.rgs rfl fun K hK => b_op rfl (o_box rfl rfl rfl ?_)
 refine mv rfl rfl ?_
 refine bf hK ⟨[(1, jF p0)], []⟩ ?_
 refine AW.seq ?_
 refine AW.seqJ h (S := Bool) (V := Unit) (fun a v => ⟨[(1, jF p0), (13, .bool a)], []⟩) (fun a1 w2 h => ?_) (fun k3 h => ?_)
 ·refine AW.cond rfl (fun hc => ?_) (fun hc => ?_)
  ·have h := ifT hc h
   refine AW.rgs rfl fun K hK => mv rfl rfl ?_
   refine bf hK ⟨[(2, hI 5)], []⟩ ?_
   refine AW.ret ?_
   have h := Option.some.inj h
   subst h
   exact ret_pure (hs := [hI 5]) (.inr rfl) (resT rfl rfl) rfl trivial
  have h := ifF (bF' hc) h
  refine AW.skip ?_
  refine AW.seq ?_
  refine AW.seqJ h (S := Bool) (V := Unit) (fun a v => ⟨[(1, jF p0), (23, .bool a)], []⟩) (fun a4 w5 h => ?_) (fun k6 h => ?_)
  ·refine AW.cond rfl (fun hc => ?_) (fun hc => ?_)
   ·have h := ifT hc h
    refine AW.rgs rfl fun K hK => mv rfl rfl ?_
    refine bf hK ⟨[(2, hI 4)], []⟩ ?_
    refine AW.ret ?_
    have h := Option.some.inj h
    subst h
    exact ret_pure (hs := [hI 4]) (.inr rfl) (resT rfl rfl) rfl trivial
   have h := ifF (bF' hc) h
   refine AW.skip ?_
   refine AW.seq ?_
   refine AW.seqJ h (S := Bool) (V := Unit) (fun a v => ⟨[(1, jF p0), (33, .bool a)], []⟩) (fun a7 w8 h => ?_) (fun k9 h => ?_)
   ·refine AW.cond rfl (fun hc => ?_) (fun hc => ?_)
    ·have h := ifT hc h
     refine AW.rgs rfl fun K hK => mv rfl rfl ?_
     refine bf hK ⟨[(2, hI 11)], []⟩ ?_
     refine AW.ret ?_
     have h := Option.some.inj h
     subst h
     exact ret_pure (hs := [hI 11]) (.inr rfl) (resT rfl rfl) rfl trivial
    have h := ifF (bF' hc) h
    refine AW.skip ?_
    refine AW.rgs rfl fun K hK => bv rfl (v_fieldAddrF fo24_0 rfl) (bv rfl (v_loadF ty22 rfl (l_lit rfl rfl)) ?_)
    obtain ⟨x10, h11, h⟩ := bS h
    refine bv rfl (v_idxF ty22 es22 rfl rfl (idx_lt h11)) (bv rfl (v_loadF ty9 rfl (l_cell eStr h11 (o := 0) rfl rfl)) (bv rfl (v_lenS rfl rfl ty9 rfl) (mv rfl rfl ?_)))
    refine bf hK ⟨[(1, jF p0), (3, hI ((x10).length : Int))], []⟩ ?_
    refine AW.seq ?_
    refine AW.seqJ h (S := Bool) (V := Unit) (fun a v => ⟨[(1, jF p0), (52, .bool a)], []⟩) (fun a12 w13 h => ?_) (fun k14 h => ?_)
    ·refine AW.cond rfl (fun hc => ?_) (fun hc => ?_)
     ·have h := ifT hc h
      refine AW.rgs rfl fun K hK => mv rfl rfl ?_
      refine bf hK ⟨[(2, hI 2)], []⟩ ?_
      refine AW.ret ?_
      have h := Option.some.inj h
      subst h
      exact ret_pure (hs := [hI 2]) (.inr rfl) (resT rfl rfl) rfl trivial
     have h := ifF (bF' hc) h
     refine AW.skip ?_
     refine AW.seq ?_
     refine AW.seqJ h (S := Bool) (V := Unit) (fun a v => ⟨[(1, jF p0), (62, .bool a)], []⟩) (fun a15 w16 h => ?_) (fun k17 h => ?_)
     ·refine AW.cond rfl (fun hc => ?_) (fun hc => ?_)
      ·have h := ifT hc h
       refine AW.rgs rfl fun K hK => mv rfl rfl ?_
       refine bf hK ⟨[(2, hI 13)], []⟩ ?_
       refine AW.ret ?_
       have h := Option.some.inj h
       subst h
       exact ret_pure (hs := [hI 13]) (.inr rfl) (resT rfl rfl) rfl trivial
      have h := ifF (bF' hc) h
      refine AW.skip ?_
      refine AW.seq ?_
      refine AW.seqJ h (S := Bool) (V := Unit) (fun a v => ⟨[(72, .bool a)], []⟩) (fun a18 w19 h => ?_) (fun k20 h => ?_)
      ·refine AW.cond rfl (fun hc => ?_) (fun hc => ?_)
       ·have h := ifT hc h
        refine AW.rgs rfl fun K hK => mv rfl rfl ?_
        refine bf hK ⟨[(2, hI 7)], []⟩ ?_
        refine AW.ret ?_
        have h := Option.some.inj h
        subst h
        exact ret_pure (hs := [hI 7]) (.inr rfl) (resT rfl rfl) rfl trivial
       have h := ifF (bF' hc) h
       refine AW.skip ?_
       refine AW.rgs rfl fun K hK => mv rfl rfl ?_
       refine bf hK ⟨[(2, hI 0)], []⟩ ?_
       refine AW.ret ?_
       have h := Option.some.inj h
       subst h
       exact ret_pure (hs := [hI 0]) (.inr rfl) (resT rfl rfl) rfl trivial
      refine AW.rg rfl fun K hK => bv rfl (v_fieldAddrF fo24_0 rfl) (bv rfl (v_loadF ty22 rfl (l_lit rfl rfl)) ?_)
      obtain ⟨x21, h22, h⟩ := bS h
      refine b_op rfl (o_call rfl rfl rfl rfl (ACallD.pure0 (w_ref31_different h22)) ?_)
      refine bv rfl (v_not rfl) (mv rfl rfl ?_)
      by_cases hg25 : (!x21) = true
      ·have h := ifT hg25 h
       refine b_F rfl rfl rfl rfl rfl hg25 ?_
       refine b_F rfl rfl rfl rfl rfl rfl ?_
       refine b_F rfl rfl rfl rfl rfl rfl ?_
       refine b_F rfl rfl rfl rfl rfl rfl ?_
       refine bv rfl (v_pickT rfl rfl rfl) ?_
       refine b_nil (hK _ ?_)
       exact to_L ⟨true, (), h, rfl⟩
      have h := ifF hg25 h
      refine b_T rfl rfl rfl rfl (bF hg25) (o_val rfl (v_fieldAddrF fo24_1 rfl) ?_)
      refine b_T rfl rfl rfl rfl rfl (o_val rfl (v_loadF ty22 rfl (l_lit rfl rfl)) ?_)
      obtain ⟨x23, h24, h⟩ := bS h
      refine b_T rfl rfl rfl rfl rfl (o_call rfl rfl rfl rfl (ACallD.pure0 (w_ref31_different h24)) ?_)
      refine b_T rfl rfl rfl rfl rfl (o_val rfl (v_not rfl) ?_)
      refine bv rfl (v_pickF rfl rfl rfl) ?_
      refine b_nil (hK _ ?_)
      exact to_L ⟨!x23, (), h, rfl⟩
     refine AW.rg rfl fun K hK => bv rfl (v_fieldAddrF fo24_0 rfl) (bv rfl (v_loadF ty22 rfl (l_lit rfl rfl)) ?_)
     obtain ⟨x26, h27, h⟩ := bS h
     refine b_op rfl (o_call rfl rfl rfl rfl (ACallD.pure0 (w_ref31_binary h27)) ?_)
     refine bv rfl (v_not rfl) (mv rfl rfl ?_)
     by_cases hg30 : (!x26) = true
     ·have h := ifT hg30 h
      refine b_F rfl rfl rfl rfl rfl hg30 ?_
      refine b_F rfl rfl rfl rfl rfl rfl ?_
      refine b_F rfl rfl rfl rfl rfl rfl ?_
      refine b_F rfl rfl rfl rfl rfl rfl ?_
      refine bv rfl (v_pickT rfl rfl rfl) ?_
      refine b_nil (hK _ ?_)
      exact to_L ⟨true, (), h, rfl⟩
     have h := ifF hg30 h
     refine b_T rfl rfl rfl rfl (bF hg30) (o_val rfl (v_fieldAddrF fo24_1 rfl) ?_)
     refine b_T rfl rfl rfl rfl rfl (o_val rfl (v_loadF ty22 rfl (l_lit rfl rfl)) ?_)
     obtain ⟨x28, h29, h⟩ := bS h
     refine b_T rfl rfl rfl rfl rfl (o_call rfl rfl rfl rfl (ACallD.pure0 (w_ref31_binary h29)) ?_)
     refine b_T rfl rfl rfl rfl rfl (o_val rfl (v_not rfl) ?_)
     refine bv rfl (v_pickF rfl rfl rfl) ?_
     refine b_nil (hK _ ?_)
     exact to_L ⟨!x28, (), h, rfl⟩
    refine AW.rg rfl fun K hK => mv rfl rfl (bv rfl (v_bin rfl rfl b_lss) (mv rfl rfl ?_))
    by_cases hg34 : ((x10).length : Int) < 1
    ·have h := ifT hg34 h
     refine b_F rfl rfl rfl rfl rfl (decide_eq_true hg34) ?_
     refine b_F rfl rfl rfl rfl rfl rfl ?_
     refine bv rfl (v_pickT rfl rfl rfl) (mv rfl rfl ?_)
     refine b_F rfl rfl rfl rfl rfl rfl ?_
     refine b_F rfl rfl rfl rfl rfl rfl ?_
     refine b_F rfl rfl rfl rfl rfl rfl ?_
     refine b_F rfl rfl rfl rfl rfl rfl ?_
     refine b_F rfl rfl rfl rfl rfl rfl ?_
     refine b_F rfl rfl rfl rfl rfl rfl ?_
     refine bv rfl (v_pickT rfl rfl rfl) ?_
     refine b_nil (hK _ ?_)
     exact to_L ⟨true, (), h, rfl⟩
    have h := ifF hg34 h
    refine b_T rfl rfl rfl rfl (decide_eq_false hg34) (o_val rfl (mv_val rfl rfl).2 ?_)
    refine b_T rfl rfl rfl rfl rfl (o_val rfl (v_bin rfl rfl b_gtr) ?_)
    refine bv rfl (v_pickF rfl rfl rfl) (mv rfl rfl ?_)
    by_cases hg33 : 16 < ((x10).length : Int)
    ·have h := ifT hg33 h
     refine b_F rfl rfl rfl rfl rfl (decide_eq_true hg33) ?_
     refine b_F rfl rfl rfl rfl rfl rfl ?_
     refine b_F rfl rfl rfl rfl rfl rfl ?_
     refine b_F rfl rfl rfl rfl rfl rfl ?_
     refine b_F rfl rfl rfl rfl rfl rfl ?_
     refine b_F rfl rfl rfl rfl rfl rfl ?_
     refine bv rfl (v_pickT rfl rfl rfl) ?_
     refine b_nil (hK _ ?_)
     exact to_L ⟨true, (), h, rfl⟩
    have h := ifF hg33 h
    refine b_T rfl rfl rfl rfl (decide_eq_false hg33) (o_val rfl (v_fieldAddrF fo24_1 rfl) ?_)
    refine b_T rfl rfl rfl rfl rfl (o_val rfl (v_loadF ty22 rfl (l_lit rfl rfl)) ?_)
    obtain ⟨x31, h32, h⟩ := bS h
    refine b_T rfl rfl rfl rfl rfl (o_val rfl (v_idxF ty22 es22 rfl rfl (idx_lt h32)) ?_)
    refine b_T rfl rfl rfl rfl rfl (o_val rfl (v_loadF ty9 rfl (l_cell eStr h32 (o := 0) rfl rfl)) ?_)
    refine b_T rfl rfl rfl rfl rfl (o_val rfl (v_lenS rfl rfl ty9 rfl) ?_)
    refine b_T rfl rfl rfl rfl rfl (o_val rfl (v_bin rfl rfl b_gtr) ?_)
    refine bv rfl (v_pickF rfl rfl rfl) ?_
    refine b_nil (hK _ ?_)
    exact to_L ⟨decide (16 < ((x31).length : Int)), (), h, rfl⟩
   refine AW.rg rfl fun K hK => bv rfl (v_fieldAddrF fo24_0 rfl) (bv rfl (v_loadF ty22 rfl (l_lit rfl rfl)) ?_)
   obtain ⟨x35, h36, h⟩ := bS h
   refine b_op rfl (o_call rfl rfl rfl rfl (ACallD.pure0 (w_ref31_uniform h36)) ?_)
   refine bv rfl (v_not rfl) (mv rfl rfl ?_)
   by_cases hg39 : (!x35) = true
   ·have h := ifT hg39 h
    refine b_F rfl rfl rfl rfl rfl hg39 ?_
    refine b_F rfl rfl rfl rfl rfl rfl ?_
    refine b_F rfl rfl rfl rfl rfl rfl ?_
    refine b_F rfl rfl rfl rfl rfl rfl ?_
    refine bv rfl (v_pickT rfl rfl rfl) ?_
    refine b_nil (hK _ ?_)
    exact to_L ⟨true, (), h, rfl⟩
   have h := ifF hg39 h
   refine b_T rfl rfl rfl rfl (bF hg39) (o_val rfl (v_fieldAddrF fo24_1 rfl) ?_)
   refine b_T rfl rfl rfl rfl rfl (o_val rfl (v_loadF ty22 rfl (l_lit rfl rfl)) ?_)
   obtain ⟨x37, h38, h⟩ := bS h
   refine b_T rfl rfl rfl rfl rfl (o_call rfl rfl rfl rfl (ACallD.pure0 (w_ref31_uniform h38)) ?_)
   refine b_T rfl rfl rfl rfl rfl (o_val rfl (v_not rfl) ?_)
   refine bv rfl (v_pickF rfl rfl rfl) ?_
   refine b_nil (hK _ ?_)
   exact to_L ⟨!x37, (), h, rfl⟩
  refine AW.rg rfl fun K hK => bv rfl (v_fieldAddrF fo24_0 rfl) (bv rfl (v_loadF ty22 rfl (l_lit rfl rfl)) (bv rfl (v_lenF rfl rfl ty22 rfl) (bv rfl (v_bin rfl rfl b_gtr) (mv rfl rfl ?_))))
  by_cases hg40 : 256 < ((p0.1).length : Int)
  ·have h := ifT hg40 h
   refine b_F rfl rfl rfl rfl rfl (decide_eq_true hg40) ?_
   refine b_F rfl rfl rfl rfl rfl rfl ?_
   refine b_F rfl rfl rfl rfl rfl rfl ?_
   refine b_F rfl rfl rfl rfl rfl rfl ?_
   refine bv rfl (v_pickT rfl rfl rfl) ?_
   refine b_nil (hK _ ?_)
   exact to_L ⟨true, (), h, rfl⟩
  have h := ifF hg40 h
  refine b_T rfl rfl rfl rfl (decide_eq_false hg40) (o_val rfl (v_fieldAddrF fo24_1 rfl) ?_)
  refine b_T rfl rfl rfl rfl rfl (o_val rfl (v_loadF ty22 rfl (l_lit rfl rfl)) ?_)
  refine b_T rfl rfl rfl rfl rfl (o_val rfl (v_lenF rfl rfl ty22 rfl) ?_)
  refine b_T rfl rfl rfl rfl rfl (o_val rfl (v_bin rfl rfl b_gtr) ?_)
  refine bv rfl (v_pickF rfl rfl rfl) ?_
  refine b_nil (hK _ ?_)
  exact to_L ⟨decide (256 < ((p0.2).length : Int)), (), h, rfl⟩
 refine AW.rg rfl fun K hK => bv rfl (v_fieldAddrF fo24_0 rfl) (bv rfl (v_loadF ty22 rfl (l_lit rfl rfl)) (bv rfl (v_lenF rfl rfl ty22 rfl) (bv rfl (v_bin rfl rfl b_eql) (mv rfl rfl ?_))))
 by_cases hg41 : ((p0.1).length : Int) = 0
 ·have h := ifT hg41 h
  refine b_F rfl rfl rfl rfl rfl (decide_eq_true hg41) ?_
  refine b_F rfl rfl rfl rfl rfl rfl ?_
  refine b_F rfl rfl rfl rfl rfl rfl ?_
  refine b_F rfl rfl rfl rfl rfl rfl ?_
  refine bv rfl (v_pickT rfl rfl rfl) ?_
  refine b_nil (hK _ ?_)
  exact to_L ⟨true, (), h, rfl⟩
 have h := ifF hg41 h
 refine b_T rfl rfl rfl rfl (decide_eq_false hg41) (o_val rfl (v_fieldAddrF fo24_1 rfl) ?_)
 refine b_T rfl rfl rfl rfl rfl (o_val rfl (v_loadF ty22 rfl (l_lit rfl rfl)) ?_)
 refine b_T rfl rfl rfl rfl rfl (o_val rfl (v_lenF rfl rfl ty22 rfl) ?_)
 refine b_T rfl rfl rfl rfl rfl (o_val rfl (v_bin rfl rfl b_eql) ?_)
 refine bv rfl (v_pickF rfl rfl rfl) ?_
 refine b_nil (hK _ ?_)
 exact to_L ⟨decide (((p0.2).length : Int) = 0), (), h, rfl⟩
theorem w_ref31_joined {p0 : List (List UInt8)} {p1 : TLabelsStatesEdges} {p2 : List UInt8} {p3 : List UInt8} {r : Bool} (h : m_ref31_joined p0 p1 p2 p3 = some r) : Pure Tryz.prog 88 [slE eStr p0, gA p1, .str p2, .str p3] (· = HV.bool r) := by
 unfold m_ref31_joined at h
 refine Pure.of_body Tryz.func88 rfl rfl (lb rfl) fun hf => ?_
 unfold Tryz.f88
 dsimp only [enumS, Nat.reduceAdd]
 refine AW.rgs rfl fun K hK => b_op rfl (o_box rfl rfl rfl ?_)
 refine mv rfl rfl ?_
 refine bf hK ⟨[(0, slE eStr p0), (2, .str p2), (3, .str p3), (5, gF p1)], []⟩ ?_
 refine AW.seq ?_
 refine AW.rgs rfl fun K hK => mv rfl rfl ?_
 refine bf hK ⟨[(0, slE eStr p0), (2, .str p2), (3, .str p3), (5, gF p1), (9, hI 0)], []⟩ ?_
 refine AW.lpR h (by first | exact up_then | exact up_to) (S := Int) (V := Unit) (fun a v => ⟨[(0, slE eStr p0), (2, .str p2), (3, .str p3), (5, gF p1), (9, hI a)], []⟩) ?_ (X := Unit) (W := Unit) (fun a v => ⟨[], []⟩) (fun a11 w12 h => ?_) (fun a1 w2 st3 h hr4=> ?_)
 ·exact to_L ⟨(), rfl⟩
 ·refine AW.rgs rfl fun K hK => mv rfl rfl ?_
  refine bf hK ⟨[(8, .bool false)], []⟩ ?_
  refine AW.ret ?_
  have h := Option.some.inj h
  subst h
  exact ret_pure (hs := [.bool false]) (.inr rfl) (resT rfl rfl) rfl trivial
 refine AW.seq ?_
 refine AW.rgs rfl fun K hK => mv rfl rfl (mv rfl rfl (bv rfl (v_lenF rfl rfl ty22 rfl) (bv rfl (v_bin rfl rfl b_lss) ?_)))
 refine bf hK ⟨[(0, slE eStr p0), (2, .str p2), (3, .str p3), (5, gF p1), (9, hI a1), (13, .bool (decide (a1 < ((p0).length : Int))))], []⟩ ?_
 refine AW.cond rfl (fun hc => ?_) (fun hc => ?_)
 ·obtain ⟨hc, h⟩ := cT hc h
  refine AW.skip ?_
  refine AW.seq (AW.block ?_)
  refine AW.dgs 10 follows rfl rfl fun K hK => ?_
  refine sv rfl (v_loadF ty27 rfl (l_litA rfl (lb rfl) rfl)) ?_
  refine sm rfl rfl ?_
  refine sm rfl rfl ?_
  refine sm rfl rfl ?_
  obtain ⟨x5, h6, h⟩ := bS h
  refine sv rfl (v_idxF ty22 es22 rfl rfl (idx_lt h6)) ?_
  refine sv rfl (v_loadF ty9 rfl (l_cell eStr h6 (o := 0) rfl rfl)) ?_
  obtain ⟨h7, h⟩ := ifN h
  refine sv rfl (v_bin rfl rfl (b_sadd h7)) ?_
  refine sm rfl rfl ?_
  obtain ⟨h8, h⟩ := ifN h
  refine sv rfl (v_bin rfl rfl (b_sadd h8)) ?_
  obtain ⟨x9, h10, h⟩ := bS h
  refine s_op rfl rfl (ops_call rfl rfl rfl rfl (ACallD.pure0 (w_ref31_accepts h10)) ?_)
  refine s_nil ?_
  refine bf hK ⟨[(0, slE eStr p0), (2, .str p2), (3, .str p3), (5, gF p1), (9, hI a1), (25, .bool x9)], []⟩ ?_
  refine AW.cond rfl (fun hc => ?_) (fun hc => ?_)
  ·have h := ifT hc h
   refine AW.rgs rfl fun K hK => mv rfl rfl ?_
   refine bf hK ⟨[(8, .bool true)], []⟩ ?_
   have h := hr4 _ h
   refine AW.ret ?_
   have h := Option.some.inj h
   subst h
   exact ret_pure (hs := [.bool true]) (.inr rfl) (resT rfl rfl) rfl trivial
  have h := ifF (bF' hc) h
  refine AW.skip ?_
  refine AW.rg rfl fun K hK => mv rfl rfl (bv rfl (v_bin rfl rfl b_add) (mv rfl rfl ?_))
  refine b_nil (hK _ ?_)
  exact to_L ⟨IntKind.wrap .i64 (a1 + 1), (), h, rfl⟩
 obtain ⟨hc, h⟩ := cF hc h
 refine AW.exit ?_
 exact to_L ⟨(), (), h, rfl⟩
theorem w_ref31_Check {p0 : TWordsMerges} {p1 : TLabelsStatesEdges} {r : Int} (h : m_ref31_Check p0 p1 = some r) : Pure Tryz.prog 36 [jA p0, gA p1] (· = hI r) := by
 unfold m_ref31_Check at h
 refine Pure.of_body Tryz.func36 rfl rfl (lb rfl) fun hf => ?_
 unfold Tryz.f36
 dsimp only [enumS, Nat.reduceAdd]
 refine AW.rgs rfl fun K hK => b_op rfl (o_box rfl rfl rfl ?_)
 refine b_op rfl (o_box rfl rfl rfl ?_)
 refine mv rfl rfl ?_
 refine bf hK ⟨[(2, jF p0), (3, gF p1)], []⟩ ?_
 refine AW.seq ?_
 refine AW.rgs rfl fun K hK => bv rfl (v_loadF ty27 rfl (l_litA rfl (lb rfl) rfl)) ?_
 obtain ⟨x1, h2, h⟩ := bS h
 refine b_op rfl (o_call rfl rfl rfl rfl (ACallD.pure0 (w_ref09_Check h2)) ?_)
 refine bv rfl (v_bin rfl rfl b_neq) ?_
 refine bf hK ⟨[(2, jF p0), (3, gF p1), (11, .bool (decide (x1 ≠ 0)))], []⟩ ?_
 refine AW.cond rfl (fun hc => ?_) (fun hc => ?_)
 ·obtain ⟨hc, h⟩ := cT hc h
  refine AW.rgs rfl fun K hK => mv rfl rfl ?_
  refine bf hK ⟨[(4, hI 1)], []⟩ ?_
  refine AW.ret ?_
  have h := Option.some.inj h
  subst h
  exact ret_pure (hs := [hI 1]) (.inr rfl) (resT rfl rfl) rfl trivial
 obtain ⟨hc, h⟩ := cF hc h
 refine AW.skip ?_
 refine AW.seq ?_
 refine AW.rgs rfl fun K hK => bv rfl (v_fieldAddrF fo27_0 rfl) (bv rfl (v_loadF ty3 rfl (l_lit rfl rfl)) (bv rfl (v_bin rfl rfl b_neq) ?_))
 refine bf hK ⟨[(2, jF p0), (3, gF p1), (14, .bool (decide (p1.1 ≠ 2)))], []⟩ ?_
 refine AW.cond rfl (fun hc => ?_) (fun hc => ?_)
 ·obtain ⟨hc, h⟩ := cT hc h
  refine AW.rgs rfl fun K hK => mv rfl rfl ?_
  refine bf hK ⟨[(4, hI 12)], []⟩ ?_
  refine AW.ret ?_
  have h := Option.some.inj h
  subst h
  exact ret_pure (hs := [hI 12]) (.inr rfl) (resT rfl rfl) rfl trivial
 obtain ⟨hc, h⟩ := cF hc h
 refine AW.skip ?_
 refine AW.seq ?_
 refine AW.rgs rfl fun K hK => bv rfl (v_loadF ty24 rfl (l_litA rfl (lb rfl) rfl)) ?_
 obtain ⟨x3, h4, h⟩ := bS h
 refine b_op rfl (o_call rfl rfl rfl rfl (ACallD.pure0 (w_ref31_Form h4)) ?_)
 refine mv rfl rfl ?_
 refine bf hK ⟨[(2, jF p0), (3, gF p1), (5, hI x3)], []⟩ ?_
 refine AW.rgs rfl fun K hK => mv rfl rfl (bv rfl (v_bin rfl rfl b_neq) ?_)
 refine bf hK ⟨[(2, jF p0), (3, gF p1), (5, hI x3), (18, .bool (decide (x3 ≠ 0)))], []⟩ ?_
 refine AW.cond rfl (fun hc => ?_) (fun hc => ?_)
 ·obtain ⟨hc, h⟩ := cT hc h
  refine AW.rgs rfl fun K hK => mv rfl rfl (mv rfl rfl ?_)
  refine bf hK ⟨[(4, hI x3)], []⟩ ?_
  refine AW.ret ?_
  have h := Option.some.inj h
  subst h
  exact ret_pure (hs := [hI x3]) (.inr rfl) (resT rfl rfl) rfl trivial
 obtain ⟨hc, h⟩ := cF hc h
 refine AW.skip ?_
 refine AW.seq ?_
 refine AW.rgs rfl fun K hK => mv rfl rfl ?_
 refine bf hK ⟨[(2, jF p0), (3, gF p1), (6, hI 0)], []⟩ ?_
 refine AW.lpR h (by first | exact up_then | exact up_to) (S := Int) (V := Unit) (fun a v => ⟨[(2, jF p0), (3, gF p1), (6, hI a)], []⟩) ?_ (X := Unit) (W := Unit) (fun a v => ⟨[(2, jF p0), (3, gF p1)], []⟩) (fun a13 w14 h => ?_) (fun a5 w6 st7 h hr8=> ?_)
 ·exact to_L ⟨(), rfl⟩
 ·refine AW.seq ?_
  refine AW.rgs rfl fun K hK => mv rfl rfl ?_
  refine bf hK ⟨[(2, jF p0), (3, gF p1), (7, hI 0)], []⟩ ?_
  refine AW.lpR h (by first | exact up_then | exact up_to) (S := Int) (V := Unit) (fun a v => ⟨[(2, jF p0), (3, gF p1), (7, hI a)], []⟩) ?_ (X := Unit) (W := Unit) (fun a v => ⟨[], []⟩) (fun a31 w32 h => ?_) (fun a15 w16 st17 h hr18=> ?_)
  ·exact to_L ⟨(), rfl⟩
  ·refine AW.rgs rfl fun K hK => mv rfl rfl ?_
   refine bf hK ⟨[(4, hI 0)], []⟩ ?_
   refine AW.ret ?_
   have h := Option.some.inj h
   subst h
   exact ret_pure (hs := [hI 0]) (.inr rfl) (resT rfl rfl) rfl trivial
  refine AW.seq ?_
  refine AW.rgs rfl fun K hK => mv rfl rfl (bv rfl (v_fieldAddrF fo24_0 rfl) (bv rfl (v_loadF ty22 rfl (l_lit rfl rfl)) (bv rfl (v_lenF rfl rfl ty22 rfl) (bv rfl (v_bin rfl rfl b_lss) ?_))))
  refine bf hK ⟨[(2, jF p0), (3, gF p1), (7, hI a15), (39, .bool (decide (a15 < ((p0.1).length : Int))))], []⟩ ?_
  refine AW.cond rfl (fun hc => ?_) (fun hc => ?_)
  ·obtain ⟨hc, h⟩ := cT hc h
   refine AW.skip ?_
   refine AW.seq (AW.block ?_)
   refine AW.rgs rfl fun K hK => mv rfl rfl ?_
   refine bf hK ⟨[(2, jF p0), (3, gF p1), (7, hI a15), (8, hI 0)], []⟩ ?_
   refine AW.lpR h (by first | exact up_then | exact up_to) (S := Int) (V := Unit) (fun a v => ⟨[(2, jF p0), (3, gF p1), (7, hI a15), (8, hI a)], []⟩) ?_ (X := Unit) (W := Unit) (fun a v => ⟨[(2, jF p0), (3, gF p1), (7, hI a15)], []⟩) (fun a29 w30 h => ?_) (fun a19 w20 st21 h hr22=> ?_)
   ·exact to_L ⟨(), rfl⟩
   ·refine AW.rg rfl fun K hK => mv rfl rfl (bv rfl (v_bin rfl rfl b_add) (mv rfl rfl ?_))
    refine b_nil (hK _ ?_)
    exact to_L ⟨IntKind.wrap .i64 (a15 + 1), (), h, rfl⟩
   refine AW.seq ?_
   refine AW.rgs rfl fun K hK => mv rfl rfl (bv rfl (v_fieldAddrF fo24_0 rfl) (bv rfl (v_loadF ty22 rfl (l_lit rfl rfl)) (bv rfl (v_lenF rfl rfl ty22 rfl) (bv rfl (v_bin rfl rfl b_lss) ?_))))
   refine bf hK ⟨[(2, jF p0), (3, gF p1), (7, hI a15), (8, hI a19), (46, .bool (decide (a19 < ((p0.1).length : Int))))], []⟩ ?_
   refine AW.cond rfl (fun hc => ?_) (fun hc => ?_)
   ·obtain ⟨hc, h⟩ := cT hc h
    refine AW.skip ?_
    refine AW.seq (AW.block ?_)
    refine AW.dgs 15 follows rfl rfl fun K hK => ?_
    refine sv rfl (v_fieldAddrF fo24_1 rfl) ?_
    refine sv rfl (v_loadF ty22 rfl (l_lit rfl rfl)) ?_
    refine sv rfl (v_loadF ty27 rfl (l_litA rfl (lb rfl) rfl)) ?_
    refine sv rfl (v_fieldAddrF fo24_0 rfl) ?_
    refine sv rfl (v_loadF ty22 rfl (l_lit rfl rfl)) ?_
    refine sm rfl rfl ?_
    obtain ⟨x23, h24, h⟩ := bS h
    refine sv rfl (v_idxF ty22 es22 rfl rfl (idx_lt h24)) ?_
    refine sv rfl (v_loadF ty9 rfl (l_cell eStr h24 (o := 0) rfl rfl)) ?_
    refine sv rfl (v_fieldAddrF fo24_0 rfl) ?_
    refine sv rfl (v_loadF ty22 rfl (l_lit rfl rfl)) ?_
    refine sm rfl rfl ?_
    obtain ⟨x25, h26, h⟩ := bS h
    refine sv rfl (v_idxF ty22 es22 rfl rfl (idx_lt h26)) ?_
    refine sv rfl (v_loadF ty9 rfl (l_cell eStr h26 (o := 0) rfl rfl)) ?_
    obtain ⟨x27, h28, h⟩ := bS h
    refine s_op rfl rfl (ops_call rfl rfl rfl rfl (ACallD.pure0 (w_ref31_joined h28)) ?_)
    refine sv rfl (v_not rfl) ?_
    refine s_nil ?_
    refine bf hK ⟨[(2, jF p0), (3, gF p1), (7, hI a15), (8, hI a19), (63, .bool (!x27))], []⟩ ?_
    refine AW.cond rfl (fun hc => ?_) (fun hc => ?_)
    ·have h := ifT hc h
     refine AW.rgs rfl fun K hK => mv rfl rfl ?_
     refine bf hK ⟨[(4, hI 15)], []⟩ ?_
     have h := hr22 _ h
     have h := hr18 _ h
     refine AW.ret ?_
     have h := Option.some.inj h
     subst h
     exact ret_pure (hs := [hI 15]) (.inr rfl) (resT rfl rfl) rfl trivial
    have h := ifF (bF' hc) h
    refine AW.skip ?_
    refine AW.rg rfl fun K hK => mv rfl rfl (bv rfl (v_bin rfl rfl b_add) (mv rfl rfl ?_))
    refine b_nil (hK _ ?_)
    exact to_L ⟨IntKind.wrap .i64 (a19 + 1), (), h, rfl⟩
   obtain ⟨hc, h⟩ := cF hc h
   refine AW.exit ?_
   exact to_L ⟨(), (), h, rfl⟩
  obtain ⟨hc, h⟩ := cF hc h
  refine AW.exit ?_
  exact to_L ⟨(), (), h, rfl⟩
 refine AW.seq ?_
 refine AW.rgs rfl fun K hK => mv rfl rfl (bv rfl (v_fieldAddrF fo24_0 rfl) (bv rfl (v_loadF ty22 rfl (l_lit rfl rfl)) (bv rfl (v_lenF rfl rfl ty22 rfl) (bv rfl (v_bin rfl rfl b_lss) ?_))))
 refine bf hK ⟨[(2, jF p0), (3, gF p1), (6, hI a5), (24, .bool (decide (a5 < ((p0.1).length : Int))))], []⟩ ?_
 refine AW.cond rfl (fun hc => ?_) (fun hc => ?_)
 ·obtain ⟨hc, h⟩ := cT hc h
  refine AW.skip ?_
  refine AW.seq (AW.block ?_)
  refine AW.dgs 8 follows rfl rfl fun K hK => ?_
  refine sv rfl (v_loadF ty27 rfl (l_litA rfl (lb rfl) rfl)) ?_
  refine sv rfl (v_fieldAddrF fo24_0 rfl) ?_
  refine sv rfl (v_loadF ty22 rfl (l_lit rfl rfl)) ?_
  refine sm rfl rfl ?_
  obtain ⟨x9, h10, h⟩ := bS h
  refine sv rfl (v_idxF ty22 es22 rfl rfl (idx_lt h10)) ?_
  refine sv rfl (v_loadF ty9 rfl (l_cell eStr h10 (o := 0) rfl rfl)) ?_
  obtain ⟨x11, h12, h⟩ := bS h
  refine s_op rfl rfl (ops_call rfl rfl rfl rfl (ACallD.pure0 (w_ref31_accepts h12)) ?_)
  refine sv rfl (v_not rfl) ?_
  refine s_nil ?_
  refine bf hK ⟨[(2, jF p0), (3, gF p1), (6, hI a5), (34, .bool (!x11))], []⟩ ?_
  refine AW.cond rfl (fun hc => ?_) (fun hc => ?_)
  ·have h := ifT hc h
   refine AW.rgs rfl fun K hK => mv rfl rfl ?_
   refine bf hK ⟨[(4, hI 13)], []⟩ ?_
   have h := hr8 _ h
   refine AW.ret ?_
   have h := Option.some.inj h
   subst h
   exact ret_pure (hs := [hI 13]) (.inr rfl) (resT rfl rfl) rfl trivial
  have h := ifF (bF' hc) h
  refine AW.skip ?_
  refine AW.rg rfl fun K hK => mv rfl rfl (bv rfl (v_bin rfl rfl b_add) (mv rfl rfl ?_))
  refine b_nil (hK _ ?_)
  exact to_L ⟨IntKind.wrap .i64 (a5 + 1), (), h, rfl⟩
 obtain ⟨hc, h⟩ := cF hc h
 refine AW.exit ?_
 exact to_L ⟨(), (), h, rfl⟩
theorem w_ref08_Charges {p0 : List UInt8} {r : (List (Int)) × Int} (h : m_ref08_Charges p0 = some r) : Pure Tryz.prog 139 [.str p0] (· = HV.tup [slE eInt r.1, hI r.2]) := by
 unfold m_ref08_Charges at h
 refine Pure.of_body Tryz.func139 rfl rfl (lb rfl) fun hf => ?_
 unfold Tryz.f139
 dsimp only [enumS, Nat.reduceAdd]
 refine AW.rgs rfl fun K hK => mv rfl rfl (mv rfl rfl ?_)
 refine bf hK ⟨[(0, .str p0)], []⟩ ?_
 refine AW.seq ?_
 refine AW.rgs rfl fun K hK => mv rfl rfl ?_
 obtain ⟨x1, h2, h⟩ := bS h
 refine b_op rfl (o_call rfl rfl rfl rfl (ACallD.pure0 (w_ref07_Check h2)) ?_)
 refine mv rfl rfl ?_
 refine bf hK ⟨[(0, .str p0), (4, hI x1)], []⟩ ?_
 refine AW.rgs rfl fun K hK => mv rfl rfl (bv rfl (v_bin rfl rfl b_neq) ?_)
 refine bf hK ⟨[(0, .str p0), (4, hI x1), (10, .bool (decide (x1 ≠ 0)))], []⟩ ?_
 refine AW.cond rfl (fun hc => ?_) (fun hc => ?_)
 ·obtain ⟨hc, h⟩ := cT hc h
  refine AW.rgs rfl fun K hK => mv rfl rfl (mv rfl rfl (mv rfl rfl ?_))
  refine bf hK ⟨[(2, .v (.slice none 0 0)), (3, hI x1)], []⟩ ?_
  refine AW.to (to_weak ⟨[(2, slE eInt ([] : List Int)), (3, hI x1)], []⟩ ⟨⟨_, rfl, .nil _⟩, ⟨_, rfl, .refl _⟩, trivial⟩ trivial ?_)
  refine AW.ret ?_
  have h := Option.some.inj h
  subst h
  exact ret_pure (hs := [slE eInt ([] : List Int), hI x1]) (.inr rfl) (resT rfl (resT rfl rfl)) rfl ⟨(clean_slE fun _ _ => ⟨trivial, trivial⟩), trivial, trivial⟩
 obtain ⟨hc, h⟩ := cF hc h
 refine AW.skip ?_
 refine AW.rgs rfl fun K hK => b_op rfl (o_bslM (fid := 139) 139012 rfl rfl rfl (as_of (cs := [hI 0]) ty31 ty3 rfl rfl rfl rfl rfl) (fun v3 => ?_))
 refine mv rfl rfl ?_
 refine bf hK ⟨[(0, .str p0), (5, .ar 139012 v3 eInt.k 0 (([0]).length))], [(139012, v3, .arr eInt.k 3 (eInt.E [0]))]⟩ ?_
 refine AW.seq ?_
 refine AW.rgs rfl fun K hK => mv rfl rfl ?_
 refine bf hK ⟨[(0, .str p0), (5, .ar 139012 v3 eInt.k 0 (([0]).length)), (6, hI 0)], [(139012, v3, .arr eInt.k 3 (eInt.E [0]))]⟩ ?_
 refine AW.lpX h (by first | exact up_then | exact up_to) (S := Int × (List Int)) (V := Nat) (fun a v => ⟨[(0, .str p0), (5, .ar 139012 v eInt.k 0 ((a.2).length)), (6, hI a.1)], [(139012, v, .arr eInt.k 3 (eInt.E a.2))]⟩) ?_ (X := (List Int)) (W := Nat) (fun a v => ⟨[(5, .ar 139012 v eInt.k 0 ((a).length))], [(139012, v, .arr eInt.k 3 (eInt.E a))]⟩) (fun a25 w26 h => ?_) (fun a4 w5 st6 h => ?_)
 ·exact to_L ⟨v3, rfl⟩
 ·refine AW.rgs rfl fun K hK => mv rfl rfl (mv rfl rfl (mv rfl rfl ?_))
  refine bf hK ⟨[(2, .ar 139012 w26 eInt.k 0 ((a25).length)), (3, hI 0)], [(139012, w26, .arr eInt.k 3 (eInt.E a25))]⟩ ?_
  refine AW.to (to_frz 2 [(139012, w26, .arr eInt.k 3 (eInt.E a25))] ⟨[(2, slE eInt a25), (3, hI 0)], []⟩ ⟨⟨_, rfl, frz_slE eInt (l := a25) rfl fun _ _ => rfl⟩, ⟨_, rfl, rfl⟩, trivial⟩ trivial ⟨rfl, trivial⟩ ⟨rfl, trivial⟩ ?_)
  refine AW.ret ?_
  have h := Option.some.inj h
  subst h
  exact ret_pure (hs := [slE eInt a25, hI 0]) (.inr rfl) (resT rfl (resT rfl rfl)) rfl ⟨(clean_slE fun _ _ => ⟨trivial, trivial⟩), trivial, trivial⟩
 refine AW.seq ?_
 refine AW.rgs rfl fun K hK => mv rfl rfl (mv rfl rfl (bv rfl (v_lenS rfl rfl ty9 rfl) (bv rfl (v_bin rfl rfl b_lss) ?_)))
 refine bf hK ⟨[(0, .str p0), (5, .ar 139012 w5 eInt.k 0 ((a4.2).length)), (6, hI a4.1), (16, .bool (decide (a4.1 < ((p0).length : Int))))], [(139012, w5, .arr eInt.k 3 (eInt.E a4.2))]⟩ ?_
 refine AW.cond rfl (fun hc => ?_) (fun hc => ?_)
 ·obtain ⟨hc, h⟩ := cT hc h
  refine AW.skip ?_
  refine AW.seqJ h (S := (List Int)) (V := Nat) (fun a v => ⟨[(0, .str p0), (5, .ar 139012 v eInt.k 0 ((a).length)), (6, hI a4.1)], [(139012, v, .arr eInt.k 3 (eInt.E a))]⟩) (fun a8 w9 h => ?_) (fun k10 h => ?_)
  ·refine AW.rg rfl fun K hK => mv rfl rfl (bv rfl (v_bin rfl rfl b_add) (mv rfl rfl ?_))
   refine b_nil (hK _ ?_)
   exact to_L ⟨(IntKind.wrap .i64 (a4.1 + 1), a8), w9, h, rfl⟩
  refine AW.block ?_
  refine AW.rgs rfl fun K hK => mv rfl rfl (mv rfl rfl ?_)
  obtain ⟨x11, h12, h⟩ := bS h
  refine bv rfl (v_idxS ty9 rfl rfl h12) (bv rfl (v_bin rfl rfl b_eql) ?_)
  refine bf hK ⟨[(0, .str p0), (5, .ar 139012 w5 eInt.k 0 ((a4.2).length)), (6, hI a4.1), (22, .bool (decide ((x11.toNat : Int) = 49)))], [(139012, w5, .arr eInt.k 3 (eInt.E a4.2))]⟩ ?_
  refine AW.cond rfl (fun hc => ?_) (fun hc => ?_)
  ·obtain ⟨hc, h⟩ := cT hc h
   refine AW.rg rfl fun K hK => mv rfl rfl (mv rfl rfl (mv rfl rfl ?_))
   obtain ⟨x13, h14, h⟩ := bS h
   refine bv rfl (v_idxA ty31 es31 rfl rfl (idx_lt h14) rfl) ?_
   obtain ⟨x15, h16, h⟩ := bS h
   refine bv rfl (v_loadP ty3 rfl rfl (l_cell eInt h16 (o := 0) rfl rfl)) (bv rfl (v_bin rfl rfl b_add) ?_)
   refine b_op rfl (o_bsl rfl rfl (as_of (cs := [hI (IntKind.wrap .i64 (x15 + 1))]) ty31 ty3 rfl rfl rfl rfl rfl) ?_)
   obtain ⟨h18, h⟩ := ifN h
   refine b_op rfl (o_appE eInt (l := a4.2) (m := [IntKind.wrap .i64 (x15 + 1)]) rfl rfl ty31 ty31 ty3 rfl rfl rfl rfl rfl h18 (fun v17 => ?_))
   refine mv rfl rfl ?_
   refine b_nil (hK _ ?_)
   exact to_L ⟨a4.2 ++ [IntKind.wrap .i64 (x15 + 1)], v17, h, rfl⟩
  obtain ⟨hc, h⟩ := cF hc h
  refine AW.rg rfl fun K hK => mv rfl rfl (mv rfl rfl (mv rfl rfl ?_))
  obtain ⟨x19, h20, h⟩ := bS h
  refine bv rfl (v_idxA ty31 es31 rfl rfl (idx_lt h20) rfl) ?_
  obtain ⟨x21, h22, h⟩ := bS h
  refine bv rfl (v_loadP ty3 rfl rfl (l_cell eInt h22 (o := 0) rfl rfl)) (bv rfl (v_bin rfl rfl b_sub) ?_)
  refine b_op rfl (o_bsl rfl rfl (as_of (cs := [hI (IntKind.wrap .i64 (x21 - 1))]) ty31 ty3 rfl rfl rfl rfl rfl) ?_)
  obtain ⟨h24, h⟩ := ifN h
  refine b_op rfl (o_appE eInt (l := a4.2) (m := [IntKind.wrap .i64 (x21 - 1)]) rfl rfl ty31 ty31 ty3 rfl rfl rfl rfl rfl h24 (fun v23 => ?_))
  refine mv rfl rfl ?_
  refine b_nil (hK _ ?_)
  exact to_L ⟨a4.2 ++ [IntKind.wrap .i64 (x21 - 1)], v23, h, rfl⟩
 obtain ⟨hc, h⟩ := cF hc h
 refine AW.exit ?_
 exact to_L ⟨a4.2, w5, h, rfl⟩
theorem w_ref08_Disparity {p0 : List UInt8} {r : Int × Int} (h : m_ref08_Disparity p0 = some r) : Pure Tryz.prog 138 [.str p0] (· = HV.tup [hI r.1, hI r.2]) := by
 unfold m_ref08_Disparity at h
 refine Pure.of_body Tryz.func138 rfl rfl (lb rfl) fun hf => ?_
 unfold Tryz.f138
 dsimp only [enumS, Nat.reduceAdd]
 refine AW.rgs rfl fun K hK => mv rfl rfl (mv rfl rfl ?_)
 refine bf hK ⟨[(0, .str p0)], []⟩ ?_
 refine AW.rgs rfl fun K hK => mv rfl rfl ?_
 obtain ⟨x1, h2, h⟩ := bS h
 refine b_op rfl (o_call rfl rfl rfl rfl (ACallD.pure0 (w_ref08_Charges h2)) ?_)
 refine mv rfl rfl (bv rfl (v_extract rfl rfl) (bv rfl (v_extract rfl rfl) (mv rfl rfl (mv rfl rfl ?_))))
 refine bf hK ⟨[(4, slE eInt x1.1), (5, hI x1.2)], []⟩ ?_
 refine AW.seq ?_
 refine AW.rgs rfl fun K hK => mv rfl rfl (bv rfl (v_bin rfl rfl b_neq) ?_)
 refine bf hK ⟨[(4, slE eInt x1.1), (5, hI x1.2), (12, .bool (decide (x1.2 ≠ 0)))], []⟩ ?_
 refine AW.cond rfl (fun hc => ?_) (fun hc => ?_)
 ·obtain ⟨hc, h⟩ := cT hc h
  refine AW.rgs rfl fun K hK => mv rfl rfl (mv rfl rfl (mv rfl rfl ?_))
  refine bf hK ⟨[(2, hI 0), (3, hI x1.2)], []⟩ ?_
  refine AW.ret ?_
  have h := Option.some.inj h
  subst h
  exact ret_pure (hs := [hI 0, hI x1.2]) (.inr rfl) (resT rfl (resT rfl rfl)) rfl ⟨trivial, trivial, trivial⟩
 obtain ⟨hc, h⟩ := cF hc h
 refine AW.skip ?_
 refine AW.rgs rfl fun K hK => mv rfl rfl (mv rfl rfl (bv rfl (v_lenF rfl rfl ty31 rfl) (bv rfl (v_bin rfl rfl b_sub) ?_)))
 obtain ⟨x3, h4, h⟩ := bS h
 refine bv rfl (v_idxF ty31 es31 rfl rfl (idx_lt h4)) (bv rfl (v_loadF ty3 rfl (l_cell eInt h4 (o := 0) rfl rfl)) (mv rfl rfl (mv rfl rfl ?_)))
 refine bf hK ⟨[(2, hI x3), (3, hI 0)], []⟩ ?_
 refine AW.ret ?_
 have h := Option.some.inj h
 subst h
 exact ret_pure (hs := [hI x3, hI 0]) (.inr rfl) (resT rfl (resT rfl rfl)) rfl ⟨trivial, trivial, trivial⟩
theorem w_ref31_far {p0 : List UInt8} {r : Int} (h : m_ref31_far p0 = some r) : Pure Tryz.prog 89 [.str p0] (· = hI r) := by
 unfold m_ref31_far at h
 refine Pure.of_body Tryz.func89 rfl rfl (lb rfl) fun hf => ?_
 unfold Tryz.f89
 dsimp only [enumS, Nat.reduceAdd]
 refine AW.rgs rfl fun K hK => mv rfl rfl ?_
 refine bf hK ⟨[(0, .str p0)], []⟩ ?_
 refine AW.rgs rfl fun K hK => mv rfl rfl ?_
 obtain ⟨x1, h2, h⟩ := bS h
 refine b_op rfl (o_call rfl rfl rfl rfl (ACallD.pure0 (w_ref08_Disparity h2)) ?_)
 refine mv rfl rfl (bv rfl (v_extract rfl rfl) (bv rfl (v_extract rfl rfl) (mv rfl rfl (mv rfl rfl ?_))))
 refine bf hK ⟨[(3, hI x1.1)], []⟩ ?_
 refine AW.rgs rfl fun K hK => mv rfl rfl (mv rfl rfl (bv rfl (v_neg rfl) (bv rfl (v_max rfl rfl rfl) (mv rfl rfl ?_))))
 refine bf hK ⟨[(2, hI (max x1.1 (IntKind.wrap .i64 (0 - x1.1))))], []⟩ ?_
 refine AW.ret ?_
 have h := Option.some.inj h
 subst h
 exact ret_pure (hs := [hI (max x1.1 (IntKind.wrap .i64 (0 - x1.1)))]) (.inr rfl) (resT rfl rfl) rfl trivial
theorem w_ref31_Encode {p0 : TWordsMerges} {p1 : TLabelsStatesEdges} {p2 : List (Int)} {r : (List UInt8) × Int} (h : m_ref31_Encode p0 p1 p2 = some r) : Pure Tryz.prog 39 [jA p0, gA p1, slE eInt p2] (· = HV.tup [.str r.1, hI r.2]) := by
 unfold m_ref31_Encode at h
 refine Pure.of_body Tryz.func39 rfl rfl (lb rfl) fun hf => ?_
 unfold Tryz.f39
 dsimp only [enumS, Nat.reduceAdd]
 refine AW.rgs rfl fun K hK => b_op rfl (o_box rfl rfl rfl ?_)
 refine b_op rfl (o_box rfl rfl rfl ?_)
 refine mv rfl rfl (mv rfl rfl ?_)
 refine bf hK ⟨[(2, slE eInt p2), (3, jF p0), (4, gF p1)], []⟩ ?_
 refine AW.seq ?_
 refine AW.rgs rfl fun K hK => bv rfl (v_loadF ty24 rfl (l_litA rfl (lb rfl) rfl)) (bv rfl (v_loadF ty27 rfl (l_litA rfl (lb rfl) rfl)) ?_)
 obtain ⟨x1, h2, h⟩ := bS h
 refine b_op rfl (o_call rfl rfl rfl rfl (ACallD.pure0 (w_ref31_Check h2)) ?_)
 refine bv rfl (v_bin rfl rfl b_neq) ?_
 refine bf hK ⟨[(2, slE eInt p2), (3, jF p0), (4, gF p1), (17, .bool (decide (x1 ≠ 0)))], []⟩ ?_
 refine AW.cond rfl (fun hc => ?_) (fun hc => ?_)
 ·obtain ⟨hc, h⟩ := cT hc h
  refine AW.rgs rfl fun K hK => mv rfl rfl (mv rfl rfl ?_)
  refine bf hK ⟨[(6, .str nS), (7, hI 1)], []⟩ ?_
  refine AW.ret ?_
  have h := Option.some.inj h
  subst h
  exact ret_pure (hs := [.str nS, hI 1]) (.inr rfl) (resT rfl (resT rfl rfl)) rfl ⟨trivial, trivial, trivial⟩
 obtain ⟨hc, h⟩ := cF hc h
 refine AW.skip ?_
 refine AW.seq ?_
 refine AW.rgs rfl fun K hK => mv rfl rfl ?_
 refine bf hK ⟨[(2, slE eInt p2), (3, jF p0), (4, gF p1), (8, hI 0)], []⟩ ?_
 refine AW.lpR h (by first | exact up_then | exact up_to) (S := Int) (V := Unit) (fun a v => ⟨[(2, slE eInt p2), (3, jF p0), (4, gF p1), (8, hI a)], []⟩) ?_ (X := Unit) (W := Unit) (fun a v => ⟨[(2, slE eInt p2), (3, jF p0), (4, gF p1)], []⟩) (fun a15 w16 h => ?_) (fun a3 w4 st5 h hr6=> ?_)
 ·exact to_L ⟨(), rfl⟩
 ·refine AW.seq ?_
  refine AW.seqJ h (S := Bool) (V := Unit) (fun a v => ⟨[(2, slE eInt p2), (3, jF p0), (4, gF p1), (62, .bool a)], []⟩) (fun a17 w18 h => ?_) (fun k19 h => ?_)
  ·refine AW.cond rfl (fun hc => ?_) (fun hc => ?_)
   ·have h := ifT hc h
    refine AW.rgs rfl fun K hK => mv rfl rfl (mv rfl rfl ?_)
    refine bf hK ⟨[(6, .str nS), (7, hI 4)], []⟩ ?_
    refine AW.ret ?_
    have h := Option.some.inj h
    subst h
    exact ret_pure (hs := [.str nS, hI 4]) (.inr rfl) (resT rfl (resT rfl rfl)) rfl ⟨trivial, trivial, trivial⟩
   have h := ifF (bF' hc) h
   refine AW.skip ?_
   refine AW.rgs rfl fun K hK => mv rfl rfl ?_
   refine bf hK ⟨[(2, slE eInt p2), (3, jF p0), (4, gF p1), (9, .str nS)], []⟩ ?_
   refine AW.seq ?_
   refine AW.rgs rfl fun K hK => mv rfl rfl ?_
   refine bf hK ⟨[(2, slE eInt p2), (3, jF p0), (4, gF p1), (9, .str nS), (10, hI 0)], []⟩ ?_
   refine AW.lpR h (by first | exact up_then | exact up_to) (S := (List UInt8) × Int) (V := Unit) (fun a v => ⟨[(2, slE eInt p2), (3, jF p0), (4, gF p1), (9, .str a.1), (10, hI a.2)], []⟩) ?_ (X := (List UInt8)) (W := Unit) (fun a v => ⟨[(9, .str a)], []⟩) (fun a59 w60 h => ?_) (fun a20 w21 st22 h hr23=> ?_)
   ·exact to_L ⟨(), rfl⟩
   ·refine AW.rgs rfl fun K hK => mv rfl rfl (mv rfl rfl (mv rfl rfl ?_))
    refine bf hK ⟨[(6, .str a59), (7, hI 0)], []⟩ ?_
    refine AW.ret ?_
    have h := Option.some.inj h
    subst h
    exact ret_pure (hs := [.str a59, hI 0]) (.inr rfl) (resT rfl (resT rfl rfl)) rfl ⟨trivial, trivial, trivial⟩
   refine AW.seq ?_
   refine AW.rgs rfl fun K hK => mv rfl rfl (mv rfl rfl (bv rfl (v_lenF rfl rfl ty31 rfl) (bv rfl (v_bin rfl rfl b_lss) ?_)))
   refine bf hK ⟨[(2, slE eInt p2), (3, jF p0), (4, gF p1), (9, .str a20.1), (10, hI a20.2), (66, .bool (decide (a20.2 < ((p2).length : Int))))], []⟩ ?_
   refine AW.cond rfl (fun hc => ?_) (fun hc => ?_)
   ·obtain ⟨hc, h⟩ := cT hc h
    refine AW.skip ?_
    refine AW.seqJ h (S := (List UInt8)) (V := Unit) (fun a v => ⟨[(2, slE eInt p2), (3, jF p0), (4, gF p1), (9, .str a), (10, hI a20.2)], []⟩) (fun a24 w25 h => ?_) (fun k26 h => ?_)
    ·refine AW.rg rfl fun K hK => mv rfl rfl (bv rfl (v_bin rfl rfl b_add) (mv rfl rfl ?_))
     refine b_nil (hK _ ?_)
     exact to_L ⟨(a24, IntKind.wrap .i64 (a20.2 + 1)), (), h, rfl⟩
    refine AW.block ?_
    refine AW.seq ?_
    refine AW.rgs rfl fun K hK => mv rfl rfl (bv rfl (v_bin rfl rfl b_eql) ?_)
    refine bf hK ⟨[(2, slE eInt p2), (3, jF p0), (4, gF p1), (9, .str a20.1), (10, hI a20.2), (70, .bool (decide (a20.2 = 0)))], []⟩ ?_
    refine AW.cond rfl (fun hc => ?_) (fun hc => ?_)
    ·obtain ⟨hc, h⟩ := cT hc h
     refine AW.dgs 8 follows rfl rfl fun K hK => ?_
     refine sv rfl (v_fieldAddrF fo24_0 rfl) ?_
     refine sv rfl (v_loadF ty22 rfl (l_lit rfl rfl)) ?_
     refine sm rfl rfl ?_
     obtain ⟨x27, h28, h⟩ := bS h
     refine sv rfl (v_idxF ty31 es31 rfl rfl (idx_lt h28)) ?_
     refine sv rfl (v_loadF ty3 rfl (l_cell eInt h28 (o := 0) rfl rfl)) ?_
     obtain ⟨x29, h30, h⟩ := bS h
     refine sv rfl (v_idxF ty22 es22 rfl rfl (idx_lt h30)) ?_
     refine sv rfl (v_loadF ty9 rfl (l_cell eStr h30 (o := 0) rfl rfl)) ?_
     refine sm rfl rfl ?_
     refine s_nil ?_
     refine bf hK ⟨[(2, slE eInt p2), (3, jF p0), (4, gF p1), (9, .str x29), (10, hI a20.2)], []⟩ ?_
     refine AW.exit ?_
     exact to_L ⟨x29, (), h, rfl⟩
    obtain ⟨hc, h⟩ := cF hc h
    refine AW.skip ?_
    refine AW.rgs rfl fun K hK => mv rfl rfl ?_
    refine bf hK ⟨[(2, slE eInt p2), (3, jF p0), (4, gF p1), (9, .str a20.1), (10, hI a20.2), (11, .str nS)], []⟩ ?_
    refine AW.seq ?_
    refine AW.rgs rfl fun K hK => mv rfl rfl ?_
    refine bf hK ⟨[(2, slE eInt p2), (3, jF p0), (4, gF p1), (9, .str a20.1), (10, hI a20.2), (11, .str nS), (12, hI 0)], []⟩ ?_
    refine AW.lpX h (by first | exact up_then | exact up_to) (S := (List UInt8) × Int) (V := Unit) (fun a v => ⟨[(2, slE eInt p2), (3, jF p0), (4, gF p1), (9, .str a20.1), (10, hI a20.2), (11, .str a.1), (12, hI a.2)], []⟩) ?_ (X := (List UInt8)) (W := Unit) (fun a v => ⟨[(2, slE eInt p2), (3, jF p0), (4, gF p1), (10, hI a20.2), (11, .str a)], []⟩) (fun a57 w58 h => ?_) (fun a31 w32 st33 h => ?_)
    ·exact to_L ⟨(), rfl⟩
    ·refine AW.seq ?_
     refine AW.rgs rfl fun K hK => mv rfl rfl (bv rfl (v_bin rfl rfl b_seql) ?_)
     refine bf hK ⟨[(2, slE eInt p2), (3, jF p0), (4, gF p1), (10, hI a20.2), (11, .str a57), (117, .bool (decide (a57 = nS)))], []⟩ ?_
     refine AW.cond rfl (fun hc => ?_) (fun hc => ?_)
     ·obtain ⟨hc, h⟩ := cT hc h
      refine AW.rgs rfl fun K hK => mv rfl rfl (mv rfl rfl ?_)
      refine bf hK ⟨[(6, .str nS), (7, hI 13)], []⟩ ?_
      have h := hr23 _ h
      refine AW.ret ?_
      have h := Option.some.inj h
      subst h
      exact ret_pure (hs := [.str nS, hI 13]) (.inr rfl) (resT rfl (resT rfl rfl)) rfl ⟨trivial, trivial, trivial⟩
     obtain ⟨hc, h⟩ := cF hc h
     refine AW.skip ?_
     refine AW.rg rfl fun K hK => mv rfl rfl (mv rfl rfl ?_)
     refine b_nil (hK _ ?_)
     exact to_L ⟨a57, (), h, rfl⟩
    refine AW.seq ?_
    refine AW.rgs rfl fun K hK => mv rfl rfl (bv rfl (v_fieldAddrF fo24_1 rfl) (bv rfl (v_loadF ty22 rfl (l_lit rfl rfl)) (bv rfl (v_lenF rfl rfl ty22 rfl) (bv rfl (v_bin rfl rfl b_lss) ?_))))
    refine bf hK ⟨[(2, slE eInt p2), (3, jF p0), (4, gF p1), (9, .str a20.1), (10, hI a20.2), (11, .str a31.1), (12, hI a31.2), (82, .bool (decide (a31.2 < ((p0.2).length : Int))))], []⟩ ?_
    refine AW.cond rfl (fun hc => ?_) (fun hc => ?_)
    ·obtain ⟨hc, h⟩ := cT hc h
     refine AW.skip ?_
     refine AW.seqJ h (S := (List UInt8)) (V := Unit) (fun a v => ⟨[(2, slE eInt p2), (3, jF p0), (4, gF p1), (9, .str a20.1), (10, hI a20.2), (11, .str a), (12, hI a31.2)], []⟩) (fun a35 w36 h => ?_) (fun k37 h => ?_)
     ·refine AW.rg rfl fun K hK => mv rfl rfl (bv rfl (v_bin rfl rfl b_add) (mv rfl rfl ?_))
      refine b_nil (hK _ ?_)
      exact to_L ⟨(a35, IntKind.wrap .i64 (a31.2 + 1)), (), h, rfl⟩
     refine AW.block ?_
     refine AW.dgs 17 follows rfl rfl fun K hK => ?_
     refine sm rfl rfl ?_
     refine sv rfl (v_fieldAddrF fo24_1 rfl) ?_
     refine sv rfl (v_loadF ty22 rfl (l_lit rfl rfl)) ?_
     refine sm rfl rfl ?_
     obtain ⟨x38, h39, h⟩ := bS h
     refine sv rfl (v_idxF ty22 es22 rfl rfl (idx_lt h39)) ?_
     refine sv rfl (v_loadF ty9 rfl (l_cell eStr h39 (o := 0) rfl rfl)) ?_
     obtain ⟨h40, h⟩ := ifN h
     refine sv rfl (v_bin rfl rfl (b_sadd h40)) ?_
     refine sv rfl (v_fieldAddrF fo24_0 rfl) ?_
     refine sv rfl (v_loadF ty22 rfl (l_lit rfl rfl)) ?_
     refine sm rfl rfl ?_
     refine sm rfl rfl ?_
     obtain ⟨x41, h42, h⟩ := bS h
     refine sv rfl (v_idxF ty31 es31 rfl rfl (idx_lt h42)) ?_
     refine sv rfl (v_loadF ty3 rfl (l_cell eInt h42 (o := 0) rfl rfl)) ?_
     obtain ⟨x43, h44, h⟩ := bS h
     refine sv rfl (v_idxF ty22 es22 rfl rfl (idx_lt h44)) ?_
     refine sv rfl (v_loadF ty9 rfl (l_cell eStr h44 (o := 0) rfl rfl)) ?_
     obtain ⟨h45, h⟩ := ifN h
     refine sv rfl (v_bin rfl rfl (b_sadd h45)) ?_
     refine sm rfl rfl ?_
     refine s_nil ?_
     refine bf hK ⟨[(2, slE eInt p2), (3, jF p0), (4, gF p1), (9, .str a20.1), (10, hI a20.2), (11, .str a31.1), (12, hI a31.2), (13, .str ((a20.1 ++ x38) ++ x43))], []⟩ ?_
     refine AW.seqJ h (S := Bool) (V := Unit) (fun a v => ⟨[(2, slE eInt p2), (3, jF p0), (4, gF p1), (9, .str a20.1), (10, hI a20.2), (11, .str a31.1), (12, hI a31.2), (13, .str ((a20.1 ++ x38) ++ x43)), (114, .bool a)], []⟩) (fun a46 w47 h => ?_) (fun k48 h => ?_)
     ·refine AW.cond rfl (fun hc => ?_) (fun hc => ?_)
      ·have h := ifT hc h
       refine AW.rg rfl fun K hK => mv rfl rfl (mv rfl rfl ?_)
       refine b_nil (hK _ ?_)
       exact to_L ⟨(a20.1 ++ x38) ++ x43, (), h, rfl⟩
      have h := ifF (bF' hc) h
      refine AW.skip ?_
      exact to_L ⟨a31.1, (), h, rfl⟩
     refine AW.rg rfl fun K hK => bv rfl (v_loadF ty27 rfl (l_litA rfl (lb rfl) rfl)) (mv rfl rfl ?_)
     obtain ⟨x49, h50, h⟩ := bS h
     refine b_op rfl (o_call rfl rfl rfl rfl (ACallD.pure0 (w_ref31_accepts h50)) ?_)
     refine mv rfl rfl ?_
     by_cases hg56 : x49 = true
     ·have h := ifT hg56 h
      refine b_T rfl rfl rfl rfl hg56 (o_val rfl (mv_val rfl rfl).2 ?_)
      refine b_T rfl rfl rfl rfl rfl (o_val rfl (v_bin rfl rfl b_seql) ?_)
      refine b_T rfl rfl rfl rfl rfl (o_val rfl (mv_val rfl rfl).2 ?_)
      by_cases hg55 : a31.1 = nS
      ·have h := ifT hg55 h
       refine b_F rfl rfl rfl rfl rfl (decide_eq_true hg55) ?_
       refine b_F rfl rfl rfl rfl rfl rfl ?_
       refine b_F rfl rfl rfl rfl rfl rfl ?_
       refine b_F rfl rfl rfl rfl rfl rfl ?_
       refine b_F rfl rfl rfl rfl rfl rfl ?_
       refine b_T rfl rfl rfl rfl rfl (o_val rfl (v_pickT rfl rfl rfl) ?_)
       refine bv rfl (v_pickT rfl rfl rfl) ?_
       refine b_nil (hK _ ?_)
       exact to_L ⟨true, (), h, rfl⟩
      have h := ifF hg55 h
      refine b_T rfl rfl rfl rfl (decide_eq_false hg55) (o_val rfl (mv_val rfl rfl).2 ?_)
      obtain ⟨x51, h52, h⟩ := bS h
      refine b_T rfl rfl rfl rfl rfl (o_call rfl rfl rfl rfl (ACallD.pure0 (w_ref31_far h52)) ?_)
      refine b_T rfl rfl rfl rfl rfl (o_val rfl (mv_val rfl rfl).2 ?_)
      obtain ⟨x53, h54, h⟩ := bS h
      refine b_T rfl rfl rfl rfl rfl (o_call rfl rfl rfl rfl (ACallD.pure0 (w_ref31_far h54)) ?_)
      refine b_T rfl rfl rfl rfl rfl (o_val rfl (v_bin rfl rfl b_lss) ?_)
      refine b_T rfl rfl rfl rfl rfl (o_val rfl (v_pickF rfl rfl rfl) ?_)
      refine bv rfl (v_pickT rfl rfl rfl) ?_
      refine b_nil (hK _ ?_)
      exact to_L ⟨decide (x51 < x53), (), h, rfl⟩
     have h := ifF hg56 h
     refine b_F rfl rfl rfl rfl rfl (bF hg56) ?_
     refine b_F rfl rfl rfl rfl rfl rfl ?_
     refine b_F rfl rfl rfl rfl rfl rfl ?_
     refine b_U rfl rfl rfl rfl rfl ?_
     refine b_U rfl rfl rfl rfl rfl ?_
     refine b_U rfl rfl rfl rfl rfl ?_
     refine b_U rfl rfl rfl rfl rfl ?_
     refine b_U rfl rfl rfl rfl rfl ?_
     refine b_F rfl rfl rfl rfl rfl rfl ?_
     refine bv rfl (v_pickF rfl rfl rfl) ?_
     refine b_nil (hK _ ?_)
     exact to_L ⟨false, (), h, rfl⟩
    obtain ⟨hc, h⟩ := cF hc h
    refine AW.exit ?_
    exact to_L ⟨a31.1, (), h, rfl⟩
   obtain ⟨hc, h⟩ := cF hc h
   refine AW.exit ?_
   exact to_L ⟨a20.1, (), h, rfl⟩
  refine AW.dg 24 follows rfl rfl fun K hK => ?_
  refine sm rfl rfl ?_
  refine sv rfl (v_lenF rfl rfl ty31 rfl) ?_
  refine sv rfl (v_bin rfl rfl b_gtr) ?_
  refine sm rfl rfl ?_
  by_cases hg65 : 65536 < ((p2).length : Int)
  ·have h := ifT hg65 h
   refine s_F rfl rfl rfl rfl rfl (decide_eq_true hg65) ?_
   refine s_F rfl rfl rfl rfl rfl rfl ?_
   refine s_F rfl rfl rfl rfl rfl rfl ?_
   refine s_F rfl rfl rfl rfl rfl rfl ?_
   refine s_F rfl rfl rfl rfl rfl rfl ?_
   refine s_F rfl rfl rfl rfl rfl rfl ?_
   refine s_F rfl rfl rfl rfl rfl rfl ?_
   refine s_F rfl rfl rfl rfl rfl rfl ?_
   refine s_F rfl rfl rfl rfl rfl rfl ?_
   refine s_F rfl rfl rfl rfl rfl rfl ?_
   refine s_F rfl rfl rfl rfl rfl rfl ?_
   refine s_F rfl rfl rfl rfl rfl rfl ?_
   refine s_F rfl rfl rfl rfl rfl rfl ?_
   refine s_F rfl rfl rfl rfl rfl rfl ?_
   refine s_F rfl rfl rfl rfl rfl rfl ?_
   refine s_F rfl rfl rfl rfl rfl rfl ?_
   refine s_F rfl rfl rfl rfl rfl rfl ?_
   refine s_F rfl rfl rfl rfl rfl rfl ?_
   refine s_F rfl rfl rfl rfl rfl rfl ?_
   refine sv rfl (v_pickT rfl rfl rfl) ?_
   refine s_nil ?_
   refine b_nil (hK _ ?_)
   exact to_L ⟨true, (), h, rfl⟩
  have h := ifF hg65 h
  refine s_T rfl rfl rfl rfl rfl (decide_eq_false hg65) (ops_val rfl (mv_val rfl rfl).2 ?_)
  refine s_T rfl rfl rfl rfl rfl rfl (ops_val rfl (v_lenF rfl rfl ty31 rfl) ?_)
  refine s_T rfl rfl rfl rfl rfl rfl (ops_val rfl (v_fieldAddrF fo24_0 rfl) ?_)
  refine s_T rfl rfl rfl rfl rfl rfl (ops_val rfl (v_loadF ty22 rfl (l_lit rfl rfl)) ?_)
  obtain ⟨x61, h62, h⟩ := bS h
  refine s_T rfl rfl rfl rfl rfl rfl (ops_val rfl (v_idxF ty22 es22 rfl rfl (idx_lt h62)) ?_)
  refine s_T rfl rfl rfl rfl rfl rfl (ops_val rfl (v_loadF ty9 rfl (l_cell eStr h62 (o := 0) rfl rfl)) ?_)
  refine s_T rfl rfl rfl rfl rfl rfl (ops_val rfl (v_lenS rfl rfl ty9 rfl) ?_)
  refine s_T rfl rfl rfl rfl rfl rfl (ops_val rfl (v_bin rfl rfl b_mul) ?_)
  refine s_T rfl rfl rfl rfl rfl rfl (ops_val rfl (mv_val rfl rfl).2 ?_)
  refine s_T rfl rfl rfl rfl rfl rfl (ops_val rfl (v_lenF rfl rfl ty31 rfl) ?_)
  refine s_T rfl rfl rfl rfl rfl rfl (ops_val rfl (v_bin rfl rfl b_sub) ?_)
  refine s_T rfl rfl rfl rfl rfl rfl (ops_val rfl (v_fieldAddrF fo24_1 rfl) ?_)
  refine s_T rfl rfl rfl rfl rfl rfl (ops_val rfl (v_loadF ty22 rfl (l_lit rfl rfl)) ?_)
  obtain ⟨x63, h64, h⟩ := bS h
  refine s_T rfl rfl rfl rfl rfl rfl (ops_val rfl (v_idxF ty22 es22 rfl rfl (idx_lt h64)) ?_)
  refine s_T rfl rfl rfl rfl rfl rfl (ops_val rfl (v_loadF ty9 rfl (l_cell eStr h64 (o := 0) rfl rfl)) ?_)
  refine s_T rfl rfl rfl rfl rfl rfl (ops_val rfl (v_lenS rfl rfl ty9 rfl) ?_)
  refine s_T rfl rfl rfl rfl rfl rfl (ops_val rfl (v_bin rfl rfl b_mul) ?_)
  refine s_T rfl rfl rfl rfl rfl rfl (ops_val rfl (v_bin rfl rfl b_add) ?_)
  refine s_T rfl rfl rfl rfl rfl rfl (ops_val rfl (v_bin rfl rfl b_gtr) ?_)
  refine sv rfl (v_pickF rfl rfl rfl) ?_
  refine s_nil ?_
  refine b_nil (hK _ ?_)
  exact to_L ⟨decide (65536 < (IntKind.wrap .i64 ((IntKind.wrap .i64 (((p2).length : Int) * ((x61).length : Int))) + (IntKind.wrap .i64 ((IntKind.wrap .i64 (((p2).length : Int) - 1)) * ((x63).length : Int)))))), (), h, rfl⟩
 refine AW.seq ?_
 refine AW.rgs rfl fun K hK => mv rfl rfl (mv rfl rfl (bv rfl (v_lenF rfl rfl ty31 rfl) (bv rfl (v_bin rfl rfl b_lss) ?_)))
 refine bf hK ⟨[(2, slE eInt p2), (3, jF p0), (4, gF p1), (8, hI a3), (21, .bool (decide (a3 < ((p2).length : Int))))], []⟩ ?_
 refine AW.cond rfl (fun hc => ?_) (fun hc => ?_)
 ·obtain ⟨hc, h⟩ := cT hc h
  refine AW.skip ?_
  refine AW.seq (AW.block ?_)
  refine AW.seqJ h (S := Bool) (V := Unit) (fun a v => ⟨[(2, slE eInt p2), (3, jF p0), (4, gF p1), (8, hI a3), (38, .bool a)], []⟩) (fun a7 w8 h => ?_) (fun k9 h => ?_)
  ·refine AW.cond rfl (fun hc => ?_) (fun hc => ?_)
   ·have h := ifT hc h
    refine AW.rgs rfl fun K hK => mv rfl rfl (mv rfl rfl ?_)
    refine bf hK ⟨[(6, .str nS), (7, hI 2)], []⟩ ?_
    have h := hr6 _ h
    refine AW.ret ?_
    have h := Option.some.inj h
    subst h
    exact ret_pure (hs := [.str nS, hI 2]) (.inr rfl) (resT rfl (resT rfl rfl)) rfl ⟨trivial, trivial, trivial⟩
   have h := ifF (bF' hc) h
   refine AW.skip ?_
   refine AW.rg rfl fun K hK => mv rfl rfl (bv rfl (v_bin rfl rfl b_add) (mv rfl rfl ?_))
   refine b_nil (hK _ ?_)
   exact to_L ⟨IntKind.wrap .i64 (a3 + 1), (), h, rfl⟩
  refine AW.dg 15 follows rfl rfl fun K hK => ?_
  refine sm rfl rfl ?_
  refine sm rfl rfl ?_
  obtain ⟨x10, h11, h⟩ := bS h
  refine sv rfl (v_idxF ty31 es31 rfl rfl (idx_lt h11)) ?_
  refine sv rfl (v_loadF ty3 rfl (l_cell eInt h11 (o := 0) rfl rfl)) ?_
  refine sv rfl (v_bin rfl rfl b_lss) ?_
  refine sm rfl rfl ?_
  by_cases hg14 : x10 < 0
  ·have h := ifT hg14 h
   refine s_F rfl rfl rfl rfl rfl (decide_eq_true hg14) ?_
   refine s_F rfl rfl rfl rfl rfl rfl ?_
   refine s_F rfl rfl rfl rfl rfl rfl ?_
   refine s_F rfl rfl rfl rfl rfl rfl ?_
   refine s_F rfl rfl rfl rfl rfl rfl ?_
   refine s_F rfl rfl rfl rfl rfl rfl ?_
   refine s_F rfl rfl rfl rfl rfl rfl ?_
   refine s_F rfl rfl rfl rfl rfl rfl ?_
   refine sv rfl (v_pickT rfl rfl rfl) ?_
   refine s_nil ?_
   refine b_nil (hK _ ?_)
   exact to_L ⟨true, (), h, rfl⟩
  have h := ifF hg14 h
  refine s_T rfl rfl rfl rfl rfl (decide_eq_false hg14) (ops_val rfl (mv_val rfl rfl).2 ?_)
  refine s_T rfl rfl rfl rfl rfl rfl (ops_val rfl (mv_val rfl rfl).2 ?_)
  obtain ⟨x12, h13, h⟩ := bS h
  refine s_T rfl rfl rfl rfl rfl rfl (ops_val rfl (v_idxF ty31 es31 rfl rfl (idx_lt h13)) ?_)
  refine s_T rfl rfl rfl rfl rfl rfl (ops_val rfl (v_loadF ty3 rfl (l_cell eInt h13 (o := 0) rfl rfl)) ?_)
  refine s_T rfl rfl rfl rfl rfl rfl (ops_val rfl (v_fieldAddrF fo24_0 rfl) ?_)
  refine s_T rfl rfl rfl rfl rfl rfl (ops_val rfl (v_loadF ty22 rfl (l_lit rfl rfl)) ?_)
  refine s_T rfl rfl rfl rfl rfl rfl (ops_val rfl (v_lenF rfl rfl ty22 rfl) ?_)
  refine s_T rfl rfl rfl rfl rfl rfl (ops_val rfl (v_bin rfl rfl b_geq) ?_)
  refine sv rfl (v_pickF rfl rfl rfl) ?_
  refine s_nil ?_
  refine b_nil (hK _ ?_)
  exact to_L ⟨decide (((p0.1).length : Int) ≤ x12), (), h, rfl⟩
 obtain ⟨hc, h⟩ := cF hc h
 refine AW.exit ?_
 exact to_L ⟨(), (), h, rfl⟩
theorem w_runs_charges {p0 : List UInt8} {r : (List (Int))} (h : m_runs_charges p0 = some r) : Pure Tryz.prog 93 [.str p0] (· = slE eInt r) := by
 unfold m_runs_charges at h
 refine Pure.of_body Tryz.func93 rfl rfl (lb rfl) fun hf => ?_
 unfold Tryz.f93
 dsimp only [enumS, Nat.reduceAdd]
 refine AW.rgs rfl fun K hK => mv rfl rfl ?_
 refine bf hK ⟨[(0, .str p0)], []⟩ ?_
 refine AW.rgs rfl fun K hK => b_op rfl (o_bslM (fid := 93) 93006 rfl rfl rfl (as_of (cs := [hI 0]) ty31 ty3 rfl rfl rfl rfl rfl) (fun v1 => ?_))
 refine mv rfl rfl ?_
 refine bf hK ⟨[(0, .str p0), (3, .ar 93006 v1 eInt.k 0 (([0]).length))], [(93006, v1, .arr eInt.k 3 (eInt.E [0]))]⟩ ?_
 refine AW.seq ?_
 refine AW.rgs rfl fun K hK => mv rfl rfl (bv rfl (v_lenS rfl rfl ty9 rfl) (mv rfl rfl ?_))
 refine bf hK ⟨[(0, .str p0), (3, .ar 93006 v1 eInt.k 0 (([0]).length)), (8, hI ((p0).length : Int)), (9, hI 0)], [(93006, v1, .arr eInt.k 3 (eInt.E [0]))]⟩ ?_
 refine AW.lpX h (by first | exact up_then | exact up_to) (S := Int × (List Int)) (V := Nat) (fun a v => ⟨[(0, .str p0), (3, .ar 93006 v eInt.k 0 ((a.2).length)), (8, hI ((p0).length : Int)), (9, hI a.1)], [(93006, v, .arr eInt.k 3 (eInt.E a.2))]⟩) ?_ (X := (List Int)) (W := Nat) (fun a v => ⟨[(3, .ar 93006 v eInt.k 0 ((a).length))], [(93006, v, .arr eInt.k 3 (eInt.E a))]⟩) (fun a17 w18 h => ?_) (fun a2 w3 st4 h => ?_)
 ·exact to_L ⟨v1, rfl⟩
 ·refine AW.rgs rfl fun K hK => mv rfl rfl (mv rfl rfl ?_)
  refine bf hK ⟨[(2, .ar 93006 w18 eInt.k 0 ((a17).length))], [(93006, w18, .arr eInt.k 3 (eInt.E a17))]⟩ ?_
  refine AW.to (to_frz 2 [(93006, w18, .arr eInt.k 3 (eInt.E a17))] ⟨[(2, slE eInt a17)], []⟩ ⟨⟨_, rfl, frz_slE eInt (l := a17) rfl fun _ _ => rfl⟩, trivial⟩ trivial ⟨rfl, trivial⟩ ⟨rfl, trivial⟩ ?_)
  refine AW.ret ?_
  have h := Option.some.inj h
  subst h
  exact ret_pure (hs := [slE eInt a17]) (.inr rfl) (resT rfl rfl) rfl (clean_slE fun _ _ => ⟨trivial, trivial⟩)
 refine AW.rgs rfl fun K hK => bv rfl (v_bin rfl rfl b_lss) ?_
 refine bf hK ⟨[(0, .str p0), (3, .ar 93006 w3 eInt.k 0 ((a2.2).length)), (8, hI ((p0).length : Int)), (9, hI a2.1), (10, .bool (decide (a2.1 < ((p0).length : Int))))], [(93006, w3, .arr eInt.k 3 (eInt.E a2.2))]⟩ ?_
 refine AW.cseq rfl (fun hc => ?_) (fun hc => ?_)
 ·obtain ⟨hc, h⟩ := cT hc h
  refine AW.skip ?_
  refine AW.seq (AW.block ?_)
  refine AW.rgs rfl fun K hK => mv rfl rfl (mv rfl rfl ?_)
  refine bf hK ⟨[(0, .str p0), (3, .ar 93006 w3 eInt.k 0 ((a2.2).length)), (4, hI a2.1), (8, hI ((p0).length : Int)), (9, hI a2.1)], [(93006, w3, .arr eInt.k 3 (eInt.E a2.2))]⟩ ?_
  refine AW.rgs rfl fun K hK => mv rfl rfl ?_
  refine bf hK ⟨[(0, .str p0), (3, .ar 93006 w3 eInt.k 0 ((a2.2).length)), (4, hI a2.1), (5, hI (-1)), (8, hI ((p0).length : Int)), (9, hI a2.1)], [(93006, w3, .arr eInt.k 3 (eInt.E a2.2))]⟩ ?_
  refine AW.seq ?_
  refine AW.rgs rfl fun K hK => mv rfl rfl (mv rfl rfl ?_)
  obtain ⟨x6, h7, h⟩ := bS h
  refine bv rfl (v_idxS ty9 rfl rfl h7) (bv rfl (v_bin rfl rfl b_eql) ?_)
  refine bf hK ⟨[(0, .str p0), (3, .ar 93006 w3 eInt.k 0 ((a2.2).length)), (4, hI a2.1), (5, hI (-1)), (8, hI ((p0).length : Int)), (9, hI a2.1), (15, .bool (decide ((x6.toNat : Int) = 49)))], [(93006, w3, .arr eInt.k 3 (eInt.E a2.2))]⟩ ?_
  refine AW.lastJ h (by first | exact up_then | exact up_to) (S := Int) (V := Unit) (fun a v => ⟨[(0, .str p0), (3, .ar 93006 w3 eInt.k 0 ((a2.2).length)), (4, hI a2.1), (5, hI a), (8, hI ((p0).length : Int)), (9, hI a2.1)], [(93006, w3, .arr eInt.k 3 (eInt.E a2.2))]⟩) (fun a8 w9 h => ?_) (fun k10 h => ?_)
  ·refine AW.rg rfl fun K hK => mv rfl rfl (mv rfl rfl (mv rfl rfl ?_))
   obtain ⟨x11, h12, h⟩ := bS h
   refine bv rfl (v_idxA ty31 es31 rfl rfl (idx_lt h12) rfl) ?_
   obtain ⟨x13, h14, h⟩ := bS h
   refine bv rfl (v_loadP ty3 rfl rfl (l_cell eInt h14 (o := 0) rfl rfl)) (mv rfl rfl (bv rfl (v_bin rfl rfl b_add) ?_))
   refine b_op rfl (o_bsl rfl rfl (as_of (cs := [hI (IntKind.wrap .i64 (x13 + a8))]) ty31 ty3 rfl rfl rfl rfl rfl) ?_)
   obtain ⟨h16, h⟩ := ifN h
   refine b_op rfl (o_appE eInt (l := a2.2) (m := [IntKind.wrap .i64 (x13 + a8)]) rfl rfl ty31 ty31 ty3 rfl rfl rfl rfl rfl h16 (fun v15 => ?_))
   refine mv rfl rfl ?_
   refine bf hK ⟨[(0, .str p0), (3, .ar 93006 v15 eInt.k 0 ((a2.2 ++ [IntKind.wrap .i64 (x13 + a8)]).length)), (8, hI ((p0).length : Int)), (9, hI a2.1)], [(93006, v15, .arr eInt.k 3 (eInt.E (a2.2 ++ [IntKind.wrap .i64 (x13 + a8)])))]⟩ ?_
   refine AW.rg rfl fun K hK => bv rfl (v_bin rfl rfl b_add) (mv rfl rfl ?_)
   refine b_nil (hK _ ?_)
   exact to_L ⟨(IntKind.wrap .i64 (a2.1 + 1), a2.2 ++ [IntKind.wrap .i64 (x13 + a8)]), v15, h, rfl⟩
  refine AW.cond rfl (fun hc => ?_) (fun hc => ?_)
  ·obtain ⟨hc, h⟩ := cT hc h
   refine AW.rg rfl fun K hK => mv rfl rfl ?_
   refine b_nil (hK _ ?_)
   exact to_L ⟨1, (), h, rfl⟩
  obtain ⟨hc, h⟩ := cF hc h
  refine AW.skip ?_
  exact to_L ⟨(-1), (), h, rfl⟩
 obtain ⟨hc, h⟩ := cF hc h
 refine AW.exit ?_
 exact to_L ⟨a2.2, w3, h, rfl⟩
theorem w_runs_Charges {p0 : List UInt8} {r : (List (Int)) × Int} (h : m_runs_Charges p0 = some r) : Pure Tryz.prog 42 [.str p0] (· = HV.tup [slE eInt r.1, hI r.2]) := by
 unfold m_runs_Charges at h
 refine Pure.of_body Tryz.func42 rfl rfl (lb rfl) fun hf => ?_
 unfold Tryz.f42
 dsimp only [enumS, Nat.reduceAdd]
 refine AW.rgs rfl fun K hK => mv rfl rfl (mv rfl rfl ?_)
 refine bf hK ⟨[(0, .str p0)], []⟩ ?_
 refine AW.seq ?_
 refine AW.rgs rfl fun K hK => mv rfl rfl ?_
 obtain ⟨x1, h2, h⟩ := bS h
 refine b_op rfl (o_call rfl rfl rfl rfl (ACallD.pure0 (w_word_Check h2)) ?_)
 refine mv rfl rfl ?_
 refine bf hK ⟨[(0, .str p0), (4, hI x1)], []⟩ ?_
 refine AW.rgs rfl fun K hK => mv rfl rfl (bv rfl (v_bin rfl rfl b_neq) ?_)
 refine bf hK ⟨[(0, .str p0), (4, hI x1), (8, .bool (decide (x1 ≠ 0)))], []⟩ ?_
 refine AW.cond rfl (fun hc => ?_) (fun hc => ?_)
 ·obtain ⟨hc, h⟩ := cT hc h
  refine AW.rgs rfl fun K hK => mv rfl rfl (mv rfl rfl (mv rfl rfl ?_))
  refine bf hK ⟨[(2, .v (.slice none 0 0)), (3, hI x1)], []⟩ ?_
  refine AW.to (to_weak ⟨[(2, slE eInt ([] : List Int)), (3, hI x1)], []⟩ ⟨⟨_, rfl, .nil _⟩, ⟨_, rfl, .refl _⟩, trivial⟩ trivial ?_)
  refine AW.ret ?_
  have h := Option.some.inj h
  subst h
  exact ret_pure (hs := [slE eInt ([] : List Int), hI x1]) (.inr rfl) (resT rfl (resT rfl rfl)) rfl ⟨(clean_slE fun _ _ => ⟨trivial, trivial⟩), trivial, trivial⟩
 obtain ⟨hc, h⟩ := cF hc h
 refine AW.skip ?_
 refine AW.rgs rfl fun K hK => mv rfl rfl ?_
 obtain ⟨x3, h4, h⟩ := bS h
 refine b_op rfl (o_call rfl rfl rfl rfl (ACallD.pure0 (w_runs_charges h4)) ?_)
 refine mv rfl rfl (mv rfl rfl ?_)
 refine bf hK ⟨[(2, slE eInt x3), (3, hI 0)], []⟩ ?_
 refine AW.ret ?_
 have h := Option.some.inj h
 subst h
 exact ret_pure (hs := [slE eInt x3, hI 0]) (.inr rfl) (resT rfl (resT rfl rfl)) rfl ⟨(clean_slE fun _ _ => ⟨trivial, trivial⟩), trivial, trivial⟩
theorem w_slices_Min_Lint_int {p0 : List (Int)} {r : Int} (h : m_slices_Min_Lint_int p0 = some r) : Pure Tryz.prog 43 [slE eInt p0] (· = hI r) := by
 unfold m_slices_Min_Lint_int at h
 refine Pure.of_body Tryz.func43 rfl rfl (lb rfl) fun hf => ?_
 unfold Tryz.f43
 dsimp only [enumS, Nat.reduceAdd]
 refine AW.rgs rfl fun K hK => mv rfl rfl ?_
 refine bf hK ⟨[(0, slE eInt p0)], []⟩ ?_
 refine AW.seq ?_
 refine AW.rgs rfl fun K hK => mv rfl rfl (bv rfl (v_lenF rfl rfl ty31 rfl) (bv rfl (v_bin rfl rfl b_lss) ?_))
 refine bf hK ⟨[(0, slE eInt p0), (7, .bool (decide (((p0).length : Int) < 1)))], []⟩ ?_
 refine AW.cond rfl (fun hc => ?_) (fun hc => ?_)
 ·obtain ⟨hc, h⟩ := cT hc h
  cases h
 obtain ⟨hc, h⟩ := cF hc h
 refine AW.skip ?_
 refine AW.rgs rfl fun K hK => mv rfl rfl ?_
 obtain ⟨x1, h2, h⟩ := bS h
 refine bv rfl (v_idxF ty31 es31 rfl rfl (idx_lt h2)) (bv rfl (v_loadF ty3 rfl (l_cell eInt h2 (o := 0) rfl rfl)) (mv rfl rfl ?_))
 refine bf hK ⟨[(0, slE eInt p0), (3, hI x1)], []⟩ ?_
 refine AW.seq ?_
 refine AW.rgs rfl fun K hK => mv rfl rfl ?_
 refine bf hK ⟨[(0, slE eInt p0), (3, hI x1), (4, hI 1)], []⟩ ?_
 refine AW.lpX h (by first | exact up_then | exact up_to) (S := Int × Int) (V := Unit) (fun a v => ⟨[(0, slE eInt p0), (3, hI a.1), (4, hI a.2)], []⟩) ?_ (X := Int) (W := Unit) (fun a v => ⟨[(3, hI a)], []⟩) (fun a9 w10 h => ?_) (fun a3 w4 st5 h => ?_)
 ·exact to_L ⟨(), rfl⟩
 ·refine AW.rgs rfl fun K hK => mv rfl rfl (mv rfl rfl ?_)
  refine bf hK ⟨[(2, hI a9)], []⟩ ?_
  refine AW.ret ?_
  have h := Option.some.inj h
  subst h
  exact ret_pure (hs := [hI a9]) (.inr rfl) (resT rfl rfl) rfl trivial
 refine AW.seq ?_
 refine AW.rgs rfl fun K hK => mv rfl rfl (mv rfl rfl (bv rfl (v_lenF rfl rfl ty31 rfl) (bv rfl (v_bin rfl rfl b_lss) ?_)))
 refine bf hK ⟨[(0, slE eInt p0), (3, hI a3.1), (4, hI a3.2), (15, .bool (decide (a3.2 < ((p0).length : Int))))], []⟩ ?_
 refine AW.cond rfl (fun hc => ?_) (fun hc => ?_)
 ·obtain ⟨hc, h⟩ := cT hc h
  refine AW.skip ?_
  refine AW.seq (AW.block ?_)
  refine AW.rg rfl fun K hK => mv rfl rfl (mv rfl rfl (mv rfl rfl ?_))
  obtain ⟨x7, h8, h⟩ := bS h
  refine bv rfl (v_idxF ty31 es31 rfl rfl (idx_lt h8)) (bv rfl (v_loadF ty3 rfl (l_cell eInt h8 (o := 0) rfl rfl)) (bv rfl (v_min rfl rfl rfl) (mv rfl rfl ?_)))
  refine bf hK ⟨[(0, slE eInt p0), (3, hI (min a3.1 x7)), (4, hI a3.2)], []⟩ ?_
  refine AW.rg rfl fun K hK => mv rfl rfl (bv rfl (v_bin rfl rfl b_add) (mv rfl rfl ?_))
  refine b_nil (hK _ ?_)
  exact to_L ⟨(min a3.1 x7, IntKind.wrap .i64 (a3.2 + 1)), (), h, rfl⟩
 obtain ⟨hc, h⟩ := cF hc h
 refine AW.exit ?_
 exact to_L ⟨a3.1, (), h, rfl⟩
theorem w_slices_Max_Lint_int {p0 : List (Int)} {r : Int} (h : m_slices_Max_Lint_int p0 = some r) : Pure Tryz.prog 44 [slE eInt p0] (· = hI r) := by
 unfold m_slices_Max_Lint_int at h
 refine Pure.of_body Tryz.func44 rfl rfl (lb rfl) fun hf => ?_
 unfold Tryz.f44
 dsimp only [enumS, Nat.reduceAdd]
 refine AW.rgs rfl fun K hK => mv rfl rfl ?_
 refine bf hK ⟨[(0, slE eInt p0)], []⟩ ?_
 refine AW.seq ?_
 refine AW.rgs rfl fun K hK => mv rfl rfl (bv rfl (v_lenF rfl rfl ty31 rfl) (bv rfl (v_bin rfl rfl b_lss) ?_))
 refine bf hK ⟨[(0, slE eInt p0), (7, .bool (decide (((p0).length : Int) < 1)))], []⟩ ?_
 refine AW.cond rfl (fun hc => ?_) (fun hc => ?_)
 ·obtain ⟨hc, h⟩ := cT hc h
  cases h
 obtain ⟨hc, h⟩ := cF hc h
 refine AW.skip ?_
 refine AW.rgs rfl fun K hK => mv rfl rfl ?_
 obtain ⟨x1, h2, h⟩ := bS h
 refine bv rfl (v_idxF ty31 es31 rfl rfl (idx_lt h2)) (bv rfl (v_loadF ty3 rfl (l_cell eInt h2 (o := 0) rfl rfl)) (mv rfl rfl ?_))
 refine bf hK ⟨[(0, slE eInt p0), (3, hI x1)], []⟩ ?_
 refine AW.seq ?_
 refine AW.rgs rfl fun K hK => mv rfl rfl ?_
 refine bf hK ⟨[(0, slE eInt p0), (3, hI x1), (4, hI 1)], []⟩ ?_
 refine AW.lpX h (by first | exact up_then | exact up_to) (S := Int × Int) (V := Unit) (fun a v => ⟨[(0, slE eInt p0), (3, hI a.1), (4, hI a.2)], []⟩) ?_ (X := Int) (W := Unit) (fun a v => ⟨[(3, hI a)], []⟩) (fun a9 w10 h => ?_) (fun a3 w4 st5 h => ?_)
 ·exact to_L ⟨(), rfl⟩
 ·refine AW.rgs rfl fun K hK => mv rfl rfl (mv rfl rfl ?_)
  refine bf hK ⟨[(2, hI a9)], []⟩ ?_
  refine AW.ret ?_
  have h := Option.some.inj h
  subst h
  exact ret_pure (hs := [hI a9]) (.inr rfl) (resT rfl rfl) rfl trivial
 refine AW.seq ?_
 refine AW.rgs rfl fun K hK => mv rfl rfl (mv rfl rfl (bv rfl (v_lenF rfl rfl ty31 rfl) (bv rfl (v_bin rfl rfl b_lss) ?_)))
 refine bf hK ⟨[(0, slE eInt p0), (3, hI a3.1), (4, hI a3.2), (15, .bool (decide (a3.2 < ((p0).length : Int))))], []⟩ ?_
 refine AW.cond rfl (fun hc => ?_) (fun hc => ?_)
 ·obtain ⟨hc, h⟩ := cT hc h
  refine AW.skip ?_
  refine AW.seq (AW.block ?_)
  refine AW.rg rfl fun K hK => mv rfl rfl (mv rfl rfl (mv rfl rfl ?_))
  obtain ⟨x7, h8, h⟩ := bS h
  refine bv rfl (v_idxF ty31 es31 rfl rfl (idx_lt h8)) (bv rfl (v_loadF ty3 rfl (l_cell eInt h8 (o := 0) rfl rfl)) (bv rfl (v_max rfl rfl rfl) (mv rfl rfl ?_)))
  refine bf hK ⟨[(0, slE eInt p0), (3, hI (max a3.1 x7)), (4, hI a3.2)], []⟩ ?_
  refine AW.rg rfl fun K hK => mv rfl rfl (bv rfl (v_bin rfl rfl b_add) (mv rfl rfl ?_))
  refine b_nil (hK _ ?_)
  exact to_L ⟨(max a3.1 x7, IntKind.wrap .i64 (a3.2 + 1)), (), h, rfl⟩
 obtain ⟨hc, h⟩ := cF hc h
 refine AW.exit ?_
 exact to_L ⟨a3.1, (), h, rfl⟩
theorem w_runs_Range {p0 : List UInt8} {r : Int × Int × Int} (h : m_runs_Range p0 = some r) : Pure Tryz.prog 90 [.str p0] (· = HV.tup [hI r.1, hI r.2.1, hI r.2.2]) := by
 unfold m_runs_Range at h
 refine Pure.of_body Tryz.func90 rfl rfl (lb rfl) fun hf => ?_
 unfold Tryz.f90
 dsimp only [enumS, Nat.reduceAdd]
 refine AW.rgs rfl fun K hK => mv rfl rfl (mv rfl rfl (mv rfl rfl ?_))
 refine bf hK ⟨[(0, .str p0)], []⟩ ?_
 refine AW.rgs rfl fun K hK => mv rfl rfl ?_
 obtain ⟨x1, h2, h⟩ := bS h
 refine b_op rfl (o_call rfl rfl rfl rfl (ACallD.pure0 (w_runs_Charges h2)) ?_)
 refine mv rfl rfl (bv rfl (v_extract rfl rfl) (bv rfl (v_extract rfl rfl) (mv rfl rfl (mv rfl rfl ?_))))
 refine bf hK ⟨[(5, slE eInt x1.1), (6, hI x1.2)], []⟩ ?_
 refine AW.seq ?_
 refine AW.rgs rfl fun K hK => mv rfl rfl (bv rfl (v_bin rfl rfl b_neq) ?_)
 refine bf hK ⟨[(5, slE eInt x1.1), (6, hI x1.2), (13, .bool (decide (x1.2 ≠ 0)))], []⟩ ?_
 refine AW.cond rfl (fun hc => ?_) (fun hc => ?_)
 ·obtain ⟨hc, h⟩ := cT hc h
  refine AW.rgs rfl fun K hK => mv rfl rfl (mv rfl rfl (mv rfl rfl (mv rfl rfl ?_)))
  refine bf hK ⟨[(2, hI 0), (3, hI 0), (4, hI x1.2)], []⟩ ?_
  refine AW.ret ?_
  have h := Option.some.inj h
  subst h
  exact ret_pure (hs := [hI 0, hI 0, hI x1.2]) (.inr rfl) (resT rfl (resT rfl (resT rfl rfl))) rfl ⟨trivial, trivial, trivial, trivial⟩
 obtain ⟨hc, h⟩ := cF hc h
 refine AW.skip ?_
 refine AW.rgs rfl fun K hK => mv rfl rfl ?_
 obtain ⟨x3, h4, h⟩ := bS h
 refine b_op rfl (o_call rfl rfl rfl rfl (ACallD.pure0 (w_slices_Min_Lint_int h4)) ?_)
 refine mv rfl rfl ?_
 obtain ⟨x5, h6, h⟩ := bS h
 refine b_op rfl (o_call rfl rfl rfl rfl (ACallD.pure0 (w_slices_Max_Lint_int h6)) ?_)
 refine mv rfl rfl (mv rfl rfl (mv rfl rfl ?_))
 refine bf hK ⟨[(2, hI x3), (3, hI x5), (4, hI 0)], []⟩ ?_
 refine AW.ret ?_
 have h := Option.some.inj h
 subst h
 exact ret_pure (hs := [hI x3, hI x5, hI 0]) (.inr rfl) (resT rfl (resT rfl (resT rfl rfl))) rfl ⟨trivial, trivial, trivial, trivial⟩
theorem w_merging_Charge {p0 : TWordsMerges} {p1 : TLabelsStatesEdges} {p2 : List (Int)} {r : Int × Int × Int} (h : m_merging_Charge p0 p1 p2 = some r) : Pure Tryz.prog 40 [jA p0, gA p1, slE eInt p2] (· = HV.tup [hI r.1, hI r.2.1, hI r.2.2]) := by
 unfold m_merging_Charge at h
 refine Pure.of_body Tryz.func40 rfl rfl (lb rfl) fun hf => ?_
 unfold Tryz.f40
 dsimp only [enumS, Nat.reduceAdd]
 refine AW.rgs rfl fun K hK => b_op rfl (o_box rfl rfl rfl ?_)
 refine b_op rfl (o_box rfl rfl rfl ?_)
 refine mv rfl rfl (mv rfl rfl (mv rfl rfl ?_))
 refine bf hK ⟨[(2, slE eInt p2), (3, jF p0), (4, gF p1)], []⟩ ?_
 refine AW.rgs rfl fun K hK => bv rfl (v_loadF ty24 rfl (l_litA rfl (lb rfl) rfl)) (bv rfl (v_loadF ty27 rfl (l_litA rfl (lb rfl) rfl)) (mv rfl rfl ?_))
 obtain ⟨x1, h2, h⟩ := bS h
 refine b_op rfl (o_call rfl rfl rfl rfl (ACallD.pure0 (w_merging_Encode h2)) ?_)
 refine mv rfl rfl (bv rfl (v_extract rfl rfl) (bv rfl (v_extract rfl rfl) (mv rfl rfl (mv rfl rfl ?_))))
 refine bf hK ⟨[(9, .str x1.1), (10, hI x1.2)], []⟩ ?_
 refine AW.seq ?_
 refine AW.rgs rfl fun K hK => mv rfl rfl (bv rfl (v_bin rfl rfl b_neq) ?_)
 refine bf hK ⟨[(9, .str x1.1), (10, hI x1.2), (19, .bool (decide (x1.2 ≠ 0)))], []⟩ ?_
 refine AW.cond rfl (fun hc => ?_) (fun hc => ?_)
 ·obtain ⟨hc, h⟩ := cT hc h
  refine AW.rgs rfl fun K hK => mv rfl rfl (mv rfl rfl (mv rfl rfl (mv rfl rfl ?_)))
  refine bf hK ⟨[(6, hI 0), (7, hI 0), (8, hI x1.2)], []⟩ ?_
  refine AW.ret ?_
  have h := Option.some.inj h
  subst h
  exact ret_pure (hs := [hI 0, hI 0, hI x1.2]) (.inr rfl) (resT rfl (resT rfl (resT rfl rfl))) rfl ⟨trivial, trivial, trivial, trivial⟩
 obtain ⟨hc, h⟩ := cF hc h
 refine AW.skip ?_
 refine AW.rgs rfl fun K hK => mv rfl rfl ?_
 obtain ⟨x3, h4, h⟩ := bS h
 refine b_op rfl (o_call rfl rfl rfl rfl (ACallD.pure0 (w_runs_Range h4)) ?_)
 refine bv rfl (v_extract rfl rfl) (bv rfl (v_extract rfl rfl) (bv rfl (v_extract rfl rfl) (mv rfl rfl (mv rfl rfl (mv rfl rfl ?_)))))
 refine bf hK ⟨[(6, hI x3.1), (7, hI x3.2.1), (8, hI x3.2.2)], []⟩ ?_
 refine AW.ret ?_
 have h := Option.some.inj h
 subst h
 exact ret_pure (hs := [hI x3.1, hI x3.2.1, hI x3.2.2]) (.inr rfl) (resT rfl (resT rfl (resT rfl rfl))) rfl ⟨trivial, trivial, trivial, trivial⟩
theorem w_ref08_Range {p0 : List UInt8} {r : Int × Int × Int} (h : m_ref08_Range p0 = some r) : Pure Tryz.prog 91 [.str p0] (· = HV.tup [hI r.1, hI r.2.1, hI r.2.2]) := by
 unfold m_ref08_Range at h
 refine Pure.of_body Tryz.func91 rfl rfl (lb rfl) fun hf => ?_
 unfold Tryz.f91
 dsimp only [enumS, Nat.reduceAdd]
 refine AW.rgs rfl fun K hK => mv rfl rfl (mv rfl rfl (mv rfl rfl ?_))
 refine bf hK ⟨[(0, .str p0)], []⟩ ?_
 refine AW.rgs rfl fun K hK => mv rfl rfl ?_
 obtain ⟨x1, h2, h⟩ := bS h
 refine b_op rfl (o_call rfl rfl rfl rfl (ACallD.pure0 (w_ref08_Charges h2)) ?_)
 refine mv rfl rfl (bv rfl (v_extract rfl rfl) (bv rfl (v_extract rfl rfl) (mv rfl rfl (mv rfl rfl ?_))))
 refine bf hK ⟨[(5, slE eInt x1.1), (6, hI x1.2)], []⟩ ?_
 refine AW.seq ?_
 refine AW.rgs rfl fun K hK => mv rfl rfl (bv rfl (v_bin rfl rfl b_neq) ?_)
 refine bf hK ⟨[(5, slE eInt x1.1), (6, hI x1.2), (16, .bool (decide (x1.2 ≠ 0)))], []⟩ ?_
 refine AW.cond rfl (fun hc => ?_) (fun hc => ?_)
 ·obtain ⟨hc, h⟩ := cT hc h
  refine AW.rgs rfl fun K hK => mv rfl rfl (mv rfl rfl (mv rfl rfl (mv rfl rfl ?_)))
  refine bf hK ⟨[(2, hI 0), (3, hI 0), (4, hI x1.2)], []⟩ ?_
  refine AW.ret ?_
  have h := Option.some.inj h
  subst h
  exact ret_pure (hs := [hI 0, hI 0, hI x1.2]) (.inr rfl) (resT rfl (resT rfl (resT rfl rfl))) rfl ⟨trivial, trivial, trivial, trivial⟩
 obtain ⟨hc, h⟩ := cF hc h
 refine AW.skip ?_
 refine AW.rgs rfl fun K hK => mv rfl rfl (mv rfl rfl ?_)
 refine bf hK ⟨[(5, slE eInt x1.1), (7, hI 0), (8, hI 0)], []⟩ ?_
 refine AW.seq ?_
 refine AW.rgs rfl fun K hK => mv rfl rfl ?_
 refine bf hK ⟨[(5, slE eInt x1.1), (7, hI 0), (8, hI 0), (9, hI 0)], []⟩ ?_
 refine AW.lpX h (by first | exact up_then | exact up_to) (S := Int × Int × Int) (V := Unit) (fun a v => ⟨[(5, slE eInt x1.1), (7, hI a.1), (8, hI a.2.1), (9, hI a.2.2)], []⟩) ?_ (X := Int × Int) (W := Unit) (fun a v => ⟨[(7, hI a.1), (8, hI a.2)], []⟩) (fun a21 w22 h => ?_) (fun a3 w4 st5 h => ?_)
 ·exact to_L ⟨(), rfl⟩
 ·refine AW.rgs rfl fun K hK => mv rfl rfl (mv rfl rfl (mv rfl rfl (mv rfl rfl (mv rfl rfl ?_))))
  refine bf hK ⟨[(2, hI a21.1), (3, hI a21.2), (4, hI 0)], []⟩ ?_
  refine AW.ret ?_
  have h := Option.some.inj h
  subst h
  exact ret_pure (hs := [hI a21.1, hI a21.2, hI 0]) (.inr rfl) (resT rfl (resT rfl (resT rfl rfl))) rfl ⟨trivial, trivial, trivial, trivial⟩
 refine AW.seq ?_
 refine AW.rgs rfl fun K hK => mv rfl rfl (mv rfl rfl (bv rfl (v_lenF rfl rfl ty31 rfl) (bv rfl (v_bin rfl rfl b_lss) ?_)))
 refine bf hK ⟨[(5, slE eInt x1.1), (7, hI a3.1), (8, hI a3.2.1), (9, hI a3.2.2), (21, .bool (decide (a3.2.2 < ((x1.1).length : Int))))], []⟩ ?_
 refine AW.cond rfl (fun hc => ?_) (fun hc => ?_)
 ·obtain ⟨hc, h⟩ := cT hc h
  refine AW.skip ?_
  refine AW.seqJ h (S := Int × Int) (V := Unit) (fun a v => ⟨[(5, slE eInt x1.1), (7, hI a.2), (8, hI a.1), (9, hI a3.2.2)], []⟩) (fun a7 w8 h => ?_) (fun k9 h => ?_)
  ·refine AW.rg rfl fun K hK => mv rfl rfl (bv rfl (v_bin rfl rfl b_add) (mv rfl rfl ?_))
   refine b_nil (hK _ ?_)
   exact to_L ⟨(a7.2, a7.1, IntKind.wrap .i64 (a3.2.2 + 1)), (), h, rfl⟩
  refine AW.block ?_
  refine AW.seq ?_
  refine AW.rgs rfl fun K hK => mv rfl rfl (mv rfl rfl ?_)
  obtain ⟨x10, h11, h⟩ := bS h
  refine bv rfl (v_idxF ty31 es31 rfl rfl (idx_lt h11)) (bv rfl (v_loadF ty3 rfl (l_cell eInt h11 (o := 0) rfl rfl)) (mv rfl rfl (bv rfl (v_bin rfl rfl b_lss) ?_)))
  refine bf hK ⟨[(5, slE eInt x1.1), (7, hI a3.1), (8, hI a3.2.1), (9, hI a3.2.2), (29, .bool (decide (x10 < a3.1)))], []⟩ ?_
  refine AW.lastJ h (by first | exact up_then | exact up_to) (S := Int) (V := Unit) (fun a v => ⟨[(5, slE eInt x1.1), (7, hI a), (8, hI a3.2.1), (9, hI a3.2.2)], []⟩) (fun a12 w13 h => ?_) (fun k14 h => ?_)
  ·refine AW.rgs rfl fun K hK => mv rfl rfl (mv rfl rfl ?_)
   obtain ⟨x15, h16, h⟩ := bS h
   refine bv rfl (v_idxF ty31 es31 rfl rfl (idx_lt h16)) (bv rfl (v_loadF ty3 rfl (l_cell eInt h16 (o := 0) rfl rfl)) (mv rfl rfl (bv rfl (v_bin rfl rfl b_gtr) ?_)))
   refine bf hK ⟨[(5, slE eInt x1.1), (7, hI a12), (8, hI a3.2.1), (9, hI a3.2.2), (39, .bool (decide (a3.2.1 < x15)))], []⟩ ?_
   refine AW.cond rfl (fun hc => ?_) (fun hc => ?_)
   ·obtain ⟨hc, h⟩ := cT hc h
    refine AW.rg rfl fun K hK => mv rfl rfl (mv rfl rfl ?_)
    obtain ⟨x17, h18, h⟩ := bS h
    refine bv rfl (v_idxF ty31 es31 rfl rfl (idx_lt h18)) (bv rfl (v_loadF ty3 rfl (l_cell eInt h18 (o := 0) rfl rfl)) (mv rfl rfl ?_))
    refine b_nil (hK _ ?_)
    exact to_L ⟨(x17, a12), (), h, rfl⟩
   obtain ⟨hc, h⟩ := cF hc h
   refine AW.skip ?_
   exact to_L ⟨(a3.2.1, a12), (), h, rfl⟩
  refine AW.cond rfl (fun hc => ?_) (fun hc => ?_)
  ·obtain ⟨hc, h⟩ := cT hc h
   refine AW.rg rfl fun K hK => mv rfl rfl (mv rfl rfl ?_)
   obtain ⟨x19, h20, h⟩ := bS h
   refine bv rfl (v_idxF ty31 es31 rfl rfl (idx_lt h20)) (bv rfl (v_loadF ty3 rfl (l_cell eInt h20 (o := 0) rfl rfl)) (mv rfl rfl ?_))
   refine b_nil (hK _ ?_)
   exact to_L ⟨x19, (), h, rfl⟩
  obtain ⟨hc, h⟩ := cF hc h
  refine AW.skip ?_
  exact to_L ⟨a3.1, (), h, rfl⟩
 obtain ⟨hc, h⟩ := cF hc h
 refine AW.exit ?_
 exact to_L ⟨(a3.1, a3.2.1), (), h, rfl⟩
theorem w_ref31_Charge {p0 : TWordsMerges} {p1 : TLabelsStatesEdges} {p2 : List (Int)} {r : Int × Int × Int} (h : m_ref31_Charge p0 p1 p2 = some r) : Pure Tryz.prog 41 [jA p0, gA p1, slE eInt p2] (· = HV.tup [hI r.1, hI r.2.1, hI r.2.2]) := by
 unfold m_ref31_Charge at h
 refine Pure.of_body Tryz.func41 rfl rfl (lb rfl) fun hf => ?_
 unfold Tryz.f41
 dsimp only [enumS, Nat.reduceAdd]
 refine AW.rgs rfl fun K hK => b_op rfl (o_box rfl rfl rfl ?_)
 refine b_op rfl (o_box rfl rfl rfl ?_)
 refine mv rfl rfl (mv rfl rfl (mv rfl rfl ?_))
 refine bf hK ⟨[(2, slE eInt p2), (3, jF p0), (4, gF p1)], []⟩ ?_
 refine AW.rgs rfl fun K hK => bv rfl (v_loadF ty24 rfl (l_litA rfl (lb rfl) rfl)) (bv rfl (v_loadF ty27 rfl (l_litA rfl (lb rfl) rfl)) (mv rfl rfl ?_))
 obtain ⟨x1, h2, h⟩ := bS h
 refine b_op rfl (o_call rfl rfl rfl rfl (ACallD.pure0 (w_ref31_Encode h2)) ?_)
 refine mv rfl rfl (bv rfl (v_extract rfl rfl) (bv rfl (v_extract rfl rfl) (mv rfl rfl (mv rfl rfl ?_))))
 refine bf hK ⟨[(9, .str x1.1), (10, hI x1.2)], []⟩ ?_
 refine AW.seq ?_
 refine AW.rgs rfl fun K hK => mv rfl rfl (bv rfl (v_bin rfl rfl b_neq) ?_)
 refine bf hK ⟨[(9, .str x1.1), (10, hI x1.2), (19, .bool (decide (x1.2 ≠ 0)))], []⟩ ?_
 refine AW.cond rfl (fun hc => ?_) (fun hc => ?_)
 ·obtain ⟨hc, h⟩ := cT hc h
  refine AW.rgs rfl fun K hK => mv rfl rfl (mv rfl rfl (mv rfl rfl (mv rfl rfl ?_)))
  refine bf hK ⟨[(6, hI 0), (7, hI 0), (8, hI x1.2)], []⟩ ?_
  refine AW.ret ?_
  have h := Option.some.inj h
  subst h
  exact ret_pure (hs := [hI 0, hI 0, hI x1.2]) (.inr rfl) (resT rfl (resT rfl (resT rfl rfl))) rfl ⟨trivial, trivial, trivial, trivial⟩
 obtain ⟨hc, h⟩ := cF hc h
 refine AW.skip ?_
 refine AW.rgs rfl fun K hK => mv rfl rfl ?_
 obtain ⟨x3, h4, h⟩ := bS h
 refine b_op rfl (o_call rfl rfl rfl rfl (ACallD.pure0 (w_ref08_Range h4)) ?_)
 refine bv rfl (v_extract rfl rfl) (bv rfl (v_extract rfl rfl) (bv rfl (v_extract rfl rfl) (mv rfl rfl (mv rfl rfl (mv rfl rfl ?_)))))
 refine bf hK ⟨[(6, hI x3.1), (7, hI x3.2.1), (8, hI x3.2.2)], []⟩ ?_
 refine AW.ret ?_
 have h := Option.some.inj h
 subst h
 exact ret_pure (hs := [hI x3.1, hI x3.2.1, hI x3.2.2]) (.inr rfl) (resT rfl (resT rfl (resT rfl rfl))) rfl ⟨trivial, trivial, trivial, trivial⟩
theorem w_law31_MergingWrites {p0 : TWordsMerges} {p1 : TLabelsStatesEdges} {p2 : List (Int)} {r : Bool} (h : m_law31_MergingWrites p0 p1 p2 = some r) : Pure Tryz.prog 8 [jA p0, gA p1, slE eInt p2] (· = HV.bool r) := by
 unfold m_law31_MergingWrites at h
 refine Pure.of_body Tryz.func8 rfl rfl (lb rfl) fun hf => ?_
 unfold Tryz.f8
 dsimp only [enumS, Nat.reduceAdd]
 refine AW.rgs rfl fun K hK => b_op rfl (o_box rfl rfl rfl ?_)
 refine b_op rfl (o_box rfl rfl rfl ?_)
 refine mv rfl rfl ?_
 refine bf hK ⟨[(2, slE eInt p2), (3, jF p0), (4, gF p1)], []⟩ ?_
 refine AW.seq ?_
 refine AW.seqJ h (S := Bool) (V := Unit) (fun a v => ⟨[(2, slE eInt p2), (3, jF p0), (4, gF p1), (24, .bool a)], []⟩) (fun a1 w2 h => ?_) (fun k3 h => ?_)
 ·refine AW.cond rfl (fun hc => ?_) (fun hc => ?_)
  ·have h := ifT hc h
   refine AW.rgs rfl fun K hK => ?_
   obtain ⟨x4, h5, h⟩ := bS h
   refine b_op rfl (o_call rfl rfl rfl rfl (ACallD.pure0 (w_law31_awake h5)) ?_)
   refine mv rfl rfl ?_
   refine bf hK ⟨[(6, .bool x4)], []⟩ ?_
   refine AW.ret ?_
   have h := Option.some.inj h
   subst h
   exact ret_pure (hs := [.bool x4]) (.inr rfl) (resT rfl rfl) rfl trivial
  have h := ifF (bF' hc) h
  refine AW.skip ?_
  refine AW.rgs rfl fun K hK => bv rfl (v_loadF ty24 rfl (l_litA rfl (lb rfl) rfl)) (bv rfl (v_loadF ty27 rfl (l_litA rfl (lb rfl) rfl)) (mv rfl rfl ?_))
  obtain ⟨x6, h7, h⟩ := bS h
  refine b_op rfl (o_call rfl rfl rfl rfl (ACallD.pure0 (w_merging_Encode h7)) ?_)
  refine mv rfl rfl (bv rfl (v_extract rfl rfl) (bv rfl (v_extract rfl rfl) (mv rfl rfl (mv rfl rfl ?_))))
  refine bf hK ⟨[(2, slE eInt p2), (3, jF p0), (4, gF p1), (7, .str x6.1), (8, hI x6.2)], []⟩ ?_
  refine AW.rgs rfl fun K hK => bv rfl (v_loadF ty24 rfl (l_litA rfl (lb rfl) rfl)) (bv rfl (v_loadF ty27 rfl (l_litA rfl (lb rfl) rfl)) (mv rfl rfl ?_))
  obtain ⟨x8, h9, h⟩ := bS h
  refine b_op rfl (o_call rfl rfl rfl rfl (ACallD.pure0 (w_ref31_Encode h9)) ?_)
  refine mv rfl rfl (bv rfl (v_extract rfl rfl) (bv rfl (v_extract rfl rfl) (mv rfl rfl (mv rfl rfl ?_))))
  refine bf hK ⟨[(2, slE eInt p2), (3, jF p0), (4, gF p1), (7, .str x6.1), (8, hI x6.2), (9, .str x8.1), (10, hI x8.2)], []⟩ ?_
  refine AW.rgs rfl fun K hK => bv rfl (v_loadF ty24 rfl (l_litA rfl (lb rfl) rfl)) (bv rfl (v_loadF ty27 rfl (l_litA rfl (lb rfl) rfl)) (mv rfl rfl ?_))
  obtain ⟨x10, h11, h⟩ := bS h
  refine b_op rfl (o_call rfl rfl rfl rfl (ACallD.pure0 (w_merging_Charge h11)) ?_)
  refine mv rfl rfl (bv rfl (v_extract rfl rfl) (bv rfl (v_extract rfl rfl) (bv rfl (v_extract rfl rfl) (mv rfl rfl (mv rfl rfl ?_)))))
  refine mv rfl rfl ?_
  refine bf hK ⟨[(2, slE eInt p2), (3, jF p0), (4, gF p1), (7, .str x6.1), (8, hI x6.2), (9, .str x8.1), (10, hI x8.2), (11, hI x10.1), (12, hI x10.2.1), (13, hI x10.2.2)], []⟩ ?_
  refine AW.rgs rfl fun K hK => bv rfl (v_loadF ty24 rfl (l_litA rfl (lb rfl) rfl)) (bv rfl (v_loadF ty27 rfl (l_litA rfl (lb rfl) rfl)) (mv rfl rfl ?_))
  obtain ⟨x12, h13, h⟩ := bS h
  refine b_op rfl (o_call rfl rfl rfl rfl (ACallD.pure0 (w_ref31_Charge h13)) ?_)
  refine mv rfl rfl (bv rfl (v_extract rfl rfl) (bv rfl (v_extract rfl rfl) (bv rfl (v_extract rfl rfl) (mv rfl rfl (mv rfl rfl ?_)))))
  refine mv rfl rfl ?_
  refine bf hK ⟨[(7, .str x6.1), (8, hI x6.2), (9, .str x8.1), (10, hI x8.2), (11, hI x10.1), (12, hI x10.2.1), (13, hI x10.2.2), (14, hI x12.1), (15, hI x12.2.1), (16, hI x12.2.2)], []⟩ ?_
  refine AW.seqJ h (S := Bool) (V := Unit) (fun a v => ⟨[(6, .bool a)], []⟩) (fun a14 w15 h => ?_) (fun k16 h => ?_)
  ·refine AW.ret ?_
   have h := Option.some.inj h
   subst h
   exact ret_pure (hs := [.bool a14]) (.inr rfl) (resT rfl rfl) rfl trivial
  refine AW.rg rfl fun K hK => mv rfl rfl (mv rfl rfl (bv rfl (v_bin rfl rfl b_seql) (mv rfl rfl ?_)))
  by_cases hg23 : x6.1 = x8.1
  ·have h := ifT hg23 h
   refine b_T rfl rfl rfl rfl (decide_eq_true hg23) (o_val rfl (mv_val rfl rfl).2 ?_)
   refine b_T rfl rfl rfl rfl rfl (o_val rfl (mv_val rfl rfl).2 ?_)
   refine b_T rfl rfl rfl rfl rfl (o_val rfl (v_bin rfl rfl b_eql) ?_)
   refine bv rfl (v_pickT rfl rfl rfl) (mv rfl rfl ?_)
   by_cases hg22 : x6.2 = x8.2
   ·have h := ifT hg22 h
    refine b_T rfl rfl rfl rfl (decide_eq_true hg22) (o_val rfl (mv_val rfl rfl).2 ?_)
    refine b_T rfl rfl rfl rfl rfl (o_val rfl (mv_val rfl rfl).2 ?_)
    refine b_T rfl rfl rfl rfl rfl (o_val rfl (v_bin rfl rfl b_eql) ?_)
    refine bv rfl (v_pickT rfl rfl rfl) (mv rfl rfl ?_)
    by_cases hg21 : x10.1 = x12.1
    ·have h := ifT hg21 h
     refine b_T rfl rfl rfl rfl (decide_eq_true hg21) (o_val rfl (mv_val rfl rfl).2 ?_)
     refine b_T rfl rfl rfl rfl rfl (o_val rfl (mv_val rfl rfl).2 ?_)
     refine b_T rfl rfl rfl rfl rfl (o_val rfl (v_bin rfl rfl b_eql) ?_)
     refine bv rfl (v_pickT rfl rfl rfl) (mv rfl rfl ?_)
     by_cases hg20 : x10.2.1 = x12.2.1
     ·have h := ifT hg20 h
      refine b_T rfl rfl rfl rfl (decide_eq_true hg20) (o_val rfl (mv_val rfl rfl).2 ?_)
      refine b_T rfl rfl rfl rfl rfl (o_val rfl (mv_val rfl rfl).2 ?_)
      refine b_T rfl rfl rfl rfl rfl (o_val rfl (v_bin rfl rfl b_eql) ?_)
      refine bv rfl (v_pickT rfl rfl rfl) (mv rfl rfl ?_)
      by_cases hg19 : x10.2.2 = x12.2.2
      ·have h := ifT hg19 h
       obtain ⟨x17, h18, h⟩ := bS h
       refine b_T rfl rfl rfl rfl (decide_eq_true hg19) (o_call rfl rfl rfl rfl (ACallD.pure0 (w_law31_awake h18)) ?_)
       refine bv rfl (v_pickT rfl rfl rfl) (mv rfl rfl ?_)
       refine b_nil (hK _ ?_)
       exact to_L ⟨x17, (), h, rfl⟩
      have h := ifF hg19 h
      refine b_F rfl rfl rfl rfl rfl (decide_eq_false hg19) ?_
      refine bv rfl (v_pickF rfl rfl rfl) (mv rfl rfl ?_)
      refine b_nil (hK _ ?_)
      exact to_L ⟨false, (), h, rfl⟩
     have h := ifF hg20 h
     refine b_F rfl rfl rfl rfl rfl (decide_eq_false hg20) ?_
     refine b_F rfl rfl rfl rfl rfl rfl ?_
     refine b_F rfl rfl rfl rfl rfl rfl ?_
     refine bv rfl (v_pickF rfl rfl rfl) (mv rfl rfl ?_)
     refine b_F rfl rfl rfl rfl rfl rfl ?_
     refine bv rfl (v_pickF rfl rfl rfl) (mv rfl rfl ?_)
     refine b_nil (hK _ ?_)
     exact to_L ⟨false, (), h, rfl⟩
    have h := ifF hg21 h
    refine b_F rfl rfl rfl rfl rfl (decide_eq_false hg21) ?_
    refine b_F rfl rfl rfl rfl rfl rfl ?_
    refine b_F rfl rfl rfl rfl rfl rfl ?_
    refine bv rfl (v_pickF rfl rfl rfl) (mv rfl rfl ?_)
    refine b_F rfl rfl rfl rfl rfl rfl ?_
    refine b_F rfl rfl rfl rfl rfl rfl ?_
    refine b_F rfl rfl rfl rfl rfl rfl ?_
    refine bv rfl (v_pickF rfl rfl rfl) (mv rfl rfl ?_)
    refine b_F rfl rfl rfl rfl rfl rfl ?_
    refine bv rfl (v_pickF rfl rfl rfl) (mv rfl rfl ?_)
    refine b_nil (hK _ ?_)
    exact to_L ⟨false, (), h, rfl⟩
   have h := ifF hg22 h
   refine b_F rfl rfl rfl rfl rfl (decide_eq_false hg22) ?_
   refine b_F rfl rfl rfl rfl rfl rfl ?_
   refine b_F rfl rfl rfl rfl rfl rfl ?_
   refine bv rfl (v_pickF rfl rfl rfl) (mv rfl rfl ?_)
   refine b_F rfl rfl rfl rfl rfl rfl ?_
   refine b_F rfl rfl rfl rfl rfl rfl ?_
   refine b_F rfl rfl rfl rfl rfl rfl ?_
   refine bv rfl (v_pickF rfl rfl rfl) (mv rfl rfl ?_)
   refine b_F rfl rfl rfl rfl rfl rfl ?_
   refine b_F rfl rfl rfl rfl rfl rfl ?_
   refine b_F rfl rfl rfl rfl rfl rfl ?_
   refine bv rfl (v_pickF rfl rfl rfl) (mv rfl rfl ?_)
   refine b_F rfl rfl rfl rfl rfl rfl ?_
   refine bv rfl (v_pickF rfl rfl rfl) (mv rfl rfl ?_)
   refine b_nil (hK _ ?_)
   exact to_L ⟨false, (), h, rfl⟩
  have h := ifF hg23 h
  refine b_F rfl rfl rfl rfl rfl (decide_eq_false hg23) ?_
  refine b_F rfl rfl rfl rfl rfl rfl ?_
  refine b_F rfl rfl rfl rfl rfl rfl ?_
  refine bv rfl (v_pickF rfl rfl rfl) (mv rfl rfl ?_)
  refine b_F rfl rfl rfl rfl rfl rfl ?_
  refine b_F rfl rfl rfl rfl rfl rfl ?_
  refine b_F rfl rfl rfl rfl rfl rfl ?_
  refine bv rfl (v_pickF rfl rfl rfl) (mv rfl rfl ?_)
  refine b_F rfl rfl rfl rfl rfl rfl ?_
  refine b_F rfl rfl rfl rfl rfl rfl ?_
  refine b_F rfl rfl rfl rfl rfl rfl ?_
  refine bv rfl (v_pickF rfl rfl rfl) (mv rfl rfl ?_)
  refine b_F rfl rfl rfl rfl rfl rfl ?_
  refine b_F rfl rfl rfl rfl rfl rfl ?_
  refine b_F rfl rfl rfl rfl rfl rfl ?_
  refine bv rfl (v_pickF rfl rfl rfl) (mv rfl rfl ?_)
  refine b_F rfl rfl rfl rfl rfl rfl ?_
  refine bv rfl (v_pickF rfl rfl rfl) (mv rfl rfl ?_)
  refine b_nil (hK _ ?_)
  exact to_L ⟨false, (), h, rfl⟩
 refine AW.rg rfl fun K hK => bv rfl (v_loadF ty24 rfl (l_litA rfl (lb rfl) rfl)) (bv rfl (v_loadF ty27 rfl (l_litA rfl (lb rfl) rfl)) ?_)
 obtain ⟨x24, h25, h⟩ := bS h
 refine b_op rfl (o_call rfl rfl rfl rfl (ACallD.pure0 (w_law31_great h25)) ?_)
 refine mv rfl rfl ?_
 by_cases hg26 : x24 = true
 ·have h := ifT hg26 h
  refine b_F rfl rfl rfl rfl rfl hg26 ?_
  refine b_F rfl rfl rfl rfl rfl rfl ?_
  refine b_F rfl rfl rfl rfl rfl rfl ?_
  refine bv rfl (v_pickT rfl rfl rfl) ?_
  refine b_nil (hK _ ?_)
  exact to_L ⟨true, (), h, rfl⟩
 have h := ifF hg26 h
 refine b_T rfl rfl rfl rfl (bF hg26) (o_val rfl (mv_val rfl rfl).2 ?_)
 refine b_T rfl rfl rfl rfl rfl (o_val rfl (v_lenF rfl rfl ty31 rfl) ?_)
 refine b_T rfl rfl rfl rfl rfl (o_val rfl (v_bin rfl rfl b_gtr) ?_)
 refine bv rfl (v_pickF rfl rfl rfl) ?_
 refine b_nil (hK _ ?_)
 exact to_L ⟨decide (8 < ((p2).length : Int)), (), h, rfl⟩
end Go.AW

namespace Go.AW
open Go
set_option linter.unusedSimpArgs false
set_option linter.unusedVariables false
theorem disp_app (u v : List UInt8) : disp (u ++ v) = disp u + disp v := by
 simp only [disp, List.count_append, List.length_append]
 omega
def encB (j : Jn) (g : Gr) : List UInt8 → List Int → List UInt8 × Int
 | b, [] => (b, 0)
 | b, x :: xs =>
  if (bestF g (endsL g (upto g.2.1) b) (disp b) (wd j x) j.2).2.2 = true then encB j g (b ++ ((bestF g (endsL g (upto g.2.1) b) (disp b) (wd j x) j.2).1 ++ wd j x)) xs else ([], 13)
theorem encG_eq (j : Jn) (g : Gr) : ∀ (xs : List Int) (b : List UInt8), encG j g (endsL g (upto g.2.1) b) b (disp b) xs = encB j g b xs
 | [], b => rfl
 | x :: xs, b => by
  unfold encG encB
  split
  ·rw [← endsL_app, ← disp_app]
   exact encG_eq j g xs _
  ·rfl
theorem FormOk.zero {j : Jn} (h : FormOk j) : formE j = 0 := by
 have l1 := h.l1; have l2 := h.l2; have n1 := h.n1; have n16 := h.n16; have r16 := h.r16
 unfold formE
 rw [if_neg (fun e => e.elim h.ne1 h.ne2), if_neg (by omega), if_neg (fun e => e.elim (fun e => unev_iff.1 e h.n) fun e => unev_iff.1 e h.r), if_neg (by omega), if_neg (fun e => e.elim (fun e => lett_iff.1 e h.b1) fun e => lett_iff.1 e h.b2), if_neg (fun e => e.elim (fun e => rept_iff.1 e h.d1) fun e => rept_iff.1 e h.d2)]
theorem VJ.zero {j : Jn} {g : Gr} (h : VJ j g) : checkE j g = 0 := by
 unfold checkE
 rw [if_neg (fun e => e h.hv), if_neg (fun e => e h.h2), if_neg (fun e => e h.f.zero), if_neg, if_neg]
 ·simp only [badP, List.any_eq_true, not_exists, not_and]
  intro a ha b hb
  rw [h.p a ha b hb]
  decide
 ·simp only [badW, List.any_eq_true, not_exists, not_and]
  intro a ha
  rw [h.w a ha]
  decide
def InOk (j : Jn) (l : List Int) : Prop := ∀ n ∈ l, 0 ≤ n ∧ n.toNat < j.1.length
def encL (j : Jn) (g : Gr) (l : List Int) : List UInt8 × Int := match l with
 | [] => ([], 0)
 | x :: xs => encB j g (wd j x) xs
theorem encE_eq {j : Jn} {g : Gr} {l : List Int} (h : inpE j g l = 0) : encE j g l = encL j g l := by
 unfold encE encL
 rw [if_neg (fun e => e h)]
 cases l with
 | nil => rfl
 | cons x xs => exact encG_eq j g xs _
def bstM (j : Jn) (g : Gr) (b : List UInt8) (x : Int) : List UInt8 × Int × Bool := bestF g (endsL g (upto g.2.1) b) (disp b) (wd j x) j.2
theorem encB_cons (j : Jn) (g : Gr) (b : List UInt8) (x : Int) (xs : List Int) : encB j g b (x :: xs) = if (bstM j g b x).2.2 = true then encB j g (b ++ ((bstM j g b x).1 ++ wd j x)) xs else ([], 13) := rfl
theorem encB_err (j : Jn) (g : Gr) : ∀ (xs : List Int) (b : List UInt8), (encB j g b xs).2 ≠ 0 → encB j g b xs = ([], 13)
 | [], b => fun h => absurd rfl h
 | x :: xs, b => by
  rw [encB_cons]
  split
  ·exact encB_err j g xs _
  ·exact fun _ => rfl
theorem encB_app (j : Jn) (g : Gr) (ys : List Int) : ∀ (xs : List Int) (b : List UInt8), encB j g b (xs ++ ys) = if (encB j g b xs).2 = 0 then encB j g (encB j g b xs).1 ys else ([], 13)
 | [], b => by simp [encB]
 | x :: xs, b => by
  rw [List.cons_append, encB_cons, encB_cons]
  split
  ·exact encB_app j g ys xs _
  ·rfl
theorem encL_snoc (j : Jn) (g : Gr) {l : List Int} (h : l ≠ []) (x : Int) : encL j g (l ++ [x]) = if (encL j g l).2 = 0 then (if (bstM j g (encL j g l).1 x).2.2 = true then ((encL j g l).1 ++ ((bstM j g (encL j g l).1 x).1 ++ wd j x), 0) else ([], 13)) else ([], 13) := by
 cases l with
 | nil => exact absurd rfl h
 | cons a l =>
  show encB j g (wd j a) (l ++ [x]) = _
  rw [encB_app]
  rfl
theorem encL_err (j : Jn) (g : Gr) (l : List Int) (h : (encL j g l).2 ≠ 0) : encL j g l = ([], 13) := by
 cases l with
 | nil => exact absurd rfl h
 | cons x xs => exact encB_err j g xs _ h
theorem in_iff (g : Gr) (b m x : List UInt8) : (endsL g (endsL g (upto g.2.1) b) (m ++ x) ≠ []) ↔ inW g (b ++ (m ++ x)) = true := by
 rw [← endsL_app]
 simp [inW]
def far (w : List UInt8) : Int := max (disp w) (-disp w)
theorem score_eq (g : Gr) (b m x : List UInt8) : scoreM g (endsL g (upto g.2.1) b) (disp b) x m = (far (b ++ (m ++ x)), inW g (b ++ (m ++ x))) := by
 unfold scoreM far
 rw [← disp_app, Prod.mk.injEq]
 refine ⟨rfl, ?_⟩
 rw [Bool.eq_iff_iff, decide_eq_true_eq, in_iff]
structure Bst (g : Gr) (b x : List UInt8) (ms : List (List UInt8)) (A : List UInt8 × Int × Bool) : Prop where
 no : A.2.2 = false → ∀ k (h : k < ms.length), inW g (b ++ (ms[k] ++ x)) = false
 yes : A.2.2 = true → ∃ i, ∃ h : i < ms.length, A.1 = ms[i] ∧ A.2.1 = far (b ++ (ms[i] ++ x)) ∧ inW g (b ++ (ms[i] ++ x)) = true ∧
  (∀ k (hk : k < ms.length), inW g (b ++ (ms[k] ++ x)) = true → A.2.1 ≤ far (b ++ (ms[k] ++ x))) ∧
  (∀ k (hk : k < i), inW g (b ++ (ms[k] ++ x)) = true → A.2.1 < far (b ++ (ms[k] ++ x)))
theorem best_take (g : Gr) (b x : List UInt8) (ms : List (List UInt8)) : ∀ n, n ≤ ms.length → Bst g b x (ms.take n) (bestF g (endsL g (upto g.2.1) b) (disp b) x (ms.take n)) := by
 intro n
 induction n with
 | zero => intro _; exact ⟨(fun _ k h => absurd h (by simp)), (fun h => absurd h (by simp [bestF]))⟩
 | succ n ih =>
  intro hn
  have hn' : n < ms.length := by omega
  have ih := ih (by omega)
  have es : bestF g (endsL g (upto g.2.1) b) (disp b) x (ms.take (n + 1)) = bestStep g (endsL g (upto g.2.1) b) (disp b) x (bestF g (endsL g (upto g.2.1) b) (disp b) x (ms.take n)) ms[n] := by
   unfold bestF
   rw [← List.take_append_getElem hn', List.foldl_append]
   rfl
  rw [es]
  generalize bestF g (endsL g (upto g.2.1) b) (disp b) x (ms.take n) = A at ih
  have lt : (ms.take n).length = n := by rw [List.length_take]; omega
  have lt' : (ms.take (n + 1)).length = n + 1 := by rw [List.length_take]; omega
  have gt : ∀ k (h : k < (ms.take n).length), (ms.take n)[k] = ms[k]'(by omega) := fun k h => List.getElem_take
  have gt' : ∀ k (h : k < (ms.take (n + 1)).length), (ms.take (n + 1))[k] = ms[k]'(by omega) := fun k h => List.getElem_take
  unfold bestStep
  rw [score_eq]
  simp only
  by_cases hc : inW g (b ++ (ms[n] ++ x)) = true ∧ (A.2.2 = false ∨ far (b ++ (ms[n] ++ x)) < A.2.1)
  ·rw [if_pos hc]
   refine ⟨(fun h => absurd h (by simp)), fun _ => ⟨n, by omega, ?_⟩⟩
   rw [gt' n (by omega)]
   refine ⟨rfl, rfl, hc.1, fun k hk hi => ?_, fun k hk hi => ?_⟩
   ·rw [gt' k hk] at hi ⊢
    by_cases e : k = n
    ·subst e; exact Int.le_refl _
    ·have hkn : k < (ms.take n).length := by omega
     cases hA : A.2.2 with
     | false =>
      have := ih.no hA k hkn
      rw [gt k hkn, hi] at this
      cases this
     | true =>
      obtain ⟨i, hi', a1, a2, a3, a4, a5⟩ := ih.yes hA
      have := a4 k hkn (by rw [gt k hkn]; exact hi)
      rw [gt k hkn] at this
      rcases hc.2 with h | h
      ·rw [hA] at h; cases h
      ·simp only; omega
   ·rw [gt' k (by omega)] at hi ⊢
    have hkn : k < (ms.take n).length := by omega
    cases hA : A.2.2 with
    | false =>
     have := ih.no hA k hkn
     rw [gt k hkn, hi] at this
     cases this
    | true =>
     obtain ⟨i, hi', a1, a2, a3, a4, a5⟩ := ih.yes hA
     have := a4 k hkn (by rw [gt k hkn]; exact hi)
     rw [gt k hkn] at this
     rcases hc.2 with h | h
     ·rw [hA] at h; cases h
     ·simp only; omega
  ·rw [if_neg hc]
   refine ⟨fun h k hk => ?_, fun h => ?_⟩
   ·rw [gt' k hk]
    by_cases e : k = n
    ·subst e
     rw [Bool.eq_false_iff]
     exact fun hi => hc ⟨hi, .inl h⟩
    ·have hkn : k < (ms.take n).length := by omega
     have := ih.no h k hkn
     rw [gt k hkn] at this
     exact this
   ·obtain ⟨i, hi', a1, a2, a3, a4, a5⟩ := ih.yes h
    rw [gt i hi'] at a1 a2 a3
    refine ⟨i, by omega, ?_⟩
    rw [gt' i (by omega)]
    refine ⟨a1, a2, a3, fun k hk hi => ?_, fun k hk hi => ?_⟩
    ·rw [gt' k hk] at hi ⊢
     by_cases e : k = n
     ·subst e
      refine Classical.byContradiction fun hlt => hc ⟨hi, .inr (by omega)⟩
     ·have hkn : k < (ms.take n).length := by omega
      have := a4 k hkn (by rw [gt k hkn]; exact hi)
      rw [gt k hkn] at this
      exact this
    ·have hkn : k < (ms.take n).length := by omega
     rw [gt' k (by omega)] at hi ⊢
     have := a5 k hk (by rw [gt k hkn]; exact hi)
     rw [gt k hkn] at this
     exact this
theorem bstM_ok (j : Jn) (g : Gr) (b : List UInt8) (x : Int) : Bst g b (wd j x) j.2 (bstM j g b x) := by
 have := best_take g b (wd j x) j.2 j.2.length (Nat.le_refl _)
 rw [List.take_length] at this
 exact this
inductive Wr (j : Jn) : List Int → List UInt8 → Prop
 | one (x : Int) : Wr j [x] (wd j x)
 | snoc {l : List Int} {w : List UInt8} {m : List UInt8} (x : Int) : Wr j l w → m ∈ j.2 → Wr j (l ++ [x]) (w ++ (m ++ wd j x))
theorem snoc_ind {α : Type} {P : List α → Prop} (h0 : P []) (h1 : ∀ l x, P l → P (l ++ [x])) (l : List α) : P l := by
 have : ∀ n, n ≤ l.length → P (l.take n) := by
  intro n
  induction n with
  | zero => intro _; exact h0
  | succ n ih =>
   intro hn
   rw [← List.take_append_getElem (show n < l.length by omega)]
   exact h1 _ _ (ih (by omega))
 have h := this l.length (Nat.le_refl _)
 rwa [List.take_length] at h
theorem encL_wr {j : Jn} {g : Gr} (hj : VJ j g) : ∀ l : List Int, InOk j l → l ≠ [] → (encL j g l).2 = 0 → Wr j l (encL j g l).1 ∧ inW g (encL j g l).1 = true := by
 refine snoc_ind (fun _ h => absurd rfl h) (fun l x ih hl _ h0 => ?_)
 by_cases hn : l = []
 ·subst hn
  exact ⟨.one x, hj.w _ (wd_mem (hl x (by simp)))⟩
 ·have hs := encL_snoc j g hn x
  rw [hs] at h0 ⊢
  split at h0
  ·rename_i he
   rw [if_pos he]
   obtain ⟨i1, i2⟩ := ih (fun n h => hl n (List.mem_append.2 (.inl h))) hn he
   split at h0
   ·rename_i hb
    rw [if_pos hb]
    obtain ⟨i, hi, a1, a2, a3, _⟩ := (bstM_ok j g (encL j g l).1 x).yes hb
    refine ⟨.snoc x i1 ?_, ?_⟩
    ·rw [a1]; exact List.getElem_mem hi
    ·simp only
     rw [a1]; exact a3
   ·cases h0
  ·cases h0
theorem Wr.ne {j : Jn} {l : List Int} {w : List UInt8} (h : Wr j l w) : l ≠ [] := by
 cases h <;> simp
theorem Wr.len {j : Jn} (hj : FormOk j) {l : List Int} {w : List UInt8} (h : Wr j l w) (hl : InOk j l) : w.length + fstLen j.2 = l.length * (fstLen j.1 + fstLen j.2) := by
 induction h with
 | one x =>
  rw [hj.n _ (wd_mem (hl x (by simp)))]
  simp
 | snoc x h hm ih =>
  have := ih (fun n h => hl n (List.mem_append.2 (.inl h)))
  have hx := hj.n _ (wd_mem (hl x (by simp)))
  have hr := hj.r _ hm
  simp only [List.length_append, List.length_singleton, Nat.succ_mul]
  rw [← this]
  omega
theorem Wr.bits {j : Jn} (hj : FormOk j) {l : List Int} {w : List UInt8} (h : Wr j l w) (hl : InOk j l) : bitW w := by
 induction h with
 | one x => exact hj.b1 _ (wd_mem (hl x (by simp)))
 | snoc x h hm ih => exact bitW_app.2 ⟨ih (fun n h => hl n (List.mem_append.2 (.inl h))), bitW_app.2 ⟨hj.b2 _ hm, hj.b1 _ (wd_mem (hl x (by simp)))⟩⟩
theorem sub_app {u v : List UInt8} {a l : Nat} (h : a + l ≤ u.length) : sub (u ++ v) a l = sub u a l := by
 unfold sub
 rw [List.drop_append_of_le_length (by omega), List.take_append_of_le_length (by rw [List.length_drop]; omega)]
theorem sub_tail {u v : List UInt8} {a l : Nat} (ha : a = u.length) (hl : l = v.length) (z : List UInt8) : sub (u ++ (v ++ z)) a l = v := by
 subst ha hl
 unfold sub
 rw [List.drop_left, List.take_left]
theorem Wr.piece {j : Jn} (hj : FormOk j) {l : List Int} {w : List UInt8} (h : Wr j l w) (hl : InOk j l) : ∀ i (hi : i < l.length), pieceW j w i = wd j l[i] ∧ (0 < i → pieceM j w i ∈ j.2) := by
 have n1 := hj.n1
 induction h with
 | one x =>
  intro i hi
  have hi0 : i = 0 := by simp at hi; omega
  subst hi0
  have hx := hj.n _ (wd_mem (hl x (by simp)))
  refine ⟨?_, fun h => by omega⟩
  have := sub_tail (u := []) (v := wd j x) (a := 0) (l := fstLen j.1) rfl hx.symm []
  simp only [List.nil_append, List.append_nil] at this
  simp only [pieceW, Nat.zero_mul, this, List.getElem_cons_zero]
 | @snoc l w m x h hm ih =>
  have hl' : InOk j l := fun n h => hl n (List.mem_append.2 (.inl h))
  have ih := ih hl'
  have hlen := h.len hj hl'
  have hx := hj.n _ (wd_mem (hl x (by simp)))
  have hr := hj.r _ hm
  intro i hi
  simp only [List.length_append, List.length_singleton] at hi
  by_cases h1 : i < l.length
  ·obtain ⟨q1, q2⟩ := ih i h1
   have hb : i * (fstLen j.1 + fstLen j.2) + (fstLen j.1 + fstLen j.2) ≤ l.length * (fstLen j.1 + fstLen j.2) := by
    rw [← Nat.succ_mul]; exact Nat.mul_le_mul_right _ h1
   rw [List.getElem_append_left h1]
   constructor
   ·rw [← q1]
    exact sub_app (by omega)
   ·intro h0
    have := q2 h0
    have e : pieceM j (w ++ (m ++ wd j x)) i = pieceM j w i := sub_app (by
     have : fstLen j.1 + fstLen j.2 ≤ i * (fstLen j.1 + fstLen j.2) := Nat.le_mul_of_pos_left _ h0
     omega)
    rw [e]
    exact this
  ·have e : i = l.length := by omega
   subst e
   rw [List.getElem_append_right (Nat.le_refl _)]
   simp only [Nat.sub_self, List.getElem_cons_zero]
   have hl0 := List.length_pos_iff.2 h.ne
   have : fstLen j.1 + fstLen j.2 ≤ l.length * (fstLen j.1 + fstLen j.2) := Nat.le_mul_of_pos_left _ hl0
   constructor
   ·have := sub_tail (u := w ++ m) (v := wd j x) (a := l.length * (fstLen j.1 + fstLen j.2)) (l := fstLen j.1) (by rw [List.length_append]; omega) hx.symm []
    rw [List.append_nil, List.append_assoc] at this
    exact this
   ·intro _
    have := sub_tail (u := w) (v := m) (a := l.length * (fstLen j.1 + fstLen j.2) - fstLen j.2) (l := fstLen j.2) (by omega) hr.symm (wd j x)
    show sub _ _ _ ∈ _
    rw [this]
    exact hm
theorem first_wd {j : Jn} (hj : FormOk j) {n : Int} (hn : 0 ≤ n ∧ n.toNat < j.1.length) : (firstI j.1 fun y => decide (wd j n = y)) = n := by
 have hw : wd j n = j.1[n.toNat] := getD_get hn.2 []
 have ha : (j.1.any fun y => decide (wd j n = y)) = true := List.any_eq_true.2 ⟨_, wd_mem hn, by simp⟩
 unfold firstI
 rw [if_pos ha]
 have : j.1.findIdx (fun y => decide (wd j n = y)) = n.toNat := by
  rw [List.findIdx_eq hn.2]
  refine ⟨by simp [hw], fun k hk => ?_⟩
  rw [decide_eq_false_iff_not, hw]
  intro e
  refine nodup_iff.1 hj.d1 n.toNat hn.2 ?_
  rw [e]
  have hq : k < (j.1.take n.toNat).length := by rw [List.length_take]; omega
  have := List.getElem_mem hq
  rwa [List.getElem_take] at this
 rw [this]
 omega
theorem Wr.read {j : Jn} (hj : FormOk j) {l : List Int} {w : List UInt8} (h : Wr j l w) (hl : InOk j l) : decE j w = (l, 0) := by
 have n1 := hj.n1
 have hlen := h.len hj hl
 have hl0 := List.length_pos_iff.2 h.ne
 have hp := h.piece hj hl
 have : fstLen j.1 + fstLen j.2 ≤ l.length * (fstLen j.1 + fstLen j.2) := Nat.le_mul_of_pos_left _ hl0
 have hk : kW j w = l.length := by
  unfold kW
  rw [hlen, Nat.mul_div_cancel _ (by omega)]
 unfold decE
 rw [if_neg (fun e => e hj.zero), if_neg (by intro e; subst e; simp only [List.length_nil] at hlen; omega), if_neg (fun e => e (by rw [hlen]; exact Nat.mul_mod_left ..)), hk]
 have hb : ∀ t, t < l.length → badT j w t = false := fun t ht => by
  obtain ⟨q1, q2⟩ := hp t ht
  have q3 : pieceW j w t ∈ j.1 := by rw [q1]; exact wd_mem (hl _ (List.getElem_mem ht))
  unfold badT
  rw [decide_eq_false (fun e => e.2 (q2 e.1)), decide_eq_false (fun e => e q3)]
  rfl
 have ho : outT j w l.length = l := by
  refine List.ext_getElem (outT_len ..) fun i h1 h2 => ?_
  have q := (hp i h2).1
  simp only [outT, List.getElem_map, List.getElem_range, q]
  exact first_wd hj (hl _ (List.getElem_mem h2))
 rcases fstN_cases (X := Ou (List Int) (List Int × Int)) (badT j w) (fun _ => Ou.ret ([], 13)) (Ou.go (outT j w l.length)) l.length 0 with ⟨i, _, h2, h3, _⟩ | ⟨_, h5⟩
 ·rw [hb i (by omega)] at h3
  cases h3
 ·rw [h5, ho]
theorem VJ.acc {j : Jn} {g : Gr} (hj : VJ j g) {w : List UInt8} (hb : bitW w) (hl : w.length ≤ 65536) : m_language_Accepts g w = some (inW g w, 0) := by
 have := hj.h2
 exact Accepts_eq hj.hv (by omega) (WOk_bit hj.h2 hb hl)
def chgK (w : List UInt8) (n : Nat) : List Int := (List.range n).map fun i => disp (w.take i)
theorem chgK_len (w : List UInt8) (n : Nat) : (chgK w n).length = n := by simp [chgK]
theorem chgK_get (w : List UInt8) {n i : Nat} (h : i < n) : idx (chgK w n) (i : Int) = some (disp (w.take i)) := by
 rw [ix (show i < (chgK w n).length by rw [chgK_len]; exact h)]
 simp [chgK]
theorem disp_succ {w : List UInt8} {i : Nat} (hi : i < w.length) : disp (w.take (i + 1)) = disp (w.take i) + (if w[i] = 49 then 1 else -1) := by
 rw [← List.take_append_getElem hi, disp_app]
 congr 1
 unfold disp
 by_cases h : w[i] = 49
 ·rw [if_pos h, h]; rfl
 ·rw [if_neg h, List.count_singleton, if_neg (by simpa using h)]; rfl
theorem chgK_succ {w : List UInt8} {i : Nat} (hi : i < w.length) : chgK w (i + 1 + 1) = chgK w (i + 1) ++ [disp (w.take i) + (if w[i] = 49 then 1 else -1)] := by
 unfold chgK
 rw [List.range_succ, List.map_append, ← disp_succ hi]
 rfl
theorem is49 (c : UInt8) : ((c.toNat : Int) = 49) ↔ c = 49 := by
 constructor
 ·intro h
  exact UInt8.toNat_inj.1 (by simpa using (by omega : c.toNat = 49))
 ·rintro rfl; rfl
theorem wcheck_bit {w : List UInt8} (hb : bitW w) (hl : w.length ≤ 65536) : m_word_Check 2 w = some 0 := by
 obtain ⟨e, he, hz⟩ := wcheck 2 w
 have : e = 0 := hz.2 ⟨by omega, hl, fun c hc => by
  have := hb c hc
  have e2 : letters.take (2 : Int).toNat = [48, 49] := by decide
  rw [e2]
  simpa [bitB] using this⟩
 rw [he, this]
theorem Charges_eq {w : List UInt8} (hb : bitW w) (hl : w.length ≤ 65536) : m_runs_Charges w = some (chgK w (w.length + 1), 0) := by
 unfold m_runs_Charges
 rw [wcheck_bit hb hl]
 simp only [Option.bind_some]
 rw [if_neg (fun e => e rfl)]
 refine bindL (x := chgK w (w.length + 1)) ?_ rfl
 unfold m_runs_charges
 refine bindL (loop_is (fun i => ((i : Int), chgK w (i + 1))) w.length (chgK w (w.length + 1)) (fun i hi => ?_) (by simp only; rw [if_neg (not_lt_int _)]) rfl) rfl
 have hd := disp_le (w := w.take i)
 have ht : (w.take i).length ≤ 65536 := by rw [List.length_take]; omega
 simp only [jp]
 rw [if_pos (lt_int hi), ix hi]
 simp only [Option.bind_some, is49]
 rw [chgK_get w (show i < i + 1 by omega)]
 simp only [Option.bind_some, nx (show w.length ≤ 9223372036854775807 by omega) hi, chgK_succ hi, chgK_len]
 by_cases h : w[i] = 49
 ·rw [if_pos h, if_pos h, w64 (by omega) (by omega), if_pos (fits_le (by simp only [List.length_singleton]; omega) (by simp only [List.length_singleton]; omega))]
 ·rw [if_neg h, if_neg h, w64 (by omega) (by omega), if_pos (fits_le (by simp only [List.length_singleton]; omega) (by simp only [List.length_singleton]; omega))]
theorem RefCharges_eq {w : List UInt8} (hb : bitW w) (hl : w.length ≤ 65536) : m_ref08_Charges w = some (chgK w (w.length + 1), 0) := by
 unfold m_ref08_Charges
 rw [rcheck, wcheck_bit hb hl]
 simp only [Option.bind_some]
 rw [if_neg (fun e => e rfl)]
 refine bindL (loop_is (fun i => ((i : Int), chgK w (i + 1))) w.length (chgK w (w.length + 1)) (fun i hi => ?_) (by simp only; rw [if_neg (not_lt_int _)]) rfl) rfl
 have hd := disp_le (w := w.take i)
 have ht : (w.take i).length ≤ 65536 := by rw [List.length_take]; omega
 simp only [jp]
 rw [if_pos (lt_int hi), ix hi]
 simp only [Option.bind_some, is49]
 rw [chgK_get w (show i < i + 1 by omega)]
 simp only [Option.bind_some, nx (show w.length ≤ 9223372036854775807 by omega) hi, chgK_succ hi, chgK_len]
 by_cases h : w[i] = 49
 ·rw [if_pos h, if_pos h, w64 (by omega) (by omega), if_pos (fits_le (by simp only [List.length_singleton]; omega) (by simp only [List.length_singleton]; omega))]
 ·rw [if_neg h, if_neg h, w64 (by omega) (by omega), if_pos (fits_le (by simp only [List.length_singleton]; omega) (by simp only [List.length_singleton]; omega))]
  rfl
theorem RefDisparity_eq {w : List UInt8} (hb : bitW w) (hl : w.length ≤ 65536) : m_ref08_Disparity w = some (disp w, 0) := by
 unfold m_ref08_Disparity
 rw [RefCharges_eq hb hl]
 simp only [Option.bind_some, chgK_len]
 rw [if_neg (fun e => e rfl), show IntKind.wrap .i64 (((w.length + 1 : Nat) : Int) - 1) = ((w.length : Nat) : Int) by rw [w64 (by omega) (by omega)]; omega, chgK_get w (by omega), List.take_length]
 rfl
theorem reffar_eq {w : List UInt8} (hb : bitW w) (hl : w.length ≤ 65536) : m_ref31_far w = some (far w) := by
 unfold m_ref31_far
 rw [RefDisparity_eq hb hl]
 have := disp_le (w := w)
 simp only [Option.bind_some]
 rw [w64 (by omega) (by omega), Int.zero_sub]
 rfl
theorem Min_eq {l : List Int} (hm : l.length ≤ 9223372036854775807) (h0 : idx l 0 = some 0) : m_slices_Min_Lint_int l = some (l.foldl min 0) := by
 unfold m_slices_Min_Lint_int
 cases l with
 | nil => cases h0
 | cons a l =>
  have ha : a = 0 := by simpa [idx] using h0
  subst ha
  rw [if_neg (by simp only [List.length_cons]; omega), h0]
  simp only [Option.bind_some]
  refine bindL (loop_is (fun i => (((0 :: l).take (i + 1)).foldl min 0, ((i + 1 : Nat) : Int))) l.length ((0 :: l).foldl min 0) (fun i hi => ?_) ?_ ?_) rfl
  ·have hi' : i + 1 < ((0 : Int) :: l).length := by simp only [List.length_cons]; omega
   simp only
   rw [if_pos (lt_int hi'), ix hi']
   simp only [Option.bind_some]
   rw [nx hm hi', ← List.take_append_getElem hi', List.foldl_append]
   rfl
  ·simp only
   rw [if_neg (by simp only [List.length_cons]; omega)]
   congr 3
   rw [List.take_of_length_le (by simp)]
  ·simp
theorem Max_eq {l : List Int} (hm : l.length ≤ 9223372036854775807) (h0 : idx l 0 = some 0) : m_slices_Max_Lint_int l = some (l.foldl max 0) := by
 unfold m_slices_Max_Lint_int
 cases l with
 | nil => cases h0
 | cons a l =>
  have ha : a = 0 := by simpa [idx] using h0
  subst ha
  rw [if_neg (by simp only [List.length_cons]; omega), h0]
  simp only [Option.bind_some]
  refine bindL (loop_is (fun i => (((0 :: l).take (i + 1)).foldl max 0, ((i + 1 : Nat) : Int))) l.length ((0 :: l).foldl max 0) (fun i hi => ?_) ?_ ?_) rfl
  ·have hi' : i + 1 < ((0 : Int) :: l).length := by simp only [List.length_cons]; omega
   simp only
   rw [if_pos (lt_int hi'), ix hi']
   simp only [Option.bind_some]
   rw [nx hm hi', ← List.take_append_getElem hi', List.foldl_append]
   rfl
  ·simp only
   rw [if_neg (by simp only [List.length_cons]; omega)]
   congr 3
   rw [List.take_of_length_le (by simp)]
  ·simp
theorem chg0 (w : List UInt8) (n : Nat) : idx (chgK w (n + 1)) 0 = some 0 := by
 have := chgK_get w (n := n + 1) (i := 0) (by omega)
 have e : disp ([] : List UInt8) = 0 := rfl
 simpa [e] using this
def loC (w : List UInt8) : Int := (chgK w (w.length + 1)).foldl min 0
def hiC (w : List UInt8) : Int := (chgK w (w.length + 1)).foldl max 0
theorem Range_eq {w : List UInt8} (hb : bitW w) (hl : w.length ≤ 65536) : m_runs_Range w = some (loC w, hiC w, 0) := by
 unfold m_runs_Range
 rw [Charges_eq hb hl]
 simp only [Option.bind_some]
 rw [if_neg (fun e => e rfl), Min_eq (by rw [chgK_len]; omega) (chg0 ..), Max_eq (by rw [chgK_len]; omega) (chg0 ..)]
 rfl
theorem RefRange_eq {w : List UInt8} (hb : bitW w) (hl : w.length ≤ 65536) : m_ref08_Range w = some (loC w, hiC w, 0) := by
 unfold m_ref08_Range
 rw [RefCharges_eq hb hl]
 simp only [Option.bind_some]
 rw [if_neg (fun e => e rfl)]
 have hK : (chgK w (w.length + 1)).length ≤ 65537 := by rw [chgK_len]; omega
 unfold loC hiC
 generalize chgK w (w.length + 1) = l at hK
 refine bindL (loop_is (fun i => ((l.take i).foldl min 0, (l.take i).foldl max 0, (i : Int))) l.length (l.foldl min 0, l.foldl max 0) (fun i hi => ?_) (by simp only; rw [if_neg (not_lt_int _), List.take_length]) rfl) rfl
 simp only [jp]
 rw [if_pos (lt_int hi), ix hi]
 simp only [Option.bind_some, nx (show l.length ≤ 9223372036854775807 by omega) hi, ← List.take_append_getElem hi, List.foldl_append, List.foldl_cons, List.foldl_nil]
 generalize (l.take i).foldl min 0 = a
 generalize (l.take i).foldl max 0 = b
 generalize l[i] = c
 by_cases h1 : c < a
 ·rw [if_pos h1, show min a c = c by omega]
  by_cases h2 : b < c
  ·rw [if_pos h2, show max b c = c by omega]
  ·rw [if_neg h2, show max b c = b by omega]
 ·rw [if_neg h1, show min a c = a by omega]
  by_cases h2 : b < c
  ·rw [if_pos h2, show max b c = c by omega]
  ·rw [if_neg h2, show max b c = b by omega]
theorem encL_bits {j : Jn} {g : Gr} (hj : VJ j g) {L : List Int} (hL : InOk j L) (hL8 : L.length ≤ 8) : bitW (encL j g L).1 ∧ (encL j g L).1.length ≤ 65536 := by
 have n16 := hj.f.n16
 have r16 := hj.f.r16
 by_cases he : (encL j g L).2 = 0
 ·by_cases hn : L = []
  ·subst hn
   exact ⟨(fun _ h => by cases h), by simp [encL]⟩
  ·obtain ⟨hw, hi⟩ := encL_wr hj L hL hn he
   have hlen := hw.len hj.f hL
   have hP : L.length * (fstLen j.1 + fstLen j.2) ≤ 8 * 32 := Nat.mul_le_mul hL8 (by omega)
   exact ⟨hw.bits hj.f hL, by omega⟩
 ·rw [encL_err j g L he]
  exact ⟨(fun _ h => by cases h), by simp⟩
noncomputable def chaE (j : Jn) (g : Gr) (l : List Int) : Int × Int × Int := if (encE j g l).2 ≠ 0 then (0, 0, (encE j g l).2) else (loC (encE j g l).1, hiC (encE j g l).1, 0)
theorem Charge_eq {j : Jn} {g : Gr} (hs : SmJ j) {l : List Int} (hl : l.length ≤ 8) : m_merging_Charge j g l = some (chaE j g l) := by
 unfold m_merging_Charge chaE
 rw [Encode_eq hs hl]
 simp only [Option.bind_some]
 by_cases he : (encE j g l).2 ≠ 0
 ·rw [if_pos he, if_pos he]
 ·rw [if_neg he, if_neg he]
  by_cases hi : inpE j g l = 0
  ·obtain ⟨hj, hx⟩ := inp_zero hi
   rw [encE_eq hi]
   obtain ⟨h1, h2⟩ := encL_bits hj hx hl
   rw [Range_eq h1 h2]
   rfl
  ·exfalso
   apply he
   unfold encE
   rw [if_pos hi]
   exact hi
theorem lpO_go {V R Y : Type} (v : V) (M : V → Option Y) (Rt : R → Option Y) : lpO (some (Ou.go v)) M Rt = M v := rfl
def refB (b x : List UInt8) (A : List UInt8 × Int × Bool) : List UInt8 := if A.2.2 = true then b ++ (A.1 ++ x) else []
def refS (j : Jn) (g : Gr) (s : Bool × List UInt8) (x : Int) : Option (Bool × List UInt8) :=
 if s.1 = true then some (false, wd j x) else if (bstM j g s.2 x).2.2 = true then some (false, s.2 ++ ((bstM j g s.2 x).1 ++ wd j x)) else none
theorem refS_run (j : Jn) (g : Gr) : ∀ (xs : List Int) (b : List UInt8), unOu (runF (refS j g) (fun s => Ou.go s.2) (Ou.ret ([], 13)) xs (false, b)) = encB j g b xs
 | [], b => rfl
 | x :: xs, b => by
  unfold runF
  rw [encB_cons]
  unfold refS
  rw [if_neg (show ¬ ((false, b) : Bool × List UInt8).1 = true from Bool.false_ne_true)]
  by_cases h : (bstM j g b x).2.2 = true
  ·simp only [if_pos h]
   exact refS_run j g xs _
  ·simp only [if_neg h]
   rfl
theorem refS_all (j : Jn) (g : Gr) (l : List Int) : unOu (runF (refS j g) (fun s => Ou.go s.2) (Ou.ret ([], 13)) l (true, [])) = encL j g l := by
 cases l with
 | nil => rfl
 | cons x xs => exact refS_run j g xs _
theorem ref_best {j : Jn} {g : Gr} (hj : VJ j g) {b : List UInt8} (hb : bitW b) (hl : b.length ≤ 60000) {x n : Int} (hx : 0 ≤ x ∧ x.toNat < j.1.length) {l : List Int} (hn : idx l n = some x) :
    loopW (S := (List UInt8) × Int) (X := (List UInt8)) (fun a31 =>
                    if a31.2 < ((j.2).length : Int) then
                     jp (fun (a35 : (List UInt8)) =>
                       some (Stp.next (a35, IntKind.wrap .i64 (a31.2 + 1))))
                       fun k37 =>
                      (idx j.2 a31.2).bind fun x38 =>
                      if b.length + x38.length ≤ maxLen then
                       (idx l n).bind fun x41 =>
                       (idx j.1 x41).bind fun x43 =>
                       if (b ++ x38).length + x43.length ≤ maxLen then
                        jp (fun (a46 : Bool) =>
                          if a46 = true then
                           k37 ((b ++ x38) ++ x43)
                          else
                           k37 a31.1)
                          fun k48 =>
                         (m_ref31_accepts g ((b ++ x38) ++ x43)).bind fun x49 =>
                         if x49 = true then
                          if a31.1 = ([] : List UInt8) then
                           k48 true
                          else
                           (m_ref31_far ((b ++ x38) ++ x43)).bind fun x51 =>
                           (m_ref31_far a31.1).bind fun x53 =>
                           k48 (decide (x51 < x53))
                         else
                          k48 false
                       else none
                      else none
                    else
                     some (Stp.exit a31.1)) (([] : List UInt8), 0) = some (refB b (wd j x) (bstM j g b x)) := by
  have wx := word_ok hj.f (wd_mem hx)
  have lx := hj.f.n _ (wd_mem hx)
  have n1 := hj.f.n1
  have m256 := hj.f.l2
  refine loop_is (fun i => (refB b (wd j x) (bestF g (endsL g (upto g.2.1) b) (disp b) (wd j x) (j.2.take i)), (i : Int))) j.2.length _ (fun i hi => ?_) (by simp only; rw [if_neg (not_lt_int _), List.take_length]; rfl) rfl
  have wm := merge_ok hj.f (List.getElem_mem hi)
  have hb2 : bitW (b ++ (j.2[i] ++ wd j x)) := bitW_app.2 ⟨hb, bitW_app.2 ⟨wm.1, wx.1⟩⟩
  have hl2 : (b ++ (j.2[i] ++ wd j x)).length ≤ 65536 := by simp only [List.length_append]; omega
  have hbs := best_take g b (wd j x) j.2 i (by omega)
  have es : bestF g (endsL g (upto g.2.1) b) (disp b) (wd j x) (j.2.take (i + 1)) = bestStep g (endsL g (upto g.2.1) b) (disp b) (wd j x) (bestF g (endsL g (upto g.2.1) b) (disp b) (wd j x) (j.2.take i)) j.2[i] := by
    unfold bestF
    rw [← List.take_append_getElem hi, List.foldl_append]
    rfl
  simp only [jp]
  rw [if_pos (lt_int hi), ix hi, hn]
  simp only [Option.bind_some]
  rw [if_pos (by simp only [maxLen]; omega), wd_idx hx]
  simp only [Option.bind_some]
  rw [if_pos (by simp only [maxLen, List.length_append]; omega), List.append_assoc, refaccepts_eq hj.hv hj.h2 hb2 hl2]
  simp only [Option.bind_some, nx (show j.2.length ≤ 9223372036854775807 by omega) hi, es]
  generalize bestF g (endsL g (upto g.2.1) b) (disp b) (wd j x) (j.2.take i) = A at hbs
  unfold bestStep
  rw [score_eq]
  simp only
  by_cases hin : inW g (b ++ (j.2[i] ++ wd j x)) = true
  · rw [if_pos hin]
    cases hA : A.2.2 with
    | false =>
      have e : refB b (wd j x) A = [] := by unfold refB; rw [if_neg (by rw [hA]; decide)]
      rw [e, if_pos rfl, if_pos trivial, if_pos ⟨hin, .inl rfl⟩]
      rfl
    | true =>
      obtain ⟨k, hk, a1, a2, a3, _⟩ := hbs.yes hA
      have e : refB b (wd j x) A = b ++ (A.1 ++ wd j x) := by unfold refB; rw [if_pos hA]
      have hkl : k < j.2.length := by rw [List.length_take] at hk; omega
      have wk := merge_ok hj.f (List.getElem_mem hkl)
      have ek : (j.2.take i)[k] = j.2[k] := List.getElem_take
      rw [ek] at a1 a2
      have hb3 : bitW (b ++ (A.1 ++ wd j x)) := by rw [a1]; exact bitW_app.2 ⟨hb, bitW_app.2 ⟨wk.1, wx.1⟩⟩
      have hl3 : (b ++ (A.1 ++ wd j x)).length ≤ 65536 := by rw [a1]; simp only [List.length_append]; omega
      rw [e, if_neg (by intro h; have := congrArg List.length h; simp only [List.length_append, List.length_nil] at this; omega), reffar_eq hb2 hl2, reffar_eq hb3 hl3]
      simp only [Option.bind_some]
      rw [← a1] at a2
      rw [← a2]
      by_cases hlt : far (b ++ (j.2[i] ++ wd j x)) < A.2.1
      · rw [if_pos (by rw [decide_eq_true_eq]; exact hlt), if_pos ⟨hin, .inr hlt⟩]
        rfl
      · rw [if_neg (by rw [decide_eq_true_eq]; exact hlt), if_neg (fun h => h.2.elim (fun h => by cases h) hlt), e]
  · rw [if_neg hin, if_neg Bool.false_ne_true, if_neg (fun h => hin h.1)]
theorem RefEncode_eq {j : Jn} {g : Gr} (hs : SmJ j) {l : List Int} (hl : l.length ≤ 8) : m_ref31_Encode j g l = some (encE j g l) := by
 unfold m_ref31_Encode
 rw [RefCheck31_eq hs]
 simp only [Option.bind_some]
 by_cases hc : checkE j g ≠ 0
 ·rw [if_pos hc]
  unfold encE inpE
  rw [if_pos hc, if_pos (by decide)]
 rw [if_neg hc]
 refine lpE (loop_anyL (fun i => (i : Int)) l (badI j) (Ou.ret (([] : List UInt8), 2)) (Ou.go ()) (fun i hi => ?_) (by rw [if_neg (not_lt_int _)]) rfl) ?_
 ·simp only [jp]
  rw [if_pos (lt_int hi), ix hi]
  simp only [Option.bind_some, nx (show l.length ≤ 9223372036854775807 by omega) hi, badI, decide_eq_true_eq]
  by_cases h0 : l[i] < 0
  ·rw [if_pos h0, if_pos trivial, if_pos (.inl h0)]
  ·rw [if_neg h0]
   by_cases h1 : (j.1.length : Int) ≤ l[i]
   ·rw [if_pos h1, if_pos (.inr h1)]
   ·rw [if_neg h1, if_neg (fun h => h.elim h0 h1)]
 ·by_cases hb : l.any (badI j) = true
  ·rw [if_pos hb]
   unfold encE inpE
   rw [if_neg hc, if_pos hb, if_pos (by decide)]
   rfl
  ·rw [if_neg hb]
   have hi : inpE j g l = 0 := by unfold inpE; rw [if_neg hc, if_neg hb]
   obtain ⟨hj, hx⟩ := inp_zero hi
   have n1 := hj.f.n1
   have n16 := hj.f.n16
   have r16 := hj.f.r16
   rw [lpO_go]
   simp only [jp]
   rw [if_neg (by omega), idx0 hj.f.ne1, idx0 hj.f.ne2]
   simp only [Option.bind_some, hdl2]
   have hm1 : l.length * fstLen j.1 ≤ 8 * 16 := Nat.mul_le_mul hl n16
   have w1 : IntKind.wrap .i64 ((l.length : Int) * ((fstLen j.1 : Nat) : Int)) = ((l.length * fstLen j.1 : Nat) : Int) := by rw [← Int.natCast_mul, w64 (by omega) (by omega)]
   have w2 : IntKind.wrap .i64 ((l.length : Int) - 1) = (l.length : Int) - 1 := w64 (by omega) (by omega)
   have b1 : ((l.length : Int) - 1) * ((fstLen j.2 : Nat) : Int) ≤ 8 * 16 := by
    have h1 : ((l.length : Int) - 1) * ((fstLen j.2 : Nat) : Int) ≤ 8 * ((fstLen j.2 : Nat) : Int) := Int.mul_le_mul_of_nonneg_right (by omega) (by omega)
    omega
   have b2 : -1 * ((fstLen j.2 : Nat) : Int) ≤ ((l.length : Int) - 1) * ((fstLen j.2 : Nat) : Int) := Int.mul_le_mul_of_nonneg_right (by omega) (by omega)
   rw [w1, w2, w64 (n := ((l.length : Int) - 1) * _) (by omega) (by omega), w64 (by omega) (by omega), if_neg (by rw [decide_eq_true_eq]; omega)]
   have hgo := refS_all j g l
   rw [encE_eq hi, ← hgo]
   refine lpE (x := runF (refS j g) (fun s => Ou.go s.2) (Ou.ret ([], 13)) l (true, [])) ?_ ?_
   ·refine loop_run (s0 := (true, [])) (fun i (s : Bool × List UInt8) => (s.2, (i : Int))) l (refS j g) (fun s => Ou.go s.2) (Ou.ret ([], 13)) (fun i s => s.1 = decide (i = 0) ∧ bitW s.2 ∧ s.2.length ≤ 32 * (i + 1)) (fun i s hi hP => ?_) (fun s _ => ?_) ⟨rfl, (fun _ h => by cases h), by simp⟩
    ·obtain ⟨p1, p2, p3⟩ := hP
     have hxi := hx _ (List.getElem_mem hi)
     have wx := word_ok hj.f (wd_mem hxi)
     by_cases h0 : i = 0
     ·subst h0
      have e : refS j g s l[0] = some (false, wd j l[0]) := by unfold refS; rw [if_pos (by rw [p1]; rfl)]
      rw [e]
      refine ⟨?_, fun s' hs' => by cases hs'; exact ⟨rfl, wx.1, by simp only; omega⟩⟩
      simp only
      rw [if_pos (lt_int hi), if_pos (show ((0 : Nat) : Int) = 0 from rfl)]
      have := ix hi
      rw [show ((0 : Nat) : Int) = 0 from rfl] at this
      rw [this]
      simp only [Option.bind_some, wd_idx hxi]
      rfl
     ·have e1 : s.1 = false := by rw [p1]; exact decide_eq_false h0
      have hrb := ref_best hj p2 (by omega) hxi (ix hi)
      simp only [jp] at hrb
      simp only
      rw [if_pos (lt_int hi), if_neg (by omega), hrb]
      simp only [Option.bind_some, nx (show l.length ≤ 9223372036854775807 by omega) hi]
      have er : refS j g s l[i] = if (bstM j g s.2 l[i]).2.2 = true then some (false, s.2 ++ ((bstM j g s.2 l[i]).1 ++ wd j l[i])) else none := by
       unfold refS
       rw [if_neg (by rw [e1]; decide)]
      rw [er]
      unfold refB
      by_cases hf : (bstM j g s.2 l[i]).2.2 = true
      ·obtain ⟨k, hk, a1, _⟩ := (bstM_ok j g s.2 l[i]).yes hf
       have wk := merge_ok hj.f (List.getElem_mem hk)
       have lx := hj.f.n _ (wd_mem hxi)
       rw [if_pos hf, if_pos hf, if_neg (by intro h; have := congrArg List.length h; simp only [List.length_append, List.length_nil] at this; omega)]
       refine ⟨rfl, fun s' hs' => ?_⟩
       cases hs'
       rw [a1]
       exact ⟨by simp, bitW_app.2 ⟨p2, bitW_app.2 ⟨wk.1, wx.1⟩⟩, by simp only [List.length_append]; omega⟩
      ·rw [if_neg hf, if_neg hf, if_pos rfl]
       exact ⟨rfl, fun s' hs' => by cases hs'⟩
    ·simp only
     rw [if_neg (not_lt_int _)]
   ·unfold unOu
    split
    ·rename_i v hv; rw [hv]; rfl
    ·rename_i r hr; rw [hr]; rfl
theorem RefCharge_eq {j : Jn} {g : Gr} (hs : SmJ j) {l : List Int} (hl : l.length ≤ 8) : m_ref31_Charge j g l = some (chaE j g l) := by
 unfold m_ref31_Charge chaE
 rw [RefEncode_eq hs hl]
 simp only [Option.bind_some]
 by_cases he : (encE j g l).2 ≠ 0
 ·rw [if_pos he, if_pos he]
 ·rw [if_neg he, if_neg he]
  by_cases hi : inpE j g l = 0
  ·obtain ⟨hj, hx⟩ := inp_zero hi
   rw [encE_eq hi]
   obtain ⟨h1, h2⟩ := encL_bits hj hx hl
   rw [RefRange_eq h1 h2]
   rfl
  ·exfalso
   apply he
   unfold encE
   rw [if_pos hi]
   exact hi
theorem law31_writes (j : Jn) (g : Gr) (l : List Int) : m_law31_MergingWrites j g l = some true := by
 unfold m_law31_MergingWrites
 simp only [jp, m_law31_awake, Option.bind_some]
 obtain ⟨b, hb, hv⟩ := great31_tot j g
 rw [hb]
 simp only [Option.bind_some]
 cases b with
 | true => rw [if_pos (by rfl), if_pos trivial]
 | false =>
  obtain ⟨hs, _⟩ := hv rfl
  rw [if_neg Bool.false_ne_true]
  by_cases h8 : l.length ≤ 8
  ·rw [if_neg (by rw [decide_eq_true_eq]; omega), Encode_eq hs.sm h8, RefEncode_eq hs.sm h8, Charge_eq hs.sm h8, RefCharge_eq hs.sm h8]
   simp
  ·rw [if_pos (by rw [decide_eq_true_eq]; omega)]
end Go.AW
namespace Go.AW
open Go Go.ChangeShapes Go.WideShapes Go.ChangeAt Go.RowKit
def Kept (W W' : World) : Prop := W'.os = W.os ∧ W'.output = W.output ∧ W.heap.size ≤ W'.heap.size ∧ ∀ b : Nat, b < W.heap.size → W'.heap[b]? = W.heap[b]?
theorem Kept.frame {W W' : World} (h : Kept W W') (may : MemPlace → Prop) : W.keptBut W' may := by
 refine ⟨h.1, h.2.1, fun i hi => ?_⟩
 rw [h.2.2.2 i hi]
 cases W.heap[i]? with
 | none => rfl
 | some o => cases o with
  | cells c t fr => exact ⟨rfl, rfl, rfl, fun _ _ => rfl⟩
  | map es clock => exact .inr ⟨rfl, rfl⟩
  | _ => rfl
theorem Kept.frozen {W W' : World} (h : Kept W W') (a : Addr) (ha : a.block < W.heap.size) : W'.frozen? a = W.frozen? a := by
 simp only [World.frozen?, h.2.2.2 _ ha]
def Mu.zero : Mu := { nx := 0, loc := fun _ => none, held := fun _ => False }
theorem SR.zero (W : World) : SR W Mu.zero [] :=
 ⟨(fun _ _ _ h => by cases h), (fun _ _ _ h => by cases h), (fun _ _ h => by cases h), (fun _ _ _ _ _ h => by cases h), (fun _ h => h.elim)⟩
theorem calls_of_pure {P : Program} {f : FuncId} {args : List HV} {vs : List Value} {W : World} (hp : Pure P f args (· = .bool true)) (hr : RepL W Mu.zero args vs) :
  Calls P f vs.toArray W fun e W' => e = .returned (.bool true) ∧ Kept W W' := by
 refine (hp.2 Mu.zero W vs (SR.zero W) hr).mono ?_
 rintro e W' ⟨v, r, H', μ', rfl, ⟨rfl, _, _⟩, hs, hv, E⟩
 have hv' : v = .bool true := hv
 subst hv'
 exact ⟨rfl, E.os, E.output, E.size, fun b hb => E.keep b hb fun ⟨_, _, hl⟩ => by cases hl⟩
theorem rep_string {W : World} {μ : Mu} (s : ByteArray) (h : s.size ≤ maxLen) : Rep W μ (.str s.data.toList) (.string s) := by
 refine ⟨by cases s; simp, ?_⟩
 have : s.data.toList.length = s.size := by simp
 omega
theorem post_of_kept {H : Type} {enc : TypeId × Value → H} {P : Program} {f : Func} {s : ChangeSpec} {apart fresh handsOn again : Bool} {W W' : World} {args : Array Value} {v : Value} {ds gs : List (DataW H)} {before pa pv : List MemPlace}
  (hW : DataW.Whole enc P f.params.toList s.vars apart W args.toList ds gs before)
  (hres : ∀ (b : Nat) (sp : Nat → Bool) (hd : Bool), DataW.TrodAll enc P W' b sp hd f.resultTypes.toList (v.resultList f.resultTypes.size) (s.fn H (ds ++ gs)).results [])
  (hargs : ∀ sp : Nat → Bool, (∀ p ∈ before, sp p.block = true) → DataW.TrodAll enc P W' 0 sp true f.params.toList args.toList (s.fn H (ds ++ gs)).args pa)
  (hvars : ∀ sp : Nat → Bool, (∀ p ∈ before, sp p.block = true) → DataW.TrodVars enc P W' sp s.vars (s.fn H (ds ++ gs)).vars pv)
  (hps : before = pa ++ pv) (hk : Kept W W')
  (hok : ∀ (j : Nat) (t : TypeId) (r : Value), f.resultTypes[j]? = some t → (v.resultList f.resultTypes.size)[j]? = some r → Value.okWide P W' .any 0 t r) :
  s.post enc P f apart fresh handsOn again W args v W' := by
 have hold : ∀ p ∈ before, (fun b => decide (b < W.heap.size)) p.block = true := fun p hp => by simpa using hW.lt p hp
 refine ⟨ds, gs, before, [], pa, pv, hW, hres _ _ _, hargs _ hold, hvars _ hold, World.keptBut_mono (fun p hp => ⟨hp, ?_⟩) (hk.frame (· ∈ before)), fun _ => ?_⟩
 ·rw [hps, List.mem_append] at hp
  exact Or.inr hp
 ·have hlt := hW.lt
  obtain ⟨_, _, _, _, _, hz, hn⟩ := hW
  refine ⟨hok, _, _, ([] ++ pa) ++ pv, ⟨[] ++ pa, pv, trodAll_append (hargs _ (fun _ _ => rfl)) (hres _ _ _), hvars _ (fun _ _ => rfl), rfl, ?_, ?_⟩, ?_⟩
  ·intro b off hp
   have hp' : MemPlace.cell b off ∈ before := by rw [hps]; simpa using hp
   rw [hk.frozen _ (hlt _ hp')]
   exact hz b off hp'
  ·intro ha
   have := hn ha
   rw [hps] at this
   simpa using this
  ·intro p hp _
   rw [hps]
   simpa using hp
theorem rowAt_le {p : Program} {fits : TypeId → Bool} {d : Nat} {e : TypeId} {count off n : Nat} (h : rowAt p fits d e count off n = true) : off ≤ count * p.cellsOf e := by
 cases d with
 | zero => simp [rowAt] at h
 | succ d =>
  unfold rowAt at h
  simp only at h
  split at h
  ·cases h
  ·rename_i hs
   have hs' : 0 < p.cellsOf e := Nat.pos_of_ne_zero hs
   have hd := Nat.div_add_mod off (p.cellsOf e)
   rw [Nat.mul_comm] at hd
   simp only [Bool.or_eq_true, Bool.and_eq_true, beq_iff_eq, decide_eq_true_eq] at h
   rcases h with ⟨⟨h0, h1⟩, _⟩ | ⟨h1, _⟩
   ·rw [← hd, h0, Nat.add_zero]
    exact Nat.mul_le_mul_right _ (by omega)
   ·have hm := Nat.mod_lt off hs'
    have : (off / p.cellsOf e + 1) * p.cellsOf e ≤ count * p.cellsOf e := Nat.mul_le_mul_right _ h1
    rw [Nat.add_mul] at this
    omega
theorem liesAt_le {p : Program} {d : Nat} {e u : TypeId} {count off n : Nat} (h : liesAt p d e count off u n = true) : off ≤ count * p.cellsOf e := by
 induction d generalizing u n with
 | zero => simp [liesAt] at h
 | succ d ih =>
  unfold liesAt at h
  rw [Bool.or_eq_true] at h
  rcases h with h | h
  ·exact rowAt_le h
  ·split at h
   ·exact ih h
   ·cases h
theorem has_seg {P : Program} {W : World} {r : Reach} {base : Nat} {a : Addr} {e : TypeId} {cap : Nat} (h : W.has P r base a e cap) {vs : List Value} (hc : ∀ i (hi : i < vs.length), W.cell? (a.add i) = some vs[i]) :
  ∃ b off, a = ⟨b, off, none⟩ ∧ Seg W b off vs := by
 obtain ⟨_, hsp, row, cells, hsh, hl⟩ := h
 obtain ⟨b, off, spot⟩ := a
 dsimp only at hsp hsh hl
 subst hsp
 refine ⟨b, off, rfl, ?_⟩
 unfold World.shape? at hsh
 split at hsh
 ·rename_i cur e' fr hb
  simp only [Option.some.injEq, Prod.mk.injEq] at hsh
  obtain ⟨rfl, rfl⟩ := hsh
  have hoff : off ≤ cur.size := Nat.le_trans (liesAt_le hl) (Nat.div_mul_le_self _ _)
  have hget : ∀ i (hi : i < vs.length), cur.toList[off + i]? = some vs[i] := fun i hi => by
   have := hc i hi
   rw [add_plain] at this
   unfold World.cell? at this
   rw [hb] at this
   simpa using this
  refine ⟨cur, e', fr, cur.toList.take off, cur.toList.drop (off + vs.length), hb, ?_, by simp [hoff]⟩
  have hvs : vs = (cur.toList.drop off).take vs.length := by
   apply List.ext_getElem?
   intro i
   rcases Nat.lt_or_ge i vs.length with hi | hi
   ·rw [List.getElem?_take_of_lt hi, List.getElem?_drop, hget i hi, List.getElem?_eq_getElem hi]
   ·rw [List.getElem?_eq_none hi, List.getElem?_eq_none (by simp; omega)]
  have : vs ++ cur.toList.drop (off + vs.length) = cur.toList.drop off := by
   conv => lhs; arg 1; rw [hvs]
   rw [← List.drop_drop]
   exact List.take_append_drop _ _
  rw [List.append_assoc, this, List.take_append_drop]
 ·cases hsh
theorem nown (b : Nat) : ¬ Mu.zero.owns b := fun h => h.elim (fun ⟨_, _, h⟩ => by cases h) id
theorem trodAll_stays {H : Type} {enc : TypeId × Value → H} {P : Program} (hl : laidOutB P = true) {W W' : World} {sp : Nat → Bool} : ∀ {ts : List TypeId} {vs : List Value} {ds : List (DataW H)} {ps : List MemPlace},
  (ts.all fun t => P.readableRec t && decide (t < P.types.size)) = true → DataW.TrodAll enc P W 0 (fun _ => true) true ts vs ds ps → (∀ p ∈ ps, W.sameAt W' p) → (∀ p ∈ ps, sp p.block = true) → DataW.TrodAll enc P W' 0 sp true ts vs ds ps
 | [], vs, ds, ps, _, h, _, _ => by
  obtain ⟨rfl, rfl, rfl⟩ := trodAll_nil h
  exact trodAll_mk0
 | t :: ts, vs, ds, ps, ht, h, h1, h2 => by
  obtain ⟨v, vs', d, ds', p, q, rfl, rfl, rfl, h3, h4⟩ := trodAll_cons h
  simp only [List.all_cons, Bool.and_eq_true, decide_eq_true_eq] at ht
  exact trodAll_cons_mk (WideElems.Trod_stays hl ht.1.1 ht.1.2 h3 (fun x hx => h1 x (List.mem_append_left _ hx)) (fun x hx => h2 x (List.mem_append_left _ hx)))
   (trodAll_stays hl ht.2 h4 (fun x hx => h1 x (List.mem_append_right _ hx)) (fun x hx => h2 x (List.mem_append_right _ hx)))
theorem Kept.same {W W' : World} (h : Kept W W') (p : MemPlace) (hp : p.block < W.heap.size) : W.sameAt W' p := by
 cases p with
 | cell b off =>
  show W'.cell? ⟨b, off, none⟩ = W.cell? ⟨b, off, none⟩
  unfold World.cell?
  rw [h.2.2.2 b hp]
 | map b => exact h.2.2.2 b hp
theorem post_of_true {H : Type} {enc : TypeId × Value → H} {P : Program} {f : Func} {s : ChangeSpec} {apart fresh handsOn again : Bool} {W W' : World} {args : Array Value} {ds gs : List (DataW H)} {before : List MemPlace} {t : TypeId}
  (hl : laidOutB P = true) (hps : (f.params.toList.all fun t => P.readableRec t && decide (t < P.types.size)) = true) (hres : f.resultTypes = #[t]) (ht : P.underlying t = some .bool) (hv : s.vars = [])
  (hW : DataW.Whole enc P f.params.toList s.vars apart W args.toList ds gs before) (hk : Kept W W')
  (h1 : (s.fn H (ds ++ gs)).results = [.lit (.bool true)]) (h2 : (s.fn H (ds ++ gs)).args = ds) (h3 : (s.fn H (ds ++ gs)).vars = []) :
  s.post enc P f apart fresh handsOn again W args (.bool true) W' := by
 have hlt := hW.lt
 have hW' := hW
 obtain ⟨p, q, hA, hV, rfl, _, _⟩ := hW
 rw [hv] at hV
 obtain ⟨rfl, rfl⟩ := trodVars_none hV
 refine post_of_kept (pa := p) (pv := []) hW' (fun _ _ _ => ?_) (fun sp hsp => ?_) (fun _ _ => ?_) (by simp) hk (ok_one hres rfl (okWide_bool_mk ht _))
 ·rw [hres, h1]
  exact trodAll_cons_mk (shut_bool ht _) trodAll_mk0
 ·rw [h2]
  exact trodAll_stays hl hps hA (fun x hx => hk.same x (hlt x (by simpa using hx))) (fun x hx => hsp x (by simpa using hx))
 ·rw [h3, hv]
  rfl
section
variable {H : Type} {enc : TypeId × Value → H} {P : Program} {W : World} {base : Nat}
theorem repL_app {μ : Mu} : ∀ {hs ks : List HV} {vs us : List Value}, RepL W μ hs vs → RepL W μ ks us → RepL W μ (hs ++ ks) (vs ++ us)
 | [], _, _, _, h, h' => by cases h; exact h'
 | _ :: _, _, _, _, ⟨x, xs, rfl, h1, h2⟩, h' => ⟨x, _, rfl, h1, repL_app h2 h'⟩
theorem add_adds (a : Addr) (i j : Nat) : (a.add i).add j = a.add (i + j) := by
 unfold Addr.add
 repeat' split
 all_goals simp_all [Nat.add_assoc]
theorem open_rows {α : Type} (c : EncL α) {fuel : Nat} {t e : TypeId} {cs : List Value} {x : DataW H × List MemPlace} (ht : P.underlying t = some (.slice e)) (hk : P.cellsOf e = c.k) (hone : ∀ x, ones (c.C x))
  (hel : ∀ n cs y, DataW.trod enc P W 0 (fun _ => true) true n e cs = some y → ∃ x : α, RepL W Mu.zero (c.C x) cs)
  (hhas : ∀ a len cap, cs = [.slice (some a) len cap] → W.has P .any base a e cap) (h : DataW.trod enc P W 0 (fun _ => true) true fuel t cs = some x) : ∃ l : List α, RepL W Mu.zero [slE c l] cs := by
 rcases DataW.trod_slice ht h with ⟨rfl, _⟩ | ⟨a, len, cap, elems, rest, n, _, rfl, _, _, hl, hm, hlen, hel', _, _⟩
 ·refine ⟨[], _, _, rfl, ?_, rfl⟩
  show _ ∧ _
  exact ⟨(by rw [c.nil]; exact fun _ h => nomatch h), (by rw [c.nil]; simp), Nat.zero_le _, .inl ⟨rfl, rfl⟩⟩
 ·have each : ∀ i, i < len → ∃ cs' x, W.cells? 0 (a.add (i * c.k)) c.k = some cs' ∧ RepL W Mu.zero (c.C x) cs' := fun i hi => by
   have h1 := hel' i hi
   rw [List.getElem?_eq_getElem (by omega), Option.bind_eq_some_iff, hk] at h1
   obtain ⟨cs', h2, h3⟩ := h1
   obtain ⟨x, hx⟩ := hel _ _ _ h3
   exact ⟨cs', x, h2, hx⟩
  have build : ∀ m, m ≤ len → ∃ (l : List α) (vs : List Value), l.length = m ∧ vs.length = m * c.k ∧ RepL W Mu.zero (c.E l) vs ∧ ∀ i (hi : i < vs.length), W.cell? (a.add i) = some vs[i] := by
   intro m
   induction m with
   | zero => exact fun _ => ⟨[], [], rfl, by simp, by rw [c.nil]; rfl, fun i hi => by simp at hi⟩
   | succ m ih =>
    intro hm
    obtain ⟨l, vs, h1, h2, h3, h4⟩ := ih (by omega)
    obtain ⟨cs', x, h5, h6⟩ := each m (by omega)
    obtain ⟨_, h7, h8⟩ := World.cells?_some h5
    refine ⟨l ++ [x], vs ++ cs', by simp [h1], by rw [List.length_append, h2, h7, Nat.succ_mul], by rw [c.append, c.one]; exact repL_app h3 h6, fun i hi => ?_⟩
    rcases Nat.lt_or_ge i vs.length with hi' | hi'
    ·rw [List.getElem_append_left hi']; exact h4 i hi'
    ·rw [List.getElem_append_right hi']
     rw [List.length_append] at hi
     have := h8 (i - vs.length) (by omega)
     rw [add_adds, h2, show m * c.k + (i - m * c.k) = i by omega] at this
     rw [this, List.getElem?_eq_getElem (by omega)]
     simp only [h2]
  obtain ⟨l, vs, h1, h2, h3, h4⟩ := build len (Nat.le_refl _)
  obtain ⟨b, off, rfl, hseg⟩ := has_seg (hhas _ _ _ rfl) h4
  refine ⟨l, _, _, rfl, ?_, rfl⟩
  show _ ∧ _
  refine ⟨fun d hd => ?_, c.len l, by omega, .inr ⟨b, off, cap, vs, by rw [h1], by omega, nown b, hseg, h3⟩⟩
  rw [c.hE] at hd
  obtain ⟨x, _, hdx⟩ := List.mem_flatMap.1 hd
  exact hone x d hdx
theorem open3 {t : TypeId} {f0 f1 f2 : Field} {fuel : Nat} {cs : List Value} {x : DataW H × List MemPlace} (ht : P.underlying t = some (.struct #[f0, f1, f2])) (o0 : f0.offset = 0) (o1 : f1.offset = 1) (o2 : f2.offset = 2) (c : P.cellsOf t = 3)
  (c0 : P.cellsOf f0.type = 1) (c1 : P.cellsOf f1.type = 1) (c2 : P.cellsOf f2.type = 1) (h : DataW.trod enc P W 0 (fun _ => true) true fuel t cs = some x) :
  ∃ v0 v1 v2 y0 y1 y2 n, cs = [v0, v1, v2] ∧ DataW.trod enc P W 0 (fun _ => true) true n f0.type [v0] = some y0 ∧ DataW.trod enc P W 0 (fun _ => true) true n f1.type [v1] = some y1 ∧ DataW.trod enc P W 0 (fun _ => true) true n f2.type [v2] = some y2 := by
 obtain ⟨xs, n, _, rfl, hl, hlen, hf⟩ := DataW.trod_struct ht h
 rw [c] at hl
 match cs, hl with
 | [v0, v1, v2], _ =>
  match xs, hlen with
  | [y0, y1, y2], _ =>
   refine ⟨v0, v1, v2, y0, y1, y2, n, rfl, ?_, ?_, ?_⟩
   ·have := hf 0 f0 rfl; rw [o0, c0] at this; exact this
   ·have := hf 1 f1 rfl; rw [o1, c1] at this; exact this
   ·have := hf 2 f2 rfl; rw [o2, c2] at this; exact this
theorem rep_i64 {n : Int} {ti : TypeId} {m : Nat} {v : Value} {y : DataW H × List MemPlace} (hti : P.underlying ti = some (.int .i64)) (h : DataW.trod enc P W 0 (fun _ => true) true m ti [v] = some y) : ∃ n : Int, Rep W Mu.zero (.int .i64 n) v := by
 obtain ⟨n, hv, _, hw⟩ := DataW.trod_int hti h
 cases hv
 exact ⟨n, rfl, hw⟩
theorem open_graph {t ti ts te : TypeId} {f0 f1 f2 e0 e1 e2 : Field} {v : Value} {d : DataW H} {ps : List MemPlace} (ht : P.underlying t = some (.struct #[f0, f1, f2])) (o : f0.offset = 0 ∧ f1.offset = 1 ∧ f2.offset = 2) (y : f0.type = ti ∧ f1.type = ti ∧ f2.type = ts)
  (c : P.cellsOf t = 3) (ci : P.cellsOf ti = 1) (cs : P.cellsOf ts = 1) (ct : P.cellTypes P.depth t = some [ti, ti, ts]) (hti : P.underlying ti = some (.int .i64)) (hts : P.underlying ts = some (.slice te))
  (hte : P.underlying te = some (.struct #[e0, e1, e2])) (oe : e0.offset = 0 ∧ e1.offset = 1 ∧ e2.offset = 2) (ye : e0.type = ti ∧ e1.type = ti ∧ e2.type = ti) (ce : P.cellsOf te = 3)
  (hval : Value.okWide P W .any base t v) (h : DataW.Trod enc P W 0 (fun _ => true) true t v d ps) : ∃ g : TLabelsStatesEdges, Rep W Mu.zero (.agg [.int .i64 g.1, .int .i64 g.2.1, slE eFromLabelTo g.2.2]) v := by
 obtain ⟨y0, y1, y2⟩ := y
 obtain ⟨z0, z1, z2⟩ := ye
 simp only [Value.okWide, ht] at hval
 obtain ⟨arr, rfl, _, hrow⟩ := hval
 obtain ⟨fuel, hf⟩ := h
 obtain ⟨v0, v1, v2, a0, a1, a2, n, hcs, h0, h1, h2⟩ := open3 ht o.1 o.2.1 o.2.2 c (by rw [y0]; exact ci) (by rw [y1]; exact ci) (by rw [y2]; exact cs) hf
 have harr : arr = #[v0, v1, v2] := by
  have : arr.toList = [v0, v1, v2] := hcs
  cases arr
  simp_all
 subst harr
 rw [y0] at h0
 rw [y1] at h1
 rw [y2] at h2
 obtain ⟨l, r0⟩ := rep_i64 (n := 0) hti h0
 obtain ⟨s, r1⟩ := rep_i64 (n := 0) hti h1
 obtain ⟨es, _, _, r2, r2', r2''⟩ := open_rows (base := base) eFromLabelTo hts ce (fun x d hd => by
   have hd : d ∈ [HV.int .i64 x.1, HV.int .i64 x.2.1, HV.int .i64 x.2.2] := hd
   simp only [List.mem_cons, List.not_mem_nil, or_false] at hd
   rcases hd with rfl | rfl | rfl <;> rfl) (fun m cs' y hy => by
   obtain ⟨w0, w1, w2, b0, b1, b2, n', rfl, k0, k1, k2⟩ := open3 hte oe.1 oe.2.1 oe.2.2 ce (by rw [z0]; exact ci) (by rw [z1]; exact ci) (by rw [z2]; exact ci) hy
   rw [z0] at k0
   rw [z1] at k1
   rw [z2] at k2
   obtain ⟨p0, q0⟩ := rep_i64 (n := 0) hti k0
   obtain ⟨p1, q1⟩ := rep_i64 (n := 0) hti k1
   obtain ⟨p2, q2⟩ := rep_i64 (n := 0) hti k2
   exact ⟨(p0, p1, p2), _, _, rfl, q0, _, _, rfl, q1, _, _, rfl, q2, rfl⟩) (fun a len cap e => by
   cases e
   obtain ⟨tys, ht1, _, hcell⟩ := hrow
   rw [ct] at ht1
   cases ht1
   obtain ⟨u, hu, hok⟩ := hcell 2 (.slice (some a) len cap) rfl
   cases hu
   simp only [Cell.okWide, hts, Cell.ok] at hok
   exact hok.2.2) h2
 cases r2
 refine ⟨(l, s, es), ?_⟩
 show _ ∧ _
 refine ⟨fun d hd => ?_, _, rfl, _, _, rfl, r0, _, _, rfl, r1, _, _, rfl, r2', rfl⟩
 simp only [List.mem_cons, List.not_mem_nil, or_false] at hd
 rcases hd with rfl | rfl | rfl <;> rfl
end
end Go.AW
namespace Go.AW
open Go Go.ChangeShapes Go.WideShapes Go.ChangeAt Go.RowKit
section
variable {H : Type} {enc : TypeId × Value → H} {P : Program} {W : World} {base : Nat}
theorem open_numbers {k : IntKind} {t e : TypeId} {v : Value} {d : DataW H} {ps : List MemPlace} (ht : P.underlying t = some (.slice e)) (he : P.underlying e = some (.int k)) (hc : P.cellsOf e = 1)
  (hval : Value.okWide P W .any base t v) (h : DataW.Trod enc P W 0 (fun _ => true) true t v d ps) : ∃ l : List Int, Rep W Mu.zero (slE (encM (HV.int k)) l) v := by
 obtain ⟨a, len, cap, rfl⟩ := okWide_slice ht hval
 obtain ⟨fuel, hf⟩ := h
 obtain ⟨l, x, xs, e1, h1, h2⟩ := open_rows (encM (HV.int k)) ht hc (fun x => ones.single rfl) (fun n cs y hy => by
  obtain ⟨m, hv, _, hw⟩ := DataW.trod_int he hy
  exact ⟨m, _, _, hv, ⟨rfl, hw⟩, rfl⟩) (fun a' len' cap' e => by
   simp [Value.cells] at e
   obtain ⟨rfl, rfl, rfl⟩ := e
   simp only [Value.okWide, ht, Cell.okWide, Cell.ok] at hval
   exact hval.2.2) hf
 simp [Value.cells] at e1
 obtain ⟨rfl, _⟩ := e1
 exact ⟨l, h1⟩
theorem open_ints {t e : TypeId} {v : Value} {d : DataW H} {ps : List MemPlace} (ht : P.underlying t = some (.slice e)) (he : P.underlying e = some (.int .i64)) (hc : P.cellsOf e = 1)
  (hval : Value.okWide P W .any base t v) (h : DataW.Trod enc P W 0 (fun _ => true) true t v d ps) : ∃ l : List Int, Rep W Mu.zero (slE eInt l) v := open_numbers ht he hc hval h
end
end Go.AW
namespace Go.AW
open Go Go.ChangeShapes Go.WideShapes Go.ChangeAt Go.RowKit
section
variable {H : Type} {enc : TypeId × Value → H} {P : Program} {W : World} {base : Nat}
end
end Go.AW
