import Derived.Test.YtnjepajbbkejeaaGreatSr4
import Derived.Lib.ConvBytes
import Derived.Shelf.Strings.Repeat
import Derived.Test.YtnjepajbbkejeaaGreatChecked
namespace Go.AW
open Go
set_option linter.unusedVariables false
noncomputable def m_syncmark_check (p0 : TLabelsStatesEdges) (p1 : List UInt8) : Option (Int) :=
 (m_graph_Check p0).bind fun x1 =>
 if x1 ≠ 0 then
  some 1
 else
  if 16 < p0.1 then
   some 12
  else
   if p1 = ([] : List UInt8) then
    some 5
   else
    if 32 < ((p1).length : Int) then
     some 4
    else
     (m_word_Check p0.1 p1).bind fun x3 =>
     some x3
noncomputable def m_syncmark_checkNumber (p0 : TLabelsStatesEdges) (p1 : List UInt8) (p2 : Int) : Option (Int) :=
 (m_syncmark_check p0 p1).bind fun x1 =>
 if x1 ≠ 0 then
  some x1
 else
  jp (fun (a3 : Bool) =>
    if a3 = true then
     some 2
    else
     some 0)
    fun k5 =>
   if p2 < 0 then
    k5 true
   else
    k5 (decide (4096 < p2))
noncomputable def m_syncmark_Valid (p0 : TLabelsStatesEdges) (p1 : List UInt8) (p2 : Int) : Option (Bool × Int) :=
 (m_syncmark_checkNumber p0 p1 p2).bind fun x1 =>
 if x1 ≠ 0 then
  some (false, x1)
 else
  (m_syncmark_bad p0 p1 p2).bind fun x3 =>
  some (!x3.2, 0)
noncomputable def m_syncmark_Bad (p0 : TLabelsStatesEdges) (p1 : List UInt8) (p2 : Int) : Option ((List UInt8) × Bool × Int) :=
 (m_syncmark_checkNumber p0 p1 p2).bind fun x1 =>
 if x1 ≠ 0 then
  some (([] : List UInt8), false, x1)
 else
  (m_syncmark_bad p0 p1 p2).bind fun x3 =>
  some (x3.1, x3.2, 0)
noncomputable def m_syncmark_Free (p0 : TLabelsStatesEdges) (p1 : List UInt8) : Option (Bool × Int) :=
 (m_syncmark_check p0 p1).bind fun x1 =>
 if x1 ≠ 0 then
  some (false, x1)
 else
  (m_language_Accepts p0 p1).bind fun x3 =>
  jp (fun (a5 : Bool) =>
    some (a5, x3.2))
    fun k7 =>
   if x3.2 = 0 then
    k7 (!x3.1)
   else
    k7 false
noncomputable def m_word_Find (p0 : List UInt8) (p1 : List UInt8) : Option ((List (Int))) :=
 (y_word_occurrences p1 p0).bind fun L3 =>
 lpO (forL (S := (List Int)) (X := Unit) (fun a5 (x7 : Int) =>
     if fits 8 ((a5 : List Int).length + ([x7]).length) then
      some (Stp.next (a5 ++ [x7]))
     else none) L3 ([] : List Int)) (fun a13 =>
     some a13) fun a15 =>
     none
noncomputable def m_syncmark_Occurs (p0 : List UInt8) (p1 : List UInt8) : Option ((List (Int))) :=
 (m_word_Find p1 p0).bind fun x1 =>
 some x1
noncomputable def m_syncmark_Overlaps (p0 : List UInt8) : Option ((List (Int))) :=
 (loopW (S := Int × (List Int)) (X := (List Int)) (fun a1 =>
     if a1.1 < ((p0).length : Int) then
      jp (fun (a5 : (List Int)) =>
        some (Stp.next (IntKind.wrap .i64 (a1.1 + 1), a5)))
        fun k7 =>
       if 0 ≤ (0 : Int) ∧ (0 : Int) ≤ a1.1 ∧ a1.1 ≤ (p0.length : Int) then
        (m_strings_HasSuffix p0 ((p0.take (a1.1).toNat).drop (0 : Int).toNat)).bind fun x9 =>
        if x9 = true then
         if fits 8 ((a1.2 : List Int).length + ([a1.1]).length) then
          k7 (a1.2 ++ [a1.1])
         else none
        else
         k7 a1.2
       else none
     else
      some (Stp.exit a1.2)) (1, ([] : List Int))).bind fun a14 =>
 some a14
noncomputable def m_law54_awakeG  : Option (Bool) :=
 (m_syncmark_Valid (2, 2, [(0, 0, 0), (0, 1, 1), (1, 0, 0)]) [49, 49] 1).bind fun x2 =>
 (m_syncmark_Bad (2, 2, [(0, 0, 0), (0, 1, 1), (1, 0, 0)]) [49, 49] 1).bind fun x4 =>
 (m_syncmark_Valid (2, 2, [(0, 0, 0), (0, 1, 1), (1, 0, 0)]) [49, 49, 48] 1).bind fun x6 =>
 (m_syncmark_Free (2, 2, [(0, 0, 0), (0, 1, 1), (1, 0, 0)]) [49, 49, 48]).bind fun x8 =>
 jp (fun (a10 : Bool) =>
   some a10)
   fun k12 =>
  if x2.2 = 0 then
   if x4.2.2 = 0 then
    if x6.2 = 0 then
     if x8.2 = 0 then
      if (!x2.1) = true then
       if x4.1 = [49] then
        if x4.2.1 = true then
         if x6.1 = true then
          if x8.1 = true then
           (m_syncmark_Overlaps [48, 49, 49, 48]).bind fun x13 =>
           (m_slices_Equal_Lint_int x13 [1]).bind fun x15 =>
           if x15 = true then
            (m_syncmark_Occurs [49, 49] [49, 49, 49, 49, 49]).bind fun x17 =>
            (m_slices_Equal_Lint_int x17 [0, 1, 2, 3]).bind fun x19 =>
            k12 x19
           else
            k12 false
          else
           k12 false
         else
          k12 false
        else
         k12 false
       else
        k12 false
      else
       k12 false
     else
      k12 false
    else
     k12 false
   else
    k12 false
  else
   k12 false
end Go.AW
namespace Go.AW
open Go Go.Proofs
set_option maxHeartbeats 1600000
set_option maxRecDepth 100000
set_option linter.unusedVariables false
theorem w_word_known {p0 : Int} {r : Bool} (h : m_word_known p0 = some r) : Pure Tryz.prog 47 [hI p0] (· = HV.bool r) := by
 unfold m_word_known at h
 refine Pure.of_body Tryz.func47 rfl rfl (lb rfl) fun hf => ?_
 unfold Tryz.f47
 dsimp only [enumS, Nat.reduceAdd]
 refine AW.rgs rfl fun K hK => mv rfl rfl ?_
 refine bf hK ⟨[(0, hI p0)], []⟩ ?_
 refine AW.seqJ h (S := Bool) (V := Unit) (fun a v => ⟨[(2, .bool a)], []⟩) (fun a1 w2 h => ?_) (fun k3 h => ?_)
 ·refine AW.ret ?_
  have h := Option.some.inj h
  subst h
  exact ret_pure (hs := [.bool a1]) (.inr rfl) (resT rfl rfl) rfl trivial
 refine AW.rg rfl fun K hK => mv rfl rfl (bv rfl (v_bin rfl rfl b_geq) (mv rfl rfl ?_))
 by_cases hg4 : 1 ≤ p0
 ·have h := ifT hg4 h
  refine b_T rfl rfl rfl rfl (decide_eq_true hg4) (o_val rfl (mv_val rfl rfl).2 ?_)
  refine b_T rfl rfl rfl rfl rfl (o_val rfl (v_bin rfl rfl b_leq) ?_)
  refine bv rfl (v_pickT rfl rfl rfl) (mv rfl rfl ?_)
  refine b_nil (hK _ ?_)
  exact to_L ⟨decide (p0 ≤ 16), (), h, rfl⟩
 have h := ifF hg4 h
 refine b_F rfl rfl rfl rfl rfl (decide_eq_false hg4) ?_
 refine b_F rfl rfl rfl rfl rfl rfl ?_
 refine bv rfl (v_pickF rfl rfl rfl) (mv rfl rfl ?_)
 refine b_nil (hK _ ?_)
 exact to_L ⟨false, (), h, rfl⟩
theorem w_word_Check {p0 : Int} {p1 : List UInt8} {r : Int} (h : m_word_Check p0 p1 = some r) : Pure Tryz.prog 27 [hI p0, .str p1] (· = hI r) := by
 unfold m_word_Check at h
 refine Pure.of_body Tryz.func27 rfl rfl (lb rfl) fun hf => ?_
 unfold Tryz.f27
 dsimp only [enumS, Nat.reduceAdd]
 refine AW.rgs rfl fun K hK => mv rfl rfl ?_
 refine bf hK ⟨[(0, hI p0), (1, .str p1)], []⟩ ?_
 refine AW.seq (AW.block ?_)
 refine AW.rgs rfl fun K hK => mv rfl rfl ?_
 obtain ⟨x1, h2, h⟩ := bS h
 refine b_op rfl (o_call rfl rfl rfl rfl (ACallD.pure0 (w_word_known h2)) ?_)
 refine bv rfl (v_not rfl) (mv rfl rfl ?_)
 refine bf hK ⟨[(0, hI p0), (1, .str p1), (6, .bool (!x1))], []⟩ ?_
 refine AW.cond rfl (fun hc => ?_) (fun hc => ?_)
 ·have h := ifT hc h
  refine AW.rgs rfl fun K hK => mv rfl rfl ?_
  refine bf hK ⟨[(4, hI 12)], []⟩ ?_
  refine AW.ret ?_
  have h := Option.some.inj h
  subst h
  exact ret_pure (hs := [hI 12]) (.inr rfl) (resT rfl rfl) rfl trivial
 have h := ifF (bF' hc) h
 refine AW.rgs rfl fun K hK => mv rfl rfl (bv rfl (v_lenS rfl rfl ty9 rfl) (bv rfl (v_bin rfl rfl b_gtr) (mv rfl rfl ?_)))
 refine bf hK ⟨[(0, hI p0), (1, .str p1), (10, .bool (decide (65536 < ((p1).length : Int))))], []⟩ ?_
 refine AW.cond rfl (fun hc => ?_) (fun hc => ?_)
 ·obtain ⟨hc, h⟩ := cT hc h
  refine AW.rgs rfl fun K hK => mv rfl rfl ?_
  refine bf hK ⟨[(4, hI 4)], []⟩ ?_
  refine AW.ret ?_
  have h := Option.some.inj h
  subst h
  exact ret_pure (hs := [hI 4]) (.inr rfl) (resT rfl rfl) rfl trivial
 obtain ⟨hc, h⟩ := cF hc h
 refine AW.skip ?_
 refine AW.seq ?_
 refine AW.rgs rfl fun K hK => mv rfl rfl (bv rfl (v_lenS rfl rfl ty9 rfl) (mv rfl rfl ?_))
 refine bf hK ⟨[(0, hI p0), (1, .str p1), (15, hI ((p1).length : Int)), (16, hI 0)], []⟩ ?_
 refine AW.lpR h (by first | exact up_then | exact up_to) (S := Int) (V := Unit) (fun a v => ⟨[(0, hI p0), (1, .str p1), (15, hI ((p1).length : Int)), (16, hI a)], []⟩) ?_ (X := Unit) (W := Unit) (fun a v => ⟨[], []⟩) (fun a12 w13 h => ?_) (fun a3 w4 st5 h hr6=> ?_)
 ·exact to_L ⟨(), rfl⟩
 ·refine AW.rgs rfl fun K hK => mv rfl rfl ?_
  refine bf hK ⟨[(4, hI 0)], []⟩ ?_
  refine AW.ret ?_
  have h := Option.some.inj h
  subst h
  exact ret_pure (hs := [hI 0]) (.inr rfl) (resT rfl rfl) rfl trivial
 refine AW.rgs rfl fun K hK => bv rfl (v_bin rfl rfl b_lss) ?_
 refine bf hK ⟨[(0, hI p0), (1, .str p1), (15, hI ((p1).length : Int)), (16, hI a3), (17, .bool (decide (a3 < ((p1).length : Int))))], []⟩ ?_
 refine AW.cseq rfl (fun hc => ?_) (fun hc => ?_)
 ·obtain ⟨hc, h⟩ := cT hc h
  refine AW.skip ?_
  refine AW.seq (AW.block ?_)
  refine AW.rgs rfl fun K hK => mv rfl rfl (mv rfl rfl ?_)
  refine bf hK ⟨[(0, hI p0), (1, .str p1), (5, hI a3), (15, hI ((p1).length : Int)), (16, hI a3)], []⟩ ?_
  refine AW.dgs 7 follows rfl rfl fun K hK => ?_
  refine sm rfl rfl ?_
  obtain ⟨h7, h⟩ := ifN h
  refine sv rfl (v_sliceS ty9 rfl rfl rfl h7) ?_
  refine sm rfl rfl ?_
  refine sm rfl rfl ?_
  obtain ⟨x8, h9, h⟩ := bS h
  refine sv rfl (v_idxS ty9 rfl rfl h9) ?_
  obtain ⟨x10, h11, h⟩ := bS h
  refine s_op rfl rfl (ops_call rfl rfl rfl rfl (ACallD.pure0 (w_strings_IndexByte h11)) ?_)
  refine sv rfl (v_bin rfl rfl b_lss) ?_
  refine s_nil ?_
  refine bf hK ⟨[(0, hI p0), (1, .str p1), (15, hI ((p1).length : Int)), (16, hI a3), (25, .bool (decide (x10 < 0)))], []⟩ ?_
  refine AW.cond rfl (fun hc => ?_) (fun hc => ?_)
  ·obtain ⟨hc, h⟩ := cT hc h
   refine AW.rgs rfl fun K hK => mv rfl rfl ?_
   refine bf hK ⟨[(4, hI 13)], []⟩ ?_
   have h := hr6 _ h
   refine AW.ret ?_
   have h := Option.some.inj h
   subst h
   exact ret_pure (hs := [hI 13]) (.inr rfl) (resT rfl rfl) rfl trivial
  obtain ⟨hc, h⟩ := cF hc h
  refine AW.skip ?_
  refine AW.rg rfl fun K hK => bv rfl (v_bin rfl rfl b_add) (mv rfl rfl ?_)
  refine b_nil (hK _ ?_)
  exact to_L ⟨IntKind.wrap .i64 (a3 + 1), (), h, rfl⟩
 obtain ⟨hc, h⟩ := cF hc h
 refine AW.exit ?_
 exact to_L ⟨(), (), h, rfl⟩
theorem w_syncmark_check {p0 : TLabelsStatesEdges} {p1 : List UInt8} {r : Int} (h : m_syncmark_check p0 p1 = some r) : Pure Tryz.prog 39 [gA p0, .str p1] (· = hI r) := by
 unfold m_syncmark_check at h
 refine Pure.of_body Tryz.func39 rfl rfl (lb rfl) fun hf => ?_
 unfold Tryz.f39
 dsimp only [enumS, Nat.reduceAdd]
 refine AW.rgs rfl fun K hK => b_op rfl (o_box rfl rfl rfl ?_)
 refine mv rfl rfl ?_
 refine bf hK ⟨[(1, .str p1), (2, gF p0)], []⟩ ?_
 refine AW.seq (AW.block ?_)
 refine AW.rgs rfl fun K hK => bv rfl (v_loadF ty24 rfl (l_litA rfl (lb rfl) rfl)) ?_
 obtain ⟨x1, h2, h⟩ := bS h
 refine b_op rfl (o_call rfl rfl rfl rfl (ACallD.pure0 (w_graph_Check h2)) ?_)
 refine bv rfl (v_bin rfl rfl b_neq) (mv rfl rfl ?_)
 refine bf hK ⟨[(1, .str p1), (2, gF p0), (5, .bool (decide (x1 ≠ 0)))], []⟩ ?_
 refine AW.cond rfl (fun hc => ?_) (fun hc => ?_)
 ·obtain ⟨hc, h⟩ := cT hc h
  refine AW.rgs rfl fun K hK => mv rfl rfl ?_
  refine bf hK ⟨[(4, hI 1)], []⟩ ?_
  refine AW.ret ?_
  have h := Option.some.inj h
  subst h
  exact ret_pure (hs := [hI 1]) (.inr rfl) (resT rfl rfl) rfl trivial
 obtain ⟨hc, h⟩ := cF hc h
 refine AW.rgs rfl fun K hK => bv rfl (v_fieldAddrF fo24_0 rfl) (bv rfl (v_loadF ty3 rfl (l_lit rfl rfl)) (bv rfl (v_bin rfl rfl b_gtr) (mv rfl rfl ?_)))
 refine bf hK ⟨[(1, .str p1), (2, gF p0), (9, .bool (decide (16 < p0.1)))], []⟩ ?_
 refine AW.cond rfl (fun hc => ?_) (fun hc => ?_)
 ·obtain ⟨hc, h⟩ := cT hc h
  refine AW.rgs rfl fun K hK => mv rfl rfl ?_
  refine bf hK ⟨[(4, hI 12)], []⟩ ?_
  refine AW.ret ?_
  have h := Option.some.inj h
  subst h
  exact ret_pure (hs := [hI 12]) (.inr rfl) (resT rfl rfl) rfl trivial
 obtain ⟨hc, h⟩ := cF hc h
 refine AW.rgs rfl fun K hK => mv rfl rfl (bv rfl (v_bin rfl rfl b_seql) (mv rfl rfl ?_))
 refine bf hK ⟨[(1, .str p1), (2, gF p0), (13, .bool (decide (p1 = nS)))], []⟩ ?_
 refine AW.cond rfl (fun hc => ?_) (fun hc => ?_)
 ·obtain ⟨hc, h⟩ := cT hc h
  refine AW.rgs rfl fun K hK => mv rfl rfl ?_
  refine bf hK ⟨[(4, hI 5)], []⟩ ?_
  refine AW.ret ?_
  have h := Option.some.inj h
  subst h
  exact ret_pure (hs := [hI 5]) (.inr rfl) (resT rfl rfl) rfl trivial
 obtain ⟨hc, h⟩ := cF hc h
 refine AW.rgs rfl fun K hK => mv rfl rfl (bv rfl (v_lenS rfl rfl ty9 rfl) (bv rfl (v_bin rfl rfl b_gtr) (mv rfl rfl ?_)))
 refine bf hK ⟨[(1, .str p1), (2, gF p0), (16, .bool (decide (32 < ((p1).length : Int))))], []⟩ ?_
 refine AW.cond rfl (fun hc => ?_) (fun hc => ?_)
 ·obtain ⟨hc, h⟩ := cT hc h
  refine AW.rgs rfl fun K hK => mv rfl rfl ?_
  refine bf hK ⟨[(4, hI 4)], []⟩ ?_
  refine AW.ret ?_
  have h := Option.some.inj h
  subst h
  exact ret_pure (hs := [hI 4]) (.inr rfl) (resT rfl rfl) rfl trivial
 obtain ⟨hc, h⟩ := cF hc h
 refine AW.skip ?_
 refine AW.rgs rfl fun K hK => bv rfl (v_fieldAddrF fo24_0 rfl) (bv rfl (v_loadF ty3 rfl (l_lit rfl rfl)) (mv rfl rfl ?_))
 obtain ⟨x3, h4, h⟩ := bS h
 refine b_op rfl (o_call rfl rfl rfl rfl (ACallD.pure0 (w_word_Check h4)) ?_)
 refine mv rfl rfl ?_
 refine bf hK ⟨[(4, hI x3)], []⟩ ?_
 refine AW.ret ?_
 have h := Option.some.inj h
 subst h
 exact ret_pure (hs := [hI x3]) (.inr rfl) (resT rfl rfl) rfl trivial
theorem w_syncmark_checkNumber {p0 : TLabelsStatesEdges} {p1 : List UInt8} {p2 : Int} {r : Int} (h : m_syncmark_checkNumber p0 p1 p2 = some r) : Pure Tryz.prog 37 [gA p0, .str p1, hI p2] (· = hI r) := by
 unfold m_syncmark_checkNumber at h
 refine Pure.of_body Tryz.func37 rfl rfl (lb rfl) fun hf => ?_
 unfold Tryz.f37
 dsimp only [enumS, Nat.reduceAdd]
 refine AW.rgs rfl fun K hK => b_op rfl (o_box rfl rfl rfl ?_)
 refine mv rfl rfl ?_
 refine bf hK ⟨[(1, .str p1), (2, hI p2), (3, gF p0)], []⟩ ?_
 refine AW.seq ?_
 refine AW.rgs rfl fun K hK => bv rfl (v_loadF ty24 rfl (l_litA rfl (lb rfl) rfl)) (mv rfl rfl ?_)
 obtain ⟨x1, h2, h⟩ := bS h
 refine b_op rfl (o_call rfl rfl rfl rfl (ACallD.pure0 (w_syncmark_check h2)) ?_)
 refine mv rfl rfl ?_
 refine bf hK ⟨[(2, hI p2), (7, hI x1)], []⟩ ?_
 refine AW.rgs rfl fun K hK => mv rfl rfl (bv rfl (v_bin rfl rfl b_neq) ?_)
 refine bf hK ⟨[(2, hI p2), (7, hI x1), (12, .bool (decide (x1 ≠ 0)))], []⟩ ?_
 refine AW.cond rfl (fun hc => ?_) (fun hc => ?_)
 ·obtain ⟨hc, h⟩ := cT hc h
  refine AW.rgs rfl fun K hK => mv rfl rfl (mv rfl rfl ?_)
  refine bf hK ⟨[(6, hI x1)], []⟩ ?_
  refine AW.ret ?_
  have h := Option.some.inj h
  subst h
  exact ret_pure (hs := [hI x1]) (.inr rfl) (resT rfl rfl) rfl trivial
 obtain ⟨hc, h⟩ := cF hc h
 refine AW.skip ?_
 refine AW.seq ?_
 refine AW.seqJ h (S := Bool) (V := Unit) (fun a v => ⟨[(19, .bool a)], []⟩) (fun a3 w4 h => ?_) (fun k5 h => ?_)
 ·refine AW.cond rfl (fun hc => ?_) (fun hc => ?_)
  ·have h := ifT hc h
   refine AW.rgs rfl fun K hK => mv rfl rfl ?_
   refine bf hK ⟨[(6, hI 2)], []⟩ ?_
   refine AW.ret ?_
   have h := Option.some.inj h
   subst h
   exact ret_pure (hs := [hI 2]) (.inr rfl) (resT rfl rfl) rfl trivial
  have h := ifF (bF' hc) h
  refine AW.skip ?_
  refine AW.rgs rfl fun K hK => mv rfl rfl ?_
  refine bf hK ⟨[(6, hI 0)], []⟩ ?_
  refine AW.ret ?_
  have h := Option.some.inj h
  subst h
  exact ret_pure (hs := [hI 0]) (.inr rfl) (resT rfl rfl) rfl trivial
 refine AW.rg rfl fun K hK => mv rfl rfl (bv rfl (v_bin rfl rfl b_lss) (mv rfl rfl ?_))
 by_cases hg6 : p2 < 0
 ·have h := ifT hg6 h
  refine b_F rfl rfl rfl rfl rfl (decide_eq_true hg6) ?_
  refine b_F rfl rfl rfl rfl rfl rfl ?_
  refine bv rfl (v_pickT rfl rfl rfl) ?_
  refine b_nil (hK _ ?_)
  exact to_L ⟨true, (), h, rfl⟩
 have h := ifF hg6 h
 refine b_T rfl rfl rfl rfl (decide_eq_false hg6) (o_val rfl (mv_val rfl rfl).2 ?_)
 refine b_T rfl rfl rfl rfl rfl (o_val rfl (v_bin rfl rfl b_gtr) ?_)
 refine bv rfl (v_pickF rfl rfl rfl) ?_
 refine b_nil (hK _ ?_)
 exact to_L ⟨decide (4096 < p2), (), h, rfl⟩
theorem w_syncmark_Bad {p0 : TLabelsStatesEdges} {p1 : List UInt8} {p2 : Int} {r : (List UInt8) × Bool × Int} (h : m_syncmark_Bad p0 p1 p2 = some r) : Pure Tryz.prog 11 [gA p0, .str p1, hI p2] (· = HV.tup [.str r.1, .bool r.2.1, hI r.2.2]) := by
 unfold m_syncmark_Bad at h
 refine Pure.of_body Tryz.func11 rfl rfl (lb rfl) fun hf => ?_
 unfold Tryz.f11
 dsimp only [enumS, Nat.reduceAdd]
 refine AW.rgs rfl fun K hK => b_op rfl (o_box rfl rfl rfl ?_)
 refine mv rfl rfl (mv rfl rfl (mv rfl rfl ?_))
 refine bf hK ⟨[(1, .str p1), (2, hI p2), (3, gF p0)], []⟩ ?_
 refine AW.seq ?_
 refine AW.rgs rfl fun K hK => bv rfl (v_loadF ty24 rfl (l_litA rfl (lb rfl) rfl)) (mv rfl rfl (mv rfl rfl ?_))
 obtain ⟨x1, h2, h⟩ := bS h
 refine b_op rfl (o_call rfl rfl rfl rfl (ACallD.pure0 (w_syncmark_checkNumber h2)) ?_)
 refine mv rfl rfl ?_
 refine bf hK ⟨[(1, .str p1), (2, hI p2), (3, gF p0), (9, hI x1)], []⟩ ?_
 refine AW.rgs rfl fun K hK => mv rfl rfl (bv rfl (v_bin rfl rfl b_neq) ?_)
 refine bf hK ⟨[(1, .str p1), (2, hI p2), (3, gF p0), (9, hI x1), (17, .bool (decide (x1 ≠ 0)))], []⟩ ?_
 refine AW.cond rfl (fun hc => ?_) (fun hc => ?_)
 ·obtain ⟨hc, h⟩ := cT hc h
  refine AW.rgs rfl fun K hK => mv rfl rfl (mv rfl rfl (mv rfl rfl (mv rfl rfl ?_)))
  refine bf hK ⟨[(6, .str nS), (7, .bool false), (8, hI x1)], []⟩ ?_
  refine AW.ret ?_
  have h := Option.some.inj h
  subst h
  exact ret_pure (hs := [.str nS, .bool false, hI x1]) (.inr rfl) (resT rfl (resT rfl (resT rfl rfl))) rfl ⟨trivial, trivial, trivial, trivial⟩
 obtain ⟨hc, h⟩ := cF hc h
 refine AW.skip ?_
 refine AW.rgs rfl fun K hK => bv rfl (v_loadF ty24 rfl (l_litA rfl (lb rfl) rfl)) (mv rfl rfl (mv rfl rfl ?_))
 obtain ⟨x3, h4, h⟩ := bS h
 refine b_op rfl (o_call rfl rfl rfl rfl (ACallD.pure0 (w_syncmark_bad h4)) ?_)
 refine mv rfl rfl (bv rfl (v_extract rfl rfl) (bv rfl (v_extract rfl rfl) (mv rfl rfl (mv rfl rfl ?_))))
 refine bf hK ⟨[(10, .str x3.1), (11, .bool x3.2)], []⟩ ?_
 refine AW.rgs rfl fun K hK => mv rfl rfl (mv rfl rfl (mv rfl rfl (mv rfl rfl (mv rfl rfl ?_))))
 refine bf hK ⟨[(6, .str x3.1), (7, .bool x3.2), (8, hI 0)], []⟩ ?_
 refine AW.ret ?_
 have h := Option.some.inj h
 subst h
 exact ret_pure (hs := [.str x3.1, .bool x3.2, hI 0]) (.inr rfl) (resT rfl (resT rfl (resT rfl rfl))) rfl ⟨trivial, trivial, trivial, trivial⟩
theorem w_syncmark_Valid {p0 : TLabelsStatesEdges} {p1 : List UInt8} {p2 : Int} {r : Bool × Int} (h : m_syncmark_Valid p0 p1 p2 = some r) : Pure Tryz.prog 12 [gA p0, .str p1, hI p2] (· = HV.tup [.bool r.1, hI r.2]) := by
 unfold m_syncmark_Valid at h
 refine Pure.of_body Tryz.func12 rfl rfl (lb rfl) fun hf => ?_
 unfold Tryz.f12
 dsimp only [enumS, Nat.reduceAdd]
 refine AW.rgs rfl fun K hK => b_op rfl (o_box rfl rfl rfl ?_)
 refine mv rfl rfl (mv rfl rfl ?_)
 refine bf hK ⟨[(1, .str p1), (2, hI p2), (3, gF p0)], []⟩ ?_
 refine AW.seq ?_
 refine AW.rgs rfl fun K hK => bv rfl (v_loadF ty24 rfl (l_litA rfl (lb rfl) rfl)) (mv rfl rfl (mv rfl rfl ?_))
 obtain ⟨x1, h2, h⟩ := bS h
 refine b_op rfl (o_call rfl rfl rfl rfl (ACallD.pure0 (w_syncmark_checkNumber h2)) ?_)
 refine mv rfl rfl ?_
 refine bf hK ⟨[(1, .str p1), (2, hI p2), (3, gF p0), (8, hI x1)], []⟩ ?_
 refine AW.rgs rfl fun K hK => mv rfl rfl (bv rfl (v_bin rfl rfl b_neq) ?_)
 refine bf hK ⟨[(1, .str p1), (2, hI p2), (3, gF p0), (8, hI x1), (16, .bool (decide (x1 ≠ 0)))], []⟩ ?_
 refine AW.cond rfl (fun hc => ?_) (fun hc => ?_)
 ·obtain ⟨hc, h⟩ := cT hc h
  refine AW.rgs rfl fun K hK => mv rfl rfl (mv rfl rfl (mv rfl rfl ?_))
  refine bf hK ⟨[(6, .bool false), (7, hI x1)], []⟩ ?_
  refine AW.ret ?_
  have h := Option.some.inj h
  subst h
  exact ret_pure (hs := [.bool false, hI x1]) (.inr rfl) (resT rfl (resT rfl rfl)) rfl ⟨trivial, trivial, trivial⟩
 obtain ⟨hc, h⟩ := cF hc h
 refine AW.skip ?_
 refine AW.rgs rfl fun K hK => bv rfl (v_loadF ty24 rfl (l_litA rfl (lb rfl) rfl)) (mv rfl rfl (mv rfl rfl ?_))
 obtain ⟨x3, h4, h⟩ := bS h
 refine b_op rfl (o_call rfl rfl rfl rfl (ACallD.pure0 (w_syncmark_bad h4)) ?_)
 refine mv rfl rfl (bv rfl (v_extract rfl rfl) (bv rfl (v_extract rfl rfl) (mv rfl rfl (mv rfl rfl ?_))))
 refine bf hK ⟨[(10, .bool x3.2)], []⟩ ?_
 refine AW.rgs rfl fun K hK => mv rfl rfl (bv rfl (v_not rfl) (mv rfl rfl (mv rfl rfl ?_)))
 refine bf hK ⟨[(6, .bool (!x3.2)), (7, hI 0)], []⟩ ?_
 refine AW.ret ?_
 have h := Option.some.inj h
 subst h
 exact ret_pure (hs := [.bool (!x3.2), hI 0]) (.inr rfl) (resT rfl (resT rfl rfl)) rfl ⟨trivial, trivial, trivial⟩
theorem w_language_spells {p0 : TLabelsStatesEdges} {p1 : List UInt8} {r : Int} (h : m_language_spells p0 p1 = some r) : Pure Tryz.prog 75 [gA p0, .str p1] (· = hI r) := by
 unfold m_language_spells at h
 refine Pure.of_body Tryz.func75 rfl rfl (lb rfl) fun hf => ?_
 unfold Tryz.f75
 dsimp only [enumS, Nat.reduceAdd]
 refine AW.rgs rfl fun K hK => b_op rfl (o_box rfl rfl rfl ?_)
 refine mv rfl rfl ?_
 refine bf hK ⟨[(1, .str p1), (2, gF p0)], []⟩ ?_
 refine AW.seq ?_
 refine AW.rgs rfl fun K hK => bv rfl (v_loadF ty24 rfl (l_litA rfl (lb rfl) rfl)) ?_
 obtain ⟨x1, h2, h⟩ := bS h
 refine b_op rfl (o_call rfl rfl rfl rfl (ACallD.pure0 (w_language_check h2)) ?_)
 refine mv rfl rfl ?_
 refine bf hK ⟨[(1, .str p1), (2, gF p0), (5, hI x1)], []⟩ ?_
 refine AW.rgs rfl fun K hK => mv rfl rfl (bv rfl (v_bin rfl rfl b_neq) ?_)
 refine bf hK ⟨[(1, .str p1), (2, gF p0), (5, hI x1), (9, .bool (decide (x1 ≠ 0)))], []⟩ ?_
 refine AW.cond rfl (fun hc => ?_) (fun hc => ?_)
 ·obtain ⟨hc, h⟩ := cT hc h
  refine AW.rgs rfl fun K hK => mv rfl rfl (mv rfl rfl ?_)
  refine bf hK ⟨[(4, hI x1)], []⟩ ?_
  refine AW.ret ?_
  have h := Option.some.inj h
  subst h
  exact ret_pure (hs := [hI x1]) (.inr rfl) (resT rfl rfl) rfl trivial
 obtain ⟨hc, h⟩ := cF hc h
 refine AW.skip ?_
 refine AW.rgs rfl fun K hK => bv rfl (v_fieldAddrF fo24_0 rfl) (bv rfl (v_loadF ty3 rfl (l_lit rfl rfl)) (mv rfl rfl ?_))
 obtain ⟨x3, h4, h⟩ := bS h
 refine b_op rfl (o_call rfl rfl rfl rfl (ACallD.pure0 (w_word_Check h4)) ?_)
 refine mv rfl rfl ?_
 refine bf hK ⟨[(4, hI x3)], []⟩ ?_
 refine AW.ret ?_
 have h := Option.some.inj h
 subst h
 exact ret_pure (hs := [hI x3]) (.inr rfl) (resT rfl rfl) rfl trivial
theorem w_language_ends {p0 : TLabelsStatesEdges} {p1 : List (Int)} {p2 : List UInt8} {r : (List (Int))} (h : m_language_ends p0 p1 p2 = some r) : Pure Tryz.prog 76 [gA p0, slE eInt p1, .str p2] (· = slE eInt r) := by
 unfold m_language_ends at h
 refine Pure.of_body Tryz.func76 rfl rfl (lb rfl) fun hf => ?_
 unfold Tryz.f76
 dsimp only [enumS, Nat.reduceAdd]
 refine AW.rgs rfl fun K hK => b_op rfl (o_box rfl rfl rfl ?_)
 refine mv rfl rfl ?_
 refine bf hK ⟨[(1, slE eInt p1), (2, .str p2), (3, gF p0)], []⟩ ?_
 refine AW.seq ?_
 refine AW.rgs rfl fun K hK => mv rfl rfl ?_
 refine bf hK ⟨[(1, slE eInt p1), (2, .str p2), (3, gF p0), (7, hI 0)], []⟩ ?_
 refine AW.lpX h (by first | exact up_then | exact up_to) (S := (List Int) × Int) (V := Unit) (fun a v => ⟨[(1, slE eInt a.1), (2, .str p2), (3, gF p0), (7, hI a.2)], []⟩) ?_ (X := (List Int)) (W := Unit) (fun a v => ⟨[(1, slE eInt a)], []⟩) (fun a13 w14 h => ?_) (fun a1 w2 st3 h => ?_)
 ·exact to_L ⟨(), rfl⟩
 ·refine AW.rgs rfl fun K hK => mv rfl rfl (mv rfl rfl ?_)
  refine bf hK ⟨[(6, slE eInt a13)], []⟩ ?_
  refine AW.ret ?_
  have h := Option.some.inj h
  subst h
  exact ret_pure (hs := [slE eInt a13]) (.inr rfl) (resT rfl rfl) rfl (clean_slE fun _ _ => ⟨trivial, trivial⟩)
 refine AW.seq ?_
 refine AW.seqJ h (S := Bool) (V := Unit) (fun a v => ⟨[(1, slE eInt a1.1), (2, .str p2), (3, gF p0), (7, hI a1.2), (16, .bool a)], []⟩) (fun a5 w6 h => ?_) (fun k7 h => ?_)
 ·refine AW.cond rfl (fun hc => ?_) (fun hc => ?_)
  ·have h := ifT hc h
   refine AW.skip ?_
   refine AW.seq (AW.block ?_)
   refine AW.dg 7 follows rfl rfl fun K hK => ?_
   refine sv rfl (v_loadF ty24 rfl (l_litA rfl (lb rfl) rfl)) ?_
   refine sm rfl rfl ?_
   refine sm rfl rfl ?_
   refine sm rfl rfl ?_
   obtain ⟨x8, h9, h⟩ := bS h
   refine sv rfl (v_idxS ty9 rfl rfl h9) ?_
   obtain ⟨x10, h11, h⟩ := bS h
   refine s_op rfl rfl (ops_call rfl rfl rfl rfl (ACallD.pure0 (w_language_step h11)) ?_)
   refine sm rfl rfl ?_
   refine s_nil ?_
   refine bf hK ⟨[(1, slE eInt x10), (2, .str p2), (3, gF p0), (7, hI a1.2)], []⟩ ?_
   refine AW.rg rfl fun K hK => mv rfl rfl (bv rfl (v_bin rfl rfl b_add) (mv rfl rfl ?_))
   refine b_nil (hK _ ?_)
   exact to_L ⟨(x10, IntKind.wrap .i64 (a1.2 + 1)), (), h, rfl⟩
  have h := ifF (bF' hc) h
  refine AW.exit ?_
  exact to_L ⟨a1.1, (), h, rfl⟩
 refine AW.rg rfl fun K hK => mv rfl rfl (mv rfl rfl (bv rfl (v_lenS rfl rfl ty9 rfl) (bv rfl (v_bin rfl rfl b_lss) (mv rfl rfl ?_))))
 by_cases hg12 : a1.2 < ((p2).length : Int)
 ·have h := ifT hg12 h
  refine b_T rfl rfl rfl rfl (decide_eq_true hg12) (o_val rfl (mv_val rfl rfl).2 ?_)
  refine b_T rfl rfl rfl rfl rfl (o_val rfl (v_lenF rfl rfl ty55 rfl) ?_)
  refine b_T rfl rfl rfl rfl rfl (o_val rfl (v_bin rfl rfl b_gtr) ?_)
  refine bv rfl (v_pickT rfl rfl rfl) ?_
  refine b_nil (hK _ ?_)
  exact to_L ⟨decide (0 < ((a1.1).length : Int)), (), h, rfl⟩
 have h := ifF hg12 h
 refine b_F rfl rfl rfl rfl rfl (decide_eq_false hg12) ?_
 refine b_F rfl rfl rfl rfl rfl rfl ?_
 refine b_F rfl rfl rfl rfl rfl rfl ?_
 refine bv rfl (v_pickF rfl rfl rfl) ?_
 refine b_nil (hK _ ?_)
 exact to_L ⟨false, (), h, rfl⟩
theorem w_language_Accepts {p0 : TLabelsStatesEdges} {p1 : List UInt8} {r : Bool × Int} (h : m_language_Accepts p0 p1 = some r) : Pure Tryz.prog 49 [gA p0, .str p1] (· = HV.tup [.bool r.1, hI r.2]) := by
 unfold m_language_Accepts at h
 refine Pure.of_body Tryz.func49 rfl rfl (lb rfl) fun hf => ?_
 unfold Tryz.f49
 dsimp only [enumS, Nat.reduceAdd]
 refine AW.rgs rfl fun K hK => b_op rfl (o_box rfl rfl rfl ?_)
 refine mv rfl rfl (mv rfl rfl ?_)
 refine bf hK ⟨[(1, .str p1), (2, gF p0)], []⟩ ?_
 refine AW.seq ?_
 refine AW.rgs rfl fun K hK => bv rfl (v_loadF ty24 rfl (l_litA rfl (lb rfl) rfl)) (mv rfl rfl ?_)
 obtain ⟨x1, h2, h⟩ := bS h
 refine b_op rfl (o_call rfl rfl rfl rfl (ACallD.pure0 (w_language_spells h2)) ?_)
 refine mv rfl rfl ?_
 refine bf hK ⟨[(1, .str p1), (2, gF p0), (6, hI x1)], []⟩ ?_
 refine AW.rgs rfl fun K hK => mv rfl rfl (bv rfl (v_bin rfl rfl b_neq) ?_)
 refine bf hK ⟨[(1, .str p1), (2, gF p0), (6, hI x1), (11, .bool (decide (x1 ≠ 0)))], []⟩ ?_
 refine AW.cond rfl (fun hc => ?_) (fun hc => ?_)
 ·obtain ⟨hc, h⟩ := cT hc h
  refine AW.rgs rfl fun K hK => mv rfl rfl (mv rfl rfl (mv rfl rfl ?_))
  refine bf hK ⟨[(4, .bool false), (5, hI x1)], []⟩ ?_
  refine AW.ret ?_
  have h := Option.some.inj h
  subst h
  exact ret_pure (hs := [.bool false, hI x1]) (.inr rfl) (resT rfl (resT rfl rfl)) rfl ⟨trivial, trivial, trivial⟩
 obtain ⟨hc, h⟩ := cF hc h
 refine AW.skip ?_
 refine AW.dgs 9 follows rfl rfl fun K hK => ?_
 refine sv rfl (v_loadF ty24 rfl (l_litA rfl (lb rfl) rfl)) ?_
 refine sv rfl (v_loadF ty24 rfl (l_litA rfl (lb rfl) rfl)) ?_
 obtain ⟨x3, h4, h⟩ := bS h
 refine s_op rfl rfl (ops_call rfl rfl rfl rfl (ACallD.pure0 (w_language_states h4)) ?_)
 refine sm rfl rfl ?_
 obtain ⟨x5, h6, h⟩ := bS h
 refine s_op rfl rfl (ops_call rfl rfl rfl rfl (ACallD.pure0 (w_language_ends h6)) ?_)
 refine sv rfl (v_lenF rfl rfl ty55 rfl) ?_
 refine sv rfl (v_bin rfl rfl b_gtr) ?_
 refine sm rfl rfl ?_
 refine sm rfl rfl ?_
 refine s_nil ?_
 refine bf hK ⟨[(4, .bool (decide (0 < ((x5).length : Int)))), (5, hI 0)], []⟩ ?_
 refine AW.ret ?_
 have h := Option.some.inj h
 subst h
 exact ret_pure (hs := [.bool (decide (0 < ((x5).length : Int))), hI 0]) (.inr rfl) (resT rfl (resT rfl rfl)) rfl ⟨trivial, trivial, trivial⟩
theorem w_syncmark_Free {p0 : TLabelsStatesEdges} {p1 : List UInt8} {r : Bool × Int} (h : m_syncmark_Free p0 p1 = some r) : Pure Tryz.prog 28 [gA p0, .str p1] (· = HV.tup [.bool r.1, hI r.2]) := by
 unfold m_syncmark_Free at h
 refine Pure.of_body Tryz.func28 rfl rfl (lb rfl) fun hf => ?_
 unfold Tryz.f28
 dsimp only [enumS, Nat.reduceAdd]
 refine AW.rgs rfl fun K hK => b_op rfl (o_box rfl rfl rfl ?_)
 refine mv rfl rfl (mv rfl rfl ?_)
 refine bf hK ⟨[(1, .str p1), (2, gF p0)], []⟩ ?_
 refine AW.seq ?_
 refine AW.rgs rfl fun K hK => bv rfl (v_loadF ty24 rfl (l_litA rfl (lb rfl) rfl)) (mv rfl rfl ?_)
 obtain ⟨x1, h2, h⟩ := bS h
 refine b_op rfl (o_call rfl rfl rfl rfl (ACallD.pure0 (w_syncmark_check h2)) ?_)
 refine mv rfl rfl ?_
 refine bf hK ⟨[(1, .str p1), (2, gF p0), (6, hI x1)], []⟩ ?_
 refine AW.rgs rfl fun K hK => mv rfl rfl (bv rfl (v_bin rfl rfl b_neq) ?_)
 refine bf hK ⟨[(1, .str p1), (2, gF p0), (6, hI x1), (13, .bool (decide (x1 ≠ 0)))], []⟩ ?_
 refine AW.cond rfl (fun hc => ?_) (fun hc => ?_)
 ·obtain ⟨hc, h⟩ := cT hc h
  refine AW.rgs rfl fun K hK => mv rfl rfl (mv rfl rfl (mv rfl rfl ?_))
  refine bf hK ⟨[(4, .bool false), (5, hI x1)], []⟩ ?_
  refine AW.ret ?_
  have h := Option.some.inj h
  subst h
  exact ret_pure (hs := [.bool false, hI x1]) (.inr rfl) (resT rfl (resT rfl rfl)) rfl ⟨trivial, trivial, trivial⟩
 obtain ⟨hc, h⟩ := cF hc h
 refine AW.skip ?_
 refine AW.rgs rfl fun K hK => bv rfl (v_loadF ty24 rfl (l_litA rfl (lb rfl) rfl)) (mv rfl rfl ?_)
 obtain ⟨x3, h4, h⟩ := bS h
 refine b_op rfl (o_call rfl rfl rfl rfl (ACallD.pure0 (w_language_Accepts h4)) ?_)
 refine mv rfl rfl (bv rfl (v_extract rfl rfl) (bv rfl (v_extract rfl rfl) (mv rfl rfl (mv rfl rfl ?_))))
 refine bf hK ⟨[(7, .bool x3.1), (8, hI x3.2)], []⟩ ?_
 refine AW.seqJ h (S := Bool) (V := Unit) (fun a v => ⟨[(4, .bool a), (5, hI x3.2)], []⟩) (fun a5 w6 h => ?_) (fun k7 h => ?_)
 ·refine AW.ret ?_
  have h := Option.some.inj h
  subst h
  exact ret_pure (hs := [.bool a5, hI x3.2]) (.inr rfl) (resT rfl (resT rfl rfl)) rfl ⟨trivial, trivial, trivial⟩
 refine AW.rg rfl fun K hK => mv rfl rfl (bv rfl (v_bin rfl rfl b_eql) (mv rfl rfl ?_))
 by_cases hg8 : x3.2 = 0
 ·have h := ifT hg8 h
  refine b_T rfl rfl rfl rfl (decide_eq_true hg8) (o_val rfl (mv_val rfl rfl).2 ?_)
  refine b_T rfl rfl rfl rfl rfl (o_val rfl (v_not rfl) ?_)
  refine bv rfl (v_pickT rfl rfl rfl) (mv rfl rfl (mv rfl rfl (mv rfl rfl ?_)))
  refine b_nil (hK _ ?_)
  exact to_L ⟨!x3.1, (), h, rfl⟩
 have h := ifF hg8 h
 refine b_F rfl rfl rfl rfl rfl (decide_eq_false hg8) ?_
 refine b_F rfl rfl rfl rfl rfl rfl ?_
 refine bv rfl (v_pickF rfl rfl rfl) (mv rfl rfl (mv rfl rfl (mv rfl rfl ?_)))
 refine b_nil (hK _ ?_)
 exact to_L ⟨false, (), h, rfl⟩
theorem w_slices_Equal_Lint_int {p0 : List (Int)} {p1 : List (Int)} {r : Bool} (h : m_slices_Equal_Lint_int p0 p1 = some r) : Pure Tryz.prog 29 [slE eInt p0, slE eInt p1] (· = HV.bool r) := by
 unfold m_slices_Equal_Lint_int at h
 refine Pure.of_body Tryz.func29 rfl rfl (lb rfl) fun hf => ?_
 unfold Tryz.f29
 dsimp only [enumS, Nat.reduceAdd]
 refine AW.rgs rfl fun K hK => mv rfl rfl ?_
 refine bf hK ⟨[(0, slE eInt p0), (1, slE eInt p1)], []⟩ ?_
 refine AW.seq ?_
 refine AW.rgs rfl fun K hK => mv rfl rfl (bv rfl (v_lenF rfl rfl ty55 rfl) (mv rfl rfl (bv rfl (v_lenF rfl rfl ty55 rfl) (bv rfl (v_bin rfl rfl b_neq) ?_))))
 refine bf hK ⟨[(0, slE eInt p0), (1, slE eInt p1), (10, .bool (decide (((p0).length : Int) ≠ ((p1).length : Int))))], []⟩ ?_
 refine AW.cond rfl (fun hc => ?_) (fun hc => ?_)
 ·obtain ⟨hc, h⟩ := cT hc h
  refine AW.rgs rfl fun K hK => mv rfl rfl ?_
  refine bf hK ⟨[(4, .bool false)], []⟩ ?_
  refine AW.ret ?_
  have h := Option.some.inj h
  subst h
  exact ret_pure (hs := [.bool false]) (.inr rfl) (resT rfl rfl) rfl trivial
 obtain ⟨hc, h⟩ := cF hc h
 refine AW.skip ?_
 refine AW.seq ?_
 refine AW.rgs rfl fun K hK => mv rfl rfl (bv rfl (v_lenF rfl rfl ty55 rfl) (mv rfl rfl ?_))
 refine bf hK ⟨[(0, slE eInt p0), (1, slE eInt p1), (12, hI ((p0).length : Int)), (13, hI 0)], []⟩ ?_
 refine AW.lpR h (by first | exact up_then | exact up_to) (S := Int) (V := Unit) (fun a v => ⟨[(0, slE eInt p0), (1, slE eInt p1), (12, hI ((p0).length : Int)), (13, hI a)], []⟩) ?_ (X := Unit) (W := Unit) (fun a v => ⟨[], []⟩) (fun a9 w10 h => ?_) (fun a1 w2 st3 h hr4=> ?_)
 ·exact to_L ⟨(), rfl⟩
 ·refine AW.rgs rfl fun K hK => mv rfl rfl ?_
  refine bf hK ⟨[(4, .bool true)], []⟩ ?_
  refine AW.ret ?_
  have h := Option.some.inj h
  subst h
  exact ret_pure (hs := [.bool true]) (.inr rfl) (resT rfl rfl) rfl trivial
 refine AW.rgs rfl fun K hK => bv rfl (v_bin rfl rfl b_lss) ?_
 refine bf hK ⟨[(0, slE eInt p0), (1, slE eInt p1), (12, hI ((p0).length : Int)), (13, hI a1), (14, .bool (decide (a1 < ((p0).length : Int))))], []⟩ ?_
 refine AW.cseq rfl (fun hc => ?_) (fun hc => ?_)
 ·obtain ⟨hc, h⟩ := cT hc h
  refine AW.skip ?_
  refine AW.seq (AW.block ?_)
  refine AW.rgs rfl fun K hK => mv rfl rfl (mv rfl rfl ?_)
  refine bf hK ⟨[(0, slE eInt p0), (1, slE eInt p1), (5, hI a1), (12, hI ((p0).length : Int)), (13, hI a1)], []⟩ ?_
  refine AW.dgs 9 follows rfl rfl fun K hK => ?_
  refine sm rfl rfl ?_
  refine sm rfl rfl ?_
  obtain ⟨x5, h6, h⟩ := bS h
  refine sv rfl (v_idxF ty55 es55 rfl rfl (idx_lt h6)) ?_
  refine sv rfl (v_loadF ty3 rfl (l_cell eInt h6 (o := 0) rfl rfl)) ?_
  refine sm rfl rfl ?_
  refine sm rfl rfl ?_
  obtain ⟨x7, h8, h⟩ := bS h
  refine sv rfl (v_idxF ty55 es55 rfl rfl (idx_lt h8)) ?_
  refine sv rfl (v_loadF ty3 rfl (l_cell eInt h8 (o := 0) rfl rfl)) ?_
  refine sv rfl (v_bin rfl rfl b_neq) ?_
  refine s_nil ?_
  refine bf hK ⟨[(0, slE eInt p0), (1, slE eInt p1), (12, hI ((p0).length : Int)), (13, hI a1), (24, .bool (decide (x5 ≠ x7)))], []⟩ ?_
  refine AW.cond rfl (fun hc => ?_) (fun hc => ?_)
  ·obtain ⟨hc, h⟩ := cT hc h
   refine AW.rgs rfl fun K hK => mv rfl rfl ?_
   refine bf hK ⟨[(4, .bool false)], []⟩ ?_
   have h := hr4 _ h
   refine AW.ret ?_
   have h := Option.some.inj h
   subst h
   exact ret_pure (hs := [.bool false]) (.inr rfl) (resT rfl rfl) rfl trivial
  obtain ⟨hc, h⟩ := cF hc h
  refine AW.skip ?_
  refine AW.rg rfl fun K hK => bv rfl (v_bin rfl rfl b_add) (mv rfl rfl ?_)
  refine b_nil (hK _ ?_)
  exact to_L ⟨IntKind.wrap .i64 (a1 + 1), (), h, rfl⟩
 obtain ⟨hc, h⟩ := cF hc h
 refine AW.exit ?_
 exact to_L ⟨(), (), h, rfl⟩
theorem w_syncmark_Overlaps {p0 : List UInt8} {r : (List (Int))} (h : m_syncmark_Overlaps p0 = some r) : Pure Tryz.prog 30 [.str p0] (· = slE eInt r) := by
 unfold m_syncmark_Overlaps at h
 refine Pure.of_body Tryz.func30 rfl rfl (lb rfl) fun hf => ?_
 unfold Tryz.f30
 dsimp only [enumS, Nat.reduceAdd]
 refine AW.rgs rfl fun K hK => mv rfl rfl ?_
 refine bf hK ⟨[(0, .str p0)], []⟩ ?_
 refine AW.rgs rfl fun K hK => mv rfl rfl ?_
 refine bf hK ⟨[(0, .str p0), (3, .v (.slice none 0 0))], []⟩ ?_
 refine AW.seq ?_
 refine AW.rgs rfl fun K hK => mv rfl rfl ?_
 refine bf hK ⟨[(0, .str p0), (3, .v (.slice none 0 0)), (4, hI 1)], []⟩ ?_
 refine AW.lpX h (by first | exact up_then | exact up_to) (S := Int × (List Int)) (V := Nat) (fun a v => ⟨[(0, .str p0), (3, .ar 30019 v eInt.k 0 ((a.2).length)), (4, hI a.1)], [(30019, v, .arr eInt.k 3 (eInt.E a.2))]⟩) ?_ (X := (List Int)) (W := Nat) (fun a v => ⟨[(3, .ar 30019 v eInt.k 0 ((a).length))], [(30019, v, .arr eInt.k 3 (eInt.E a))]⟩) (fun a14 w15 h => ?_) (fun a1 w2 st3 h => ?_)
 ·refine to_bind (to_own 30019 3 eInt.k 3 rfl fun v13 => ?_)
  exact to_le (s' := ⟨[(0, .str p0), (3, .ar 30019 v13 eInt.k 0 ((([] : List Int)).length)), (4, hI 1)], [(30019, v13, .arr eInt.k 3 (eInt.E ([] : List Int)))]⟩) (AS.le_of ⟨rfl, arl (by first | rfl | simp only [List.length_set, sortI_len, sortS_len]), rfl, trivial⟩ ⟨rfl, trivial⟩) ⟨v13, rfl⟩
 ·refine AW.rgs rfl fun K hK => mv rfl rfl (mv rfl rfl ?_)
  refine bf hK ⟨[(2, .ar 30019 w15 eInt.k 0 ((a14).length))], [(30019, w15, .arr eInt.k 3 (eInt.E a14))]⟩ ?_
  refine AW.to (to_frz 2 [(30019, w15, .arr eInt.k 3 (eInt.E a14))] ⟨[(2, slE eInt a14)], []⟩ ⟨⟨_, rfl, frz_slE eInt (l := a14) rfl fun _ _ => rfl⟩, trivial⟩ trivial ⟨rfl, trivial⟩ ⟨rfl, trivial⟩ ?_)
  refine AW.ret ?_
  have h := Option.some.inj h
  subst h
  exact ret_pure (hs := [slE eInt a14]) (.inr rfl) (resT rfl rfl) rfl (clean_slE fun _ _ => ⟨trivial, trivial⟩)
 refine AW.seq ?_
 refine AW.rgs rfl fun K hK => mv rfl rfl (mv rfl rfl (bv rfl (v_lenS rfl rfl ty9 rfl) (bv rfl (v_bin rfl rfl b_lss) ?_)))
 refine bf hK ⟨[(0, .str p0), (3, .ar 30019 w2 eInt.k 0 ((a1.2).length)), (4, hI a1.1), (8, .bool (decide (a1.1 < ((p0).length : Int))))], [(30019, w2, .arr eInt.k 3 (eInt.E a1.2))]⟩ ?_
 refine AW.cond rfl (fun hc => ?_) (fun hc => ?_)
 ·obtain ⟨hc, h⟩ := cT hc h
  refine AW.skip ?_
  refine AW.seqJ h (S := (List Int)) (V := Nat) (fun a v => ⟨[(0, .str p0), (3, .ar 30019 v eInt.k 0 ((a).length)), (4, hI a1.1)], [(30019, v, .arr eInt.k 3 (eInt.E a))]⟩) (fun a5 w6 h => ?_) (fun k7 h => ?_)
  ·refine AW.rg rfl fun K hK => mv rfl rfl (bv rfl (v_bin rfl rfl b_add) (mv rfl rfl ?_))
   refine b_nil (hK _ ?_)
   exact to_L ⟨(IntKind.wrap .i64 (a1.1 + 1), a5), w6, h, rfl⟩
  refine AW.block ?_
  refine AW.rgs rfl fun K hK => mv rfl rfl (mv rfl rfl (mv rfl rfl ?_))
  obtain ⟨h8, h⟩ := ifN h
  refine bv rfl (v_sliceS ty9 rfl rfl rfl h8) ?_
  obtain ⟨x9, h10, h⟩ := bS h
  refine b_op rfl (o_call rfl rfl rfl rfl (ACallD.pure0 (w_strings_HasSuffix h10)) ?_)
  refine bf hK ⟨[(0, .str p0), (3, .ar 30019 w2 eInt.k 0 ((a1.2).length)), (4, hI a1.1), (15, .bool x9)], [(30019, w2, .arr eInt.k 3 (eInt.E a1.2))]⟩ ?_
  refine AW.cond rfl (fun hc => ?_) (fun hc => ?_)
  ·have h := ifT hc h
   refine AW.rg rfl fun K hK => mv rfl rfl (mv rfl rfl ?_)
   refine b_op rfl (o_bsl rfl rfl (as_of (cs := [hI a1.1]) ty55 ty3 rfl rfl rfl rfl rfl) ?_)
   obtain ⟨h12, h⟩ := ifN h
   refine b_op rfl (o_appE eInt (l := a1.2) (m := [a1.1]) rfl rfl ty55 ty55 ty3 rfl rfl rfl rfl rfl h12 (fun v11 => ?_))
   refine mv rfl rfl ?_
   refine b_nil (hK _ ?_)
   exact to_L ⟨a1.2 ++ [a1.1], v11, h, rfl⟩
  have h := ifF (bF' hc) h
  refine AW.skip ?_
  exact to_L ⟨a1.2, w2, h, rfl⟩
 obtain ⟨hc, h⟩ := cF hc h
 refine AW.exit ?_
 exact to_L ⟨a1.2, w2, h, rfl⟩
theorem w_word_occurrences (p0 : List UInt8) (p1 : List UInt8) : Pure Tryz.prog 78 [.str p0, .str p1] (· = HV.fn (.func 98) [] [.fptr [.str p1] 0, .fptr [.str p0] 0]) := by
 refine Pure.of_body Tryz.func78 rfl rfl (lb rfl) fun hf => ?_
 unfold Tryz.f78
 dsimp only [enumS, Nat.reduceAdd]
 refine AW.rgs rfl fun K hK => b_op rfl (o_box rfl rfl rfl ?_)
 refine b_op rfl (o_box rfl rfl rfl ?_)
 refine mv rfl rfl ?_
 refine bf hK ⟨[(2, .fptr [.str p0] 0), (3, .fptr [.str p1] 0)], []⟩ ?_
 refine AW.rgs rfl fun K hK => bv rfl (v_func rfl rfl) (mv rfl rfl ?_)
 refine bf hK ⟨[(4, .fn (.func 98) [] [.fptr [.str p1] 0, .fptr [.str p0] 0])], []⟩ ?_
 refine AW.ret ?_
 exact ret_pure (hs := [.fn (.func 98) [] [.fptr [.str p1] 0, .fptr [.str p0] 0]]) (.inr rfl) (resT rfl rfl) rfl ⟨trivial, ⟨⟨trivial, trivial⟩, ⟨trivial, trivial⟩, trivial⟩⟩
theorem w_word_Find {p0 : List UInt8} {p1 : List UInt8} {r : (List (Int))} (h : m_word_Find p0 p1 = some r) : Pure Tryz.prog 51 [.str p0, .str p1] (· = slE eInt r) := by
 unfold m_word_Find at h
 refine Pure.of_body Tryz.func51 rfl rfl (lb rfl) fun hf => ?_
 unfold Tryz.f51
 dsimp only [enumS, Nat.reduceAdd]
 refine AW.rgs rfl fun K hK => mv rfl rfl ?_
 refine bf hK ⟨[(0, .str p0), (1, .str p1)], []⟩ ?_
 refine AW.rgs rfl fun K hK => b_op rfl (o_alloc (fid := 51) (zs := [.v (.slice none 0 0)]) 51005 rfl rfl ty55 rfl (fun v1 => ?_))
 refine bf hK ⟨[(0, .str p0), (1, .str p1), (5, .ptr 51005 v1 0)], [(51005, v1, .arr 1 55 [.v (.slice none 0 0)])]⟩ ?_
 refine AW.seq ?_
 refine AW.rgs rfl fun K hK => mv rfl rfl (mv rfl rfl ?_)
 refine b_op rfl (o_call rfl rfl rfl rfl (ACallD.pure0 (w_word_occurrences p0 p1)) ?_)
 refine bf hK ⟨[(5, .ptr 51005 v1 0), (9, .fn (.func 98) [] [.fptr [.str p1] 0, .fptr [.str p0] 0])], [(51005, v1, .arr 1 55 [.v (.slice none 0 0)])]⟩ ?_
 refine AW.block ?_
 refine AW.to (to_ownC 51014 51005 v1 1 0 eInt.k 3 55 rfl rfl (by decide) fun v2 => ?_)
 refine AW.to (to_le (s' := ⟨[(5, .ptr 51005 v1 0), (9, .fn (.func 98) [] [.fptr [.str p1] 0, .fptr [.str p0] 0])], [(51005, v1, .arr 1 55 [.ar 51014 v2 eInt.k 0 ((([] : List Int)).length)]), (51014, v2, .arr eInt.k 3 (eInt.E ([] : List Int)))]⟩) (AS.le_of ⟨rfl, rfl, trivial⟩ ⟨hle rfl (by first | rfl | simp only [List.length_set, sortI_len, sortS_len]), rfl, trivial⟩) ?_)
 obtain ⟨L3, h4, h⟩ := bS h
 refine AW.rangeY (c := .ret) 51900 (fun x => [hI x]) h (by first | exact up_then | exact up_to) rfl (iy_word_occurrences h4) (S := (List Int)) (V := Nat) (fun a v => [(51005, v1, .arr 1 55 [.ar 51014 v eInt.k 0 ((a).length)]), (51014, v, .arr eInt.k 3 (eInt.E a))]) v2 (X := Unit) (W := Unit) (fun _ _ => []) (fun _ _ => rfl) (fun _ _ => rfl) rfl (fun _ => rfl) (fun a13 w14 h => ?_) (fun a15 w16 h => ?_) (fun Lo l10 v8 a5 x7 w6 st9 h => ?_)
 ·refine AW.rgs rfl fun K hK => bv rfl (v_loadP ty55 rfl rfl (l_lit rfl rfl)) (mv rfl rfl ?_)
  refine bf hK ⟨[(4, .ar 51014 w14 eInt.k 0 ((a13).length))], [(51014, w14, .arr eInt.k 3 (eInt.E a13))]⟩ ?_
  refine AW.to (to_frz 2 [(51014, w14, .arr eInt.k 3 (eInt.E a13))] ⟨[(4, slE eInt a13)], []⟩ ⟨⟨_, rfl, frz_slE eInt (l := a13) rfl fun _ _ => rfl⟩, trivial⟩ trivial ⟨rfl, trivial⟩ ⟨rfl, trivial⟩ ?_)
  refine AW.ret ?_
  have h := Option.some.inj h
  subst h
  exact ret_pure (hs := [slE eInt a13]) (.inr rfl) (resT rfl rfl) rfl (clean_slE fun _ _ => ⟨trivial, trivial⟩)
 ·cases h
 refine AW.rg rfl fun K hK => mv rfl rfl ?_
 refine b_nil (hK _ ?_)
 refine ⟨rfl, rfl, ?_⟩
 refine AW.block ?_
 refine AW.rg rfl fun K hK => bv rfl (v_loadP ty55 rfl rfl (l_lit rfl rfl)) (mv rfl rfl ?_)
 refine b_op rfl (o_bsl rfl rfl (as_of (cs := [hI x7]) ty55 ty3 rfl rfl rfl rfl rfl) ?_)
 obtain ⟨h12, h⟩ := ifN h
 refine b_op rfl (o_appE eInt (l := a5) (m := [x7]) rfl rfl ty55 ty55 ty3 rfl rfl rfl rfl rfl h12 (fun v11 => ?_))
 refine b_op rfl (o_store (cs := [.ar 51014 v11 eInt.k 0 ((a5 ++ [x7]).length)]) (zs := [.ar 51014 v11 eInt.k 0 ((a5 ++ [x7]).length)]) rfl rfl rfl ty55 rfl rfl rfl rfl rfl ?_)
 refine b_nil (hK _ ?_)
 exact ⟨a5 ++ [x7], v11, h, (AS.le_of trivial ⟨rfl, rfl, rfl, trivial⟩)⟩
theorem w_syncmark_Occurs {p0 : List UInt8} {p1 : List UInt8} {r : (List (Int))} (h : m_syncmark_Occurs p0 p1 = some r) : Pure Tryz.prog 31 [.str p0, .str p1] (· = slE eInt r) := by
 unfold m_syncmark_Occurs at h
 refine Pure.of_body Tryz.func31 rfl rfl (lb rfl) fun hf => ?_
 unfold Tryz.f31
 dsimp only [enumS, Nat.reduceAdd]
 refine AW.rgs rfl fun K hK => mv rfl rfl ?_
 refine bf hK ⟨[(0, .str p0), (1, .str p1)], []⟩ ?_
 refine AW.rgs rfl fun K hK => mv rfl rfl (mv rfl rfl ?_)
 obtain ⟨x1, h2, h⟩ := bS h
 refine b_op rfl (o_call rfl rfl rfl rfl (ACallD.pure0 (w_word_Find h2)) ?_)
 refine mv rfl rfl ?_
 refine bf hK ⟨[(4, slE eInt x1)], []⟩ ?_
 refine AW.ret ?_
 have h := Option.some.inj h
 subst h
 exact ret_pure (hs := [slE eInt x1]) (.inr rfl) (resT rfl rfl) rfl (clean_slE fun _ _ => ⟨trivial, trivial⟩)
theorem w_law54_awakeG  {r : Bool} (h : m_law54_awakeG  = some r) : Pure Tryz.prog 9 [] (· = HV.bool r) := by
 unfold m_law54_awakeG at h
 refine Pure.of_body Tryz.func9 rfl rfl (lb rfl) fun hf => ?_
 unfold Tryz.f9
 dsimp only [enumS, Nat.reduceAdd]
 refine AW.rgs rfl fun K hK => mv rfl rfl ?_
 refine bf hK ⟨[], []⟩ ?_
 refine AW.rgs rfl fun K hK => b_op rfl (o_build (cs := [hI 0, hI 0, hI 0]) rfl (bl_of ty44 rfl rfl rfl rfl) ?_)
 refine b_op rfl (o_build (cs := [hI 0, hI 1, hI 1]) rfl (bl_of ty44 rfl rfl rfl rfl) ?_)
 refine b_op rfl (o_build (cs := [hI 1, hI 0, hI 0]) rfl (bl_of ty44 rfl rfl rfl rfl) ?_)
 refine b_op rfl (o_bsl rfl rfl (as_of (cs := [hI 0, hI 0, hI 0, hI 0, hI 1, hI 1, hI 1, hI 0, hI 0]) ty22 ty44 rfl rfl rfl rfl rfl) ?_)
 refine b_op rfl (o_build (cs := [hI 2, hI 2, slE eFromLabelTo [(0, 0, 0), (0, 1, 1), (1, 0, 0)]]) rfl (bl_of ty24 rfl rfl rfl rfl) ?_)
 refine b_op rfl (o_alloc (fid := 9) (zs := [hI 0, hI 0, .v (.slice none 0 0)]) 9001 rfl rfl ty24 rfl (fun v1 => ?_))
 refine b_op rfl (o_store (cs := [hI 2, hI 2, slE eFromLabelTo [(0, 0, 0), (0, 1, 1), (1, 0, 0)]]) (zs := [hI 2, hI 2, slE eFromLabelTo [(0, 0, 0), (0, 1, 1), (1, 0, 0)]]) rfl rfl rfl ty24 rfl rfl rfl rfl rfl ?_)
 refine bf hK ⟨[(1, .ptr 9001 v1 0)], [(9001, v1, .arr 3 24 [hI 2, hI 2, slE eFromLabelTo [(0, 0, 0), (0, 1, 1), (1, 0, 0)]])]⟩ ?_
 refine AW.rgs rfl fun K hK => bv rfl (v_loadP ty24 rfl rfl (l_litA rfl (lb rfl) rfl)) ?_
 obtain ⟨x2, h3, h⟩ := bS h
 refine b_op rfl (o_call rfl rfl rfl rfl (ACallD.pure0 (w_syncmark_Valid h3)) ?_)
 refine mv rfl rfl (bv rfl (v_extract rfl rfl) (bv rfl (v_extract rfl rfl) (mv rfl rfl (mv rfl rfl ?_))))
 refine bf hK ⟨[(1, .ptr 9001 v1 0), (2, .bool x2.1), (3, hI x2.2)], [(9001, v1, .arr 3 24 [hI 2, hI 2, slE eFromLabelTo [(0, 0, 0), (0, 1, 1), (1, 0, 0)]])]⟩ ?_
 refine AW.rgs rfl fun K hK => bv rfl (v_loadP ty24 rfl rfl (l_litA rfl (lb rfl) rfl)) ?_
 obtain ⟨x4, h5, h⟩ := bS h
 refine b_op rfl (o_call rfl rfl rfl rfl (ACallD.pure0 (w_syncmark_Bad h5)) ?_)
 refine mv rfl rfl (bv rfl (v_extract rfl rfl) (bv rfl (v_extract rfl rfl) (bv rfl (v_extract rfl rfl) (mv rfl rfl (mv rfl rfl ?_)))))
 refine mv rfl rfl ?_
 refine bf hK ⟨[(1, .ptr 9001 v1 0), (2, .bool x2.1), (3, hI x2.2), (4, .str x4.1), (5, .bool x4.2.1), (6, hI x4.2.2)], [(9001, v1, .arr 3 24 [hI 2, hI 2, slE eFromLabelTo [(0, 0, 0), (0, 1, 1), (1, 0, 0)]])]⟩ ?_
 refine AW.rgs rfl fun K hK => bv rfl (v_loadP ty24 rfl rfl (l_litA rfl (lb rfl) rfl)) ?_
 obtain ⟨x6, h7, h⟩ := bS h
 refine b_op rfl (o_call rfl rfl rfl rfl (ACallD.pure0 (w_syncmark_Valid h7)) ?_)
 refine mv rfl rfl (bv rfl (v_extract rfl rfl) (bv rfl (v_extract rfl rfl) (mv rfl rfl (mv rfl rfl ?_))))
 refine bf hK ⟨[(1, .ptr 9001 v1 0), (2, .bool x2.1), (3, hI x2.2), (4, .str x4.1), (5, .bool x4.2.1), (6, hI x4.2.2), (7, .bool x6.1), (8, hI x6.2)], [(9001, v1, .arr 3 24 [hI 2, hI 2, slE eFromLabelTo [(0, 0, 0), (0, 1, 1), (1, 0, 0)]])]⟩ ?_
 refine AW.rgs rfl fun K hK => bv rfl (v_loadP ty24 rfl rfl (l_litA rfl (lb rfl) rfl)) ?_
 obtain ⟨x8, h9, h⟩ := bS h
 refine b_op rfl (o_call rfl rfl rfl rfl (ACallD.pure0 (w_syncmark_Free h9)) ?_)
 refine mv rfl rfl (bv rfl (v_extract rfl rfl) (bv rfl (v_extract rfl rfl) (mv rfl rfl (mv rfl rfl ?_))))
 refine bf hK ⟨[(2, .bool x2.1), (3, hI x2.2), (4, .str x4.1), (5, .bool x4.2.1), (6, hI x4.2.2), (7, .bool x6.1), (8, hI x6.2), (9, .bool x8.1), (10, hI x8.2)], []⟩ ?_
 refine AW.seqJ h (S := Bool) (V := Unit) (fun a v => ⟨[(0, .bool a)], []⟩) (fun a10 w11 h => ?_) (fun k12 h => ?_)
 ·refine AW.ret ?_
  have h := Option.some.inj h
  subst h
  exact ret_pure (hs := [.bool a10]) (.inr rfl) (resT rfl rfl) rfl trivial
 refine AW.rg rfl fun K hK => mv rfl rfl (bv rfl (v_bin rfl rfl b_eql) (mv rfl rfl ?_))
 by_cases hg30 : x2.2 = 0
 ·have h := ifT hg30 h
  refine b_T rfl rfl rfl rfl (decide_eq_true hg30) (o_val rfl (mv_val rfl rfl).2 ?_)
  refine b_T rfl rfl rfl rfl rfl (o_val rfl (v_bin rfl rfl b_eql) ?_)
  refine bv rfl (v_pickT rfl rfl rfl) (mv rfl rfl ?_)
  by_cases hg29 : x4.2.2 = 0
  ·have h := ifT hg29 h
   refine b_T rfl rfl rfl rfl (decide_eq_true hg29) (o_val rfl (mv_val rfl rfl).2 ?_)
   refine b_T rfl rfl rfl rfl rfl (o_val rfl (v_bin rfl rfl b_eql) ?_)
   refine bv rfl (v_pickT rfl rfl rfl) (mv rfl rfl ?_)
   by_cases hg28 : x6.2 = 0
   ·have h := ifT hg28 h
    refine b_T rfl rfl rfl rfl (decide_eq_true hg28) (o_val rfl (mv_val rfl rfl).2 ?_)
    refine b_T rfl rfl rfl rfl rfl (o_val rfl (v_bin rfl rfl b_eql) ?_)
    refine bv rfl (v_pickT rfl rfl rfl) (mv rfl rfl ?_)
    by_cases hg27 : x8.2 = 0
    ·have h := ifT hg27 h
     refine b_T rfl rfl rfl rfl (decide_eq_true hg27) (o_val rfl (mv_val rfl rfl).2 ?_)
     refine b_T rfl rfl rfl rfl rfl (o_val rfl (v_not rfl) ?_)
     refine bv rfl (v_pickT rfl rfl rfl) (mv rfl rfl ?_)
     by_cases hg26 : (!x2.1) = true
     ·have h := ifT hg26 h
      refine b_T rfl rfl rfl rfl hg26 (o_val rfl (mv_val rfl rfl).2 ?_)
      refine b_T rfl rfl rfl rfl rfl (o_val rfl (v_bin rfl rfl b_seql) ?_)
      refine bv rfl (v_pickT rfl rfl rfl) (mv rfl rfl ?_)
      by_cases hg25 : x4.1 = [49]
      ·have h := ifT hg25 h
       refine b_T rfl rfl rfl rfl (decide_eq_true hg25) (o_val rfl (mv_val rfl rfl).2 ?_)
       refine bv rfl (v_pickT rfl rfl rfl) (mv rfl rfl ?_)
       by_cases hg24 : x4.2.1 = true
       ·have h := ifT hg24 h
        refine b_T rfl rfl rfl rfl hg24 (o_val rfl (mv_val rfl rfl).2 ?_)
        refine bv rfl (v_pickT rfl rfl rfl) (mv rfl rfl ?_)
        by_cases hg23 : x6.1 = true
        ·have h := ifT hg23 h
         refine b_T rfl rfl rfl rfl hg23 (o_val rfl (mv_val rfl rfl).2 ?_)
         refine bv rfl (v_pickT rfl rfl rfl) (mv rfl rfl ?_)
         by_cases hg22 : x8.1 = true
         ·have h := ifT hg22 h
          obtain ⟨x13, h14, h⟩ := bS h
          refine b_T rfl rfl rfl rfl hg22 (o_call rfl rfl rfl rfl (ACallD.pure0 (w_syncmark_Overlaps h14)) ?_)
          refine b_T rfl rfl rfl rfl rfl (o_bsl rfl rfl (as_of (cs := [hI 1]) ty55 ty3 rfl rfl rfl rfl rfl) ?_)
          obtain ⟨x15, h16, h⟩ := bS h
          refine b_T rfl rfl rfl rfl rfl (o_call rfl rfl rfl rfl (ACallD.pure0 (w_slices_Equal_Lint_int h16)) ?_)
          refine bv rfl (v_pickT rfl rfl rfl) (mv rfl rfl ?_)
          by_cases hg21 : x15 = true
          ·have h := ifT hg21 h
           obtain ⟨x17, h18, h⟩ := bS h
           refine b_T rfl rfl rfl rfl hg21 (o_call rfl rfl rfl rfl (ACallD.pure0 (w_syncmark_Occurs h18)) ?_)
           refine b_T rfl rfl rfl rfl rfl (o_bsl rfl rfl (as_of (cs := [hI 0, hI 1, hI 2, hI 3]) ty55 ty3 rfl rfl rfl rfl rfl) ?_)
           obtain ⟨x19, h20, h⟩ := bS h
           refine b_T rfl rfl rfl rfl rfl (o_call rfl rfl rfl rfl (ACallD.pure0 (w_slices_Equal_Lint_int h20)) ?_)
           refine bv rfl (v_pickT rfl rfl rfl) (mv rfl rfl ?_)
           refine b_nil (hK _ ?_)
           exact to_L ⟨x19, (), h, rfl⟩
          have h := ifF hg21 h
          refine b_F rfl rfl rfl rfl rfl (bF hg21) ?_
          refine b_F rfl rfl rfl rfl rfl rfl ?_
          refine b_F rfl rfl rfl rfl rfl rfl ?_
          refine bv rfl (v_pickF rfl rfl rfl) (mv rfl rfl ?_)
          refine b_nil (hK _ ?_)
          exact to_L ⟨false, (), h, rfl⟩
         have h := ifF hg22 h
         refine b_F rfl rfl rfl rfl rfl (bF hg22) ?_
         refine b_F rfl rfl rfl rfl rfl rfl ?_
         refine b_F rfl rfl rfl rfl rfl rfl ?_
         refine bv rfl (v_pickF rfl rfl rfl) (mv rfl rfl ?_)
         refine b_F rfl rfl rfl rfl rfl rfl ?_
         refine b_F rfl rfl rfl rfl rfl rfl ?_
         refine b_F rfl rfl rfl rfl rfl rfl ?_
         refine bv rfl (v_pickF rfl rfl rfl) (mv rfl rfl ?_)
         refine b_nil (hK _ ?_)
         exact to_L ⟨false, (), h, rfl⟩
        have h := ifF hg23 h
        refine b_F rfl rfl rfl rfl rfl (bF hg23) ?_
        refine bv rfl (v_pickF rfl rfl rfl) (mv rfl rfl ?_)
        refine b_F rfl rfl rfl rfl rfl rfl ?_
        refine b_F rfl rfl rfl rfl rfl rfl ?_
        refine b_F rfl rfl rfl rfl rfl rfl ?_
        refine bv rfl (v_pickF rfl rfl rfl) (mv rfl rfl ?_)
        refine b_F rfl rfl rfl rfl rfl rfl ?_
        refine b_F rfl rfl rfl rfl rfl rfl ?_
        refine b_F rfl rfl rfl rfl rfl rfl ?_
        refine bv rfl (v_pickF rfl rfl rfl) (mv rfl rfl ?_)
        refine b_nil (hK _ ?_)
        exact to_L ⟨false, (), h, rfl⟩
       have h := ifF hg24 h
       refine b_F rfl rfl rfl rfl rfl (bF hg24) ?_
       refine bv rfl (v_pickF rfl rfl rfl) (mv rfl rfl ?_)
       refine b_F rfl rfl rfl rfl rfl rfl ?_
       refine bv rfl (v_pickF rfl rfl rfl) (mv rfl rfl ?_)
       refine b_F rfl rfl rfl rfl rfl rfl ?_
       refine b_F rfl rfl rfl rfl rfl rfl ?_
       refine b_F rfl rfl rfl rfl rfl rfl ?_
       refine bv rfl (v_pickF rfl rfl rfl) (mv rfl rfl ?_)
       refine b_F rfl rfl rfl rfl rfl rfl ?_
       refine b_F rfl rfl rfl rfl rfl rfl ?_
       refine b_F rfl rfl rfl rfl rfl rfl ?_
       refine bv rfl (v_pickF rfl rfl rfl) (mv rfl rfl ?_)
       refine b_nil (hK _ ?_)
       exact to_L ⟨false, (), h, rfl⟩
      have h := ifF hg25 h
      refine b_F rfl rfl rfl rfl rfl (decide_eq_false hg25) ?_
      refine bv rfl (v_pickF rfl rfl rfl) (mv rfl rfl ?_)
      refine b_F rfl rfl rfl rfl rfl rfl ?_
      refine bv rfl (v_pickF rfl rfl rfl) (mv rfl rfl ?_)
      refine b_F rfl rfl rfl rfl rfl rfl ?_
      refine bv rfl (v_pickF rfl rfl rfl) (mv rfl rfl ?_)
      refine b_F rfl rfl rfl rfl rfl rfl ?_
      refine b_F rfl rfl rfl rfl rfl rfl ?_
      refine b_F rfl rfl rfl rfl rfl rfl ?_
      refine bv rfl (v_pickF rfl rfl rfl) (mv rfl rfl ?_)
      refine b_F rfl rfl rfl rfl rfl rfl ?_
      refine b_F rfl rfl rfl rfl rfl rfl ?_
      refine b_F rfl rfl rfl rfl rfl rfl ?_
      refine bv rfl (v_pickF rfl rfl rfl) (mv rfl rfl ?_)
      refine b_nil (hK _ ?_)
      exact to_L ⟨false, (), h, rfl⟩
     have h := ifF hg26 h
     refine b_F rfl rfl rfl rfl rfl (bF hg26) ?_
     refine b_F rfl rfl rfl rfl rfl rfl ?_
     refine bv rfl (v_pickF rfl rfl rfl) (mv rfl rfl ?_)
     refine b_F rfl rfl rfl rfl rfl rfl ?_
     refine bv rfl (v_pickF rfl rfl rfl) (mv rfl rfl ?_)
     refine b_F rfl rfl rfl rfl rfl rfl ?_
     refine bv rfl (v_pickF rfl rfl rfl) (mv rfl rfl ?_)
     refine b_F rfl rfl rfl rfl rfl rfl ?_
     refine bv rfl (v_pickF rfl rfl rfl) (mv rfl rfl ?_)
     refine b_F rfl rfl rfl rfl rfl rfl ?_
     refine b_F rfl rfl rfl rfl rfl rfl ?_
     refine b_F rfl rfl rfl rfl rfl rfl ?_
     refine bv rfl (v_pickF rfl rfl rfl) (mv rfl rfl ?_)
     refine b_F rfl rfl rfl rfl rfl rfl ?_
     refine b_F rfl rfl rfl rfl rfl rfl ?_
     refine b_F rfl rfl rfl rfl rfl rfl ?_
     refine bv rfl (v_pickF rfl rfl rfl) (mv rfl rfl ?_)
     refine b_nil (hK _ ?_)
     exact to_L ⟨false, (), h, rfl⟩
    have h := ifF hg27 h
    refine b_F rfl rfl rfl rfl rfl (decide_eq_false hg27) ?_
    refine b_F rfl rfl rfl rfl rfl rfl ?_
    refine bv rfl (v_pickF rfl rfl rfl) (mv rfl rfl ?_)
    refine b_F rfl rfl rfl rfl rfl rfl ?_
    refine b_F rfl rfl rfl rfl rfl rfl ?_
    refine bv rfl (v_pickF rfl rfl rfl) (mv rfl rfl ?_)
    refine b_F rfl rfl rfl rfl rfl rfl ?_
    refine bv rfl (v_pickF rfl rfl rfl) (mv rfl rfl ?_)
    refine b_F rfl rfl rfl rfl rfl rfl ?_
    refine bv rfl (v_pickF rfl rfl rfl) (mv rfl rfl ?_)
    refine b_F rfl rfl rfl rfl rfl rfl ?_
    refine bv rfl (v_pickF rfl rfl rfl) (mv rfl rfl ?_)
    refine b_F rfl rfl rfl rfl rfl rfl ?_
    refine b_F rfl rfl rfl rfl rfl rfl ?_
    refine b_F rfl rfl rfl rfl rfl rfl ?_
    refine bv rfl (v_pickF rfl rfl rfl) (mv rfl rfl ?_)
    refine b_F rfl rfl rfl rfl rfl rfl ?_
    refine b_F rfl rfl rfl rfl rfl rfl ?_
    refine b_F rfl rfl rfl rfl rfl rfl ?_
    refine bv rfl (v_pickF rfl rfl rfl) (mv rfl rfl ?_)
    refine b_nil (hK _ ?_)
    exact to_L ⟨false, (), h, rfl⟩
   have h := ifF hg28 h
   refine b_F rfl rfl rfl rfl rfl (decide_eq_false hg28) ?_
   refine b_F rfl rfl rfl rfl rfl rfl ?_
   refine bv rfl (v_pickF rfl rfl rfl) (mv rfl rfl ?_)
   refine b_F rfl rfl rfl rfl rfl rfl ?_
   refine b_F rfl rfl rfl rfl rfl rfl ?_
   refine bv rfl (v_pickF rfl rfl rfl) (mv rfl rfl ?_)
   refine b_F rfl rfl rfl rfl rfl rfl ?_
   refine b_F rfl rfl rfl rfl rfl rfl ?_
   refine bv rfl (v_pickF rfl rfl rfl) (mv rfl rfl ?_)
   refine b_F rfl rfl rfl rfl rfl rfl ?_
   refine bv rfl (v_pickF rfl rfl rfl) (mv rfl rfl ?_)
   refine b_F rfl rfl rfl rfl rfl rfl ?_
   refine bv rfl (v_pickF rfl rfl rfl) (mv rfl rfl ?_)
   refine b_F rfl rfl rfl rfl rfl rfl ?_
   refine bv rfl (v_pickF rfl rfl rfl) (mv rfl rfl ?_)
   refine b_F rfl rfl rfl rfl rfl rfl ?_
   refine b_F rfl rfl rfl rfl rfl rfl ?_
   refine b_F rfl rfl rfl rfl rfl rfl ?_
   refine bv rfl (v_pickF rfl rfl rfl) (mv rfl rfl ?_)
   refine b_F rfl rfl rfl rfl rfl rfl ?_
   refine b_F rfl rfl rfl rfl rfl rfl ?_
   refine b_F rfl rfl rfl rfl rfl rfl ?_
   refine bv rfl (v_pickF rfl rfl rfl) (mv rfl rfl ?_)
   refine b_nil (hK _ ?_)
   exact to_L ⟨false, (), h, rfl⟩
  have h := ifF hg29 h
  refine b_F rfl rfl rfl rfl rfl (decide_eq_false hg29) ?_
  refine b_F rfl rfl rfl rfl rfl rfl ?_
  refine bv rfl (v_pickF rfl rfl rfl) (mv rfl rfl ?_)
  refine b_F rfl rfl rfl rfl rfl rfl ?_
  refine b_F rfl rfl rfl rfl rfl rfl ?_
  refine bv rfl (v_pickF rfl rfl rfl) (mv rfl rfl ?_)
  refine b_F rfl rfl rfl rfl rfl rfl ?_
  refine b_F rfl rfl rfl rfl rfl rfl ?_
  refine bv rfl (v_pickF rfl rfl rfl) (mv rfl rfl ?_)
  refine b_F rfl rfl rfl rfl rfl rfl ?_
  refine b_F rfl rfl rfl rfl rfl rfl ?_
  refine bv rfl (v_pickF rfl rfl rfl) (mv rfl rfl ?_)
  refine b_F rfl rfl rfl rfl rfl rfl ?_
  refine bv rfl (v_pickF rfl rfl rfl) (mv rfl rfl ?_)
  refine b_F rfl rfl rfl rfl rfl rfl ?_
  refine bv rfl (v_pickF rfl rfl rfl) (mv rfl rfl ?_)
  refine b_F rfl rfl rfl rfl rfl rfl ?_
  refine bv rfl (v_pickF rfl rfl rfl) (mv rfl rfl ?_)
  refine b_F rfl rfl rfl rfl rfl rfl ?_
  refine b_F rfl rfl rfl rfl rfl rfl ?_
  refine b_F rfl rfl rfl rfl rfl rfl ?_
  refine bv rfl (v_pickF rfl rfl rfl) (mv rfl rfl ?_)
  refine b_F rfl rfl rfl rfl rfl rfl ?_
  refine b_F rfl rfl rfl rfl rfl rfl ?_
  refine b_F rfl rfl rfl rfl rfl rfl ?_
  refine bv rfl (v_pickF rfl rfl rfl) (mv rfl rfl ?_)
  refine b_nil (hK _ ?_)
  exact to_L ⟨false, (), h, rfl⟩
 have h := ifF hg30 h
 refine b_F rfl rfl rfl rfl rfl (decide_eq_false hg30) ?_
 refine b_F rfl rfl rfl rfl rfl rfl ?_
 refine bv rfl (v_pickF rfl rfl rfl) (mv rfl rfl ?_)
 refine b_F rfl rfl rfl rfl rfl rfl ?_
 refine b_F rfl rfl rfl rfl rfl rfl ?_
 refine bv rfl (v_pickF rfl rfl rfl) (mv rfl rfl ?_)
 refine b_F rfl rfl rfl rfl rfl rfl ?_
 refine b_F rfl rfl rfl rfl rfl rfl ?_
 refine bv rfl (v_pickF rfl rfl rfl) (mv rfl rfl ?_)
 refine b_F rfl rfl rfl rfl rfl rfl ?_
 refine b_F rfl rfl rfl rfl rfl rfl ?_
 refine bv rfl (v_pickF rfl rfl rfl) (mv rfl rfl ?_)
 refine b_F rfl rfl rfl rfl rfl rfl ?_
 refine b_F rfl rfl rfl rfl rfl rfl ?_
 refine bv rfl (v_pickF rfl rfl rfl) (mv rfl rfl ?_)
 refine b_F rfl rfl rfl rfl rfl rfl ?_
 refine bv rfl (v_pickF rfl rfl rfl) (mv rfl rfl ?_)
 refine b_F rfl rfl rfl rfl rfl rfl ?_
 refine bv rfl (v_pickF rfl rfl rfl) (mv rfl rfl ?_)
 refine b_F rfl rfl rfl rfl rfl rfl ?_
 refine bv rfl (v_pickF rfl rfl rfl) (mv rfl rfl ?_)
 refine b_F rfl rfl rfl rfl rfl rfl ?_
 refine b_F rfl rfl rfl rfl rfl rfl ?_
 refine b_F rfl rfl rfl rfl rfl rfl ?_
 refine bv rfl (v_pickF rfl rfl rfl) (mv rfl rfl ?_)
 refine b_F rfl rfl rfl rfl rfl rfl ?_
 refine b_F rfl rfl rfl rfl rfl rfl ?_
 refine b_F rfl rfl rfl rfl rfl rfl ?_
 refine bv rfl (v_pickF rfl rfl rfl) (mv rfl rfl ?_)
 refine b_nil (hK _ ?_)
 exact to_L ⟨false, (), h, rfl⟩
end Go.AW

namespace Go.AW
open Go
set_option linter.unusedSimpArgs false
set_option linter.unusedVariables false
section
variable {g : Gr}
def canB (g : Gr) : List UInt8 → List Bool
 | [] => List.replicate g.2.1.toNat true
 | c :: w => (upto g.2.1).map fun s => g.2.2.any fun x => decide (x.1 = s ∧ x.2.1 = lab c) && (canB g w).getD x.2.2.toNat false
def canR (g : Gr) (w : List UInt8) (s : Int) : Prop := (canB g w).getD s.toNat false = true
theorem canR_nil {s : Int} (h0 : 0 ≤ s) (h1 : s < g.2.1) : canR g [] s := by
 have : s.toNat < g.2.1.toNat := by omega
 simp [canR, canB, List.getD, this]
theorem upto_get {n : Int} {i : Nat} (h : i < (upto n).length) : (upto n)[i] = (i : Int) := by simp [upto]
theorem canR_cons {c : UInt8} {w : List UInt8} {s : Int} (h0 : 0 ≤ s) (h1 : s < g.2.1) : canR g (c :: w) s ↔ ∃ x ∈ g.2.2, x.1 = s ∧ x.2.1 = lab c ∧ canR g w x.2.2 := by
 have hs : s.toNat < (upto g.2.1).length := by rw [upto_len]; omega
 simp only [canR, canB]
 rw [List.getD_eq_getElem?_getD, List.getElem?_map, List.getElem?_eq_getElem hs, upto_get]
 simp only [Option.map_some, Option.getD_some, List.any_eq_true, Bool.and_eq_true, decide_eq_true_eq]
 have e : ((s.toNat : Nat) : Int) = s := by omega
 rw [e]
 exact ⟨fun ⟨x, hx, ⟨h2, h3⟩, h4⟩ => ⟨x, hx, h2, h3, h4⟩, fun ⟨x, hx, h2, h3, h4⟩ => ⟨x, hx, ⟨h2, h3⟩, h4⟩⟩
theorem can_iff (hv : VG g) : ∀ (w : List UInt8) {a : List Int} (ha : SetOk g a), endsL g a w ≠ [] ↔ ∃ s ∈ a, canR g w s
 | [], a, ha => by
  constructor
  ·intro h
   obtain ⟨s, hs⟩ := List.exists_mem_of_ne_nil a h
   obtain ⟨h0, h1⟩ := ha.2 s hs
   exact ⟨s, hs, canR_nil h0 h1⟩
  ·rintro ⟨s, hs, _⟩ h
   rw [show a = [] from h] at hs
   cases hs
 | c :: w, a, ha => by
  rw [endsL_cons, can_iff hv w (stepL_ok g a _)]
  constructor
  ·rintro ⟨t, ht, hc⟩
   obtain ⟨e, he, h1, h2, h3⟩ := (mem_stepL hv).1 ht
   obtain ⟨h4, h5⟩ := ha.2 _ h3
   exact ⟨e.1, h3, (canR_cons h4 h5).2 ⟨e, he, rfl, h2, by rw [h1]; exact hc⟩⟩
  ·rintro ⟨s, hs, hc⟩
   obtain ⟨h4, h5⟩ := ha.2 _ hs
   obtain ⟨x, hx, h1, h2, h3⟩ := (canR_cons h4 h5).1 hc
   exact ⟨x.2.2, (mem_stepL hv).2 ⟨x, hx, rfl, h2, by rw [h1]; exact hs⟩, h3⟩
def okE (g : Gr) (w : List UInt8) (c : UInt8) (prev : Option Int) (x : Ed) : Bool := decide (x.2.1 = lab c) && (canB g w).getD x.2.2.toNat false && (match prev with
 | none => true
 | some s => decide (x.1 = s))
def pick (g : Gr) (w : List UInt8) (c : UInt8) (prev : Option Int) : Nat := g.2.2.findIdx (okE g w c prev)
end
end Go.AW
namespace Go.AW
open Go
set_option linter.unusedSimpArgs false
set_option linter.unusedVariables false
section
variable {g : Gr}
end
end Go.AW
namespace Go.AW
open Go
set_option linter.unusedSimpArgs false
set_option linter.unusedVariables false
section
variable {g : Gr}
theorem loopN_eq {S X : Type} {body : S → Option (Stp S X)} (x0 : X) (n : Nat) (I : Nat → S → Prop)
  (step : ∀ i s, i < n → I i s → (∃ s', body s = some (.next s') ∧ I (i + 1) s') ∨ ∃ x, body s = some (.exit x) ∧ x = x0) (fin : ∀ s, I n s → ∃ x, body s = some (.exit x) ∧ x = x0) {s0 : S} (h : I 0 s0) : loopW body s0 = some x0 := by
 obtain ⟨x, hx, rfl⟩ := loopN n I step fin 0 s0 (Nat.zero_le _) h
 exact hx
end
end Go.AW
namespace Go.AW
open Go
set_option linter.unusedSimpArgs false
set_option linter.unusedVariables false
def allW (cs : List UInt8) : Nat → List (List UInt8)
 | 0 => [[]]
 | n + 1 => (allW cs n).flatMap fun w => cs.map fun c => w ++ [c]
theorem mem_allW {cs : List UInt8} : ∀ {n : Nat} {w : List UInt8}, w ∈ allW cs n ↔ w.length = n ∧ ∀ c ∈ w, c ∈ cs
 | 0, w => by
  simp only [allW, List.mem_singleton]
  constructor
  ·rintro rfl; simp
  ·rintro ⟨h, _⟩; exact List.eq_nil_of_length_eq_zero h
 | n + 1, w => by
  simp only [allW, List.mem_flatMap, List.mem_map]
  constructor
  ·rintro ⟨u, hu, c, hc, rfl⟩
   obtain ⟨h1, h2⟩ := mem_allW.1 hu
   refine ⟨by simp [h1], fun d hd => ?_⟩
   rcases List.mem_append.1 hd with h | h
   ·exact h2 d h
   ·simp at h; subst h; exact hc
  ·rintro ⟨h1, h2⟩
   rcases List.eq_nil_or_concat w with rfl | ⟨v, c, rfl⟩
   ·simp at h1
   ·rw [List.concat_eq_append] at h1 h2 ⊢
    exact ⟨v, mem_allW.2 ⟨by simpa using h1, fun d hd => h2 d (List.mem_append_left _ hd)⟩, c, h2 c (by simp), rfl⟩
theorem allW_len (cs : List UInt8) : ∀ n, (allW cs n).length = cs.length ^ n
 | 0 => rfl
 | n + 1 => by
  have h : ∀ l : List (List UInt8), (l.flatMap fun w => cs.map fun c => w ++ [c]).length = l.length * cs.length := by
   intro l
   induction l with
   | nil => simp
   | cons x l ih => rw [List.flatMap_cons, List.length_append, ih, List.length_map, List.length_cons, Nat.succ_mul]; omega
  simp only [allW]
  rw [h, allW_len cs n, Nat.pow_succ]
theorem allW_asc {cs : List UInt8} (hcs : cs.Pairwise (· < ·)) : ∀ n, (allW cs n).Pairwise (· < ·)
 | 0 => by simp [allW]
 | n + 1 => by
  simp only [allW]
  rw [List.pairwise_flatMap]
  refine ⟨fun x hx => ?_, (allW_asc hcs n).imp_of_mem fun {x y} hx hy hxy a ha b hb => ?_⟩
  ·rw [List.pairwise_map]
   exact hcs.imp fun hcd => app_lt _ (List.cons_lt_cons_iff.2 (.inl hcd))
  ·obtain ⟨c, _, rfl⟩ := List.mem_map.1 ha
   obtain ⟨d, _, rfl⟩ := List.mem_map.1 hb
   exact lt_app _ _ (by rw [(mem_allW.1 hx).1, (mem_allW.1 hy).1]) hxy
section
variable {g : Gr}
def accB (g : Gr) (w : List UInt8) : Bool := decide (endsL g (upto g.2.1) w ≠ [])
end
end Go.AW
namespace Go.AW
open Go
set_option linter.unusedSimpArgs false
set_option linter.unusedVariables false
section
variable {β : Type}
end
section
variable {g : Gr}
def nextW (g : Gr) (i a b : Nat) : List (List UInt8) := (((allW (lets g) i).take a).flatMap fun w => (lets g).map fun c => w ++ [c]) ++ ((lets g).take b).map fun c => ((allW (lets g) i).getD a []) ++ [c]
theorem nextW_pre {i a b : Nat} (ha : a < (allW (lets g) i).length) (hb : b < (lets g).length) : ∃ rest, allW (lets g) (i + 1) = nextW g i a b ++ (((allW (lets g) i).getD a [] ++ [(lets g)[b]]) :: rest) := by
 have e : (allW (lets g) i) = (allW (lets g) i).take a ++ (allW (lets g) i)[a] :: (allW (lets g) i).drop (a + 1) := by rw [← List.drop_eq_getElem_cons ha, List.take_append_drop]
 have e2 : ∀ f : UInt8 → List UInt8, (lets g).map f = ((lets g).take b).map f ++ f (lets g)[b] :: ((lets g).drop (b + 1)).map f := fun f => by
  rw [← List.map_cons, ← List.map_append, ← List.drop_eq_getElem_cons hb, List.take_append_drop]
 have eg : (allW (lets g) i).getD a [] = (allW (lets g) i)[a] := by simp [List.getD, ha]
 refine ⟨(((lets g).drop (b + 1)).map fun c => (allW (lets g) i)[a] ++ [c]) ++ ((allW (lets g) i).drop (a + 1)).flatMap fun w => (lets g).map fun c => w ++ [c], ?_⟩
 have e3 : allW (lets g) (i + 1) = (((allW (lets g) i).take a).flatMap fun w => (lets g).map fun c => w ++ [c]) ++ (((lets g).map fun c => (allW (lets g) i)[a] ++ [c]) ++ ((allW (lets g) i).drop (a + 1)).flatMap fun w => (lets g).map fun c => w ++ [c]) := by
  show (allW (lets g) i).flatMap (fun w => (lets g).map fun c => w ++ [c]) = _
  conv => lhs; rw [e]
  rw [List.flatMap_append, List.flatMap_cons]
 rw [e3, e2 fun c => (allW (lets g) i)[a] ++ [c]]
 simp only [nextW, eg, List.append_assoc, List.cons_append]
theorem nextW_b {i a b : Nat} (hb : b < (lets g).length) : nextW g i a (b + 1) = nextW g i a b ++ [(allW (lets g) i).getD a [] ++ [(lets g)[b]]] := by
 simp only [nextW]
 rw [List.take_add_one, List.getElem?_eq_getElem hb, List.map_append, List.append_assoc]
 rfl
theorem nextW_a {i a : Nat} (ha : a < (allW (lets g) i).length) : nextW g i a (lets g).length = nextW g i (a + 1) 0 := by
 have eg : (allW (lets g) i).getD a [] = (allW (lets g) i)[a] := by simp [List.getD, ha]
 simp only [nextW, eg, List.take_length, List.take_zero, List.map_nil, List.append_nil]
 have e : (allW (lets g) i).take (a + 1) = (allW (lets g) i).take a ++ [(allW (lets g) i)[a]] := by rw [List.take_add_one, List.getElem?_eq_getElem ha]; rfl
 rw [e, List.flatMap_append, List.flatMap_cons, List.flatMap_nil, List.append_nil]
theorem nextW_all {i : Nat} : nextW g i (allW (lets g) i).length 0 = allW (lets g) (i + 1) := by
 simp [nextW, allW]
theorem nextW_zero {i : Nat} : nextW g i 0 0 = [] := by simp [nextW]
theorem nextW_len {i a b : Nat} (hl : (lets g).length ≤ 16) (ha : a ≤ (allW (lets g) i).length) : (nextW g i a b).length ≤ (allW (lets g) i).length * 16 + 16 := by
 have h : ∀ l : List (List UInt8), (l.flatMap fun w => (lets g).map fun c => w ++ [c]).length ≤ l.length * 16 := by
  intro l
  induction l with
  | nil => simp
  | cons x l ih => rw [List.flatMap_cons, List.length_append, List.length_map, List.length_cons, Nat.succ_mul]; omega
 have h1 := h ((allW (lets g) i).take a)
 have h2 : ((allW (lets g) i).take a).length ≤ (allW (lets g) i).length := by rw [List.length_take]; omega
 have h3 : ((lets g).take b).length ≤ 16 := by rw [List.length_take]; omega
 simp only [nextW, List.length_append, List.length_map]
 have := Nat.mul_le_mul_right 16 h2
 omega
end
end Go.AW
namespace Go.AW
open Go
set_option linter.unusedSimpArgs false
set_option linter.unusedVariables false
theorem lvl_congr {f h : List Int → UInt8 → List Int} {cs : List UInt8} {A : List Int → Prop} {set : List Int} (hs : A set) (hA : ∀ a c, A a → c ∈ cs → A (f a c)) (he : ∀ a c, A a → c ∈ cs → f a c = h a c) : ∀ n, lvl f cs set n = lvl h cs set n
 | 0 => rfl
 | n + 1 => by
  simp only [lvl]
  rw [← lvl_congr hs hA he n]
  have hall : ∀ x ∈ lvl f cs set n, A x.2 := lvl_all hs hA n
  have hcs : ∀ (cs' : List UInt8), (∀ c ∈ cs', c ∈ cs) → ∀ x ∈ lvl f cs set n, ext1 f cs' x = ext1 h cs' x := by
   intro cs' hsub x hx
   unfold ext1
   induction cs' with
   | nil => rfl
   | cons c cs' ih =>
    rw [List.filterMap_cons, List.filterMap_cons, he x.2 c (hall x hx) (hsub c (List.mem_cons_self ..)), ih fun d hd => hsub d (List.mem_cons_of_mem _ hd)]
  have : ∀ l : List WS, (∀ x ∈ l, ext1 f cs x = ext1 h cs x) → l.flatMap (ext1 f cs) = l.flatMap (ext1 h cs) := by
   intro l hl
   induction l with
   | nil => rfl
   | cons x l ih => rw [List.flatMap_cons, List.flatMap_cons, hl x (List.mem_cons_self ..), ih fun y hy => hl y (List.mem_cons_of_mem _ hy)]
  exact this _ (hcs cs fun _ h => h)
section
variable {g : Gr}
def stpL (g : Gr) (a : List Int) (c : UInt8) : List Int := stepL g a (lab c)
theorem LV_lab (hv : VG g) {set : List Int} (hs : SetOk g set) (n : Nat) : LV g set n = lvl (stpL g) (lets g) set n := by
 refine lvl_congr (A := SetOk g) hs (fun a c ha hc => stpM_ok hv ha hc) (fun a c ha hc => ?_) n
 unfold stpM
 rw [step_lab hv ha hc]
 rfl
theorem mem_LV (hv : VG g) {set : List Int} (hs : SetOk g set) : ∀ (n : Nat) (x : WS), x ∈ LV g set n ↔ x.1.length = n ∧ (∀ c ∈ x.1, c ∈ lets g) ∧ x.2 = endsL g set x.1 ∧ x.2 ≠ [] := by
 intro n
 rw [LV_lab hv hs]
 induction n with
 | zero =>
  rintro ⟨u, a⟩
  simp only [lvl]
  constructor
  ·intro h
   split at h
   ·cases h
   ·rename_i hne
    simp only [List.mem_singleton, Prod.mk.injEq] at h
    obtain ⟨rfl, rfl⟩ := h
    exact ⟨rfl, by simp, rfl, hne⟩
  ·rintro ⟨hl, _, he, hne⟩
   have hu : u = [] := List.eq_nil_of_length_eq_zero hl
   subst hu
   have : a = set := he
   subst this
   rw [if_neg hne]
   simp
 | succ n ih =>
  rintro ⟨u, a⟩
  simp only [lvl, List.mem_flatMap, mem_ext1]
  constructor
  ·rintro ⟨y, hy, c, hc, hne, he⟩
   cases he
   obtain ⟨h1, h2, h3, h4⟩ := (ih y).1 hy
   refine ⟨by simp [h1], fun d hd => ?_, ?_, hne⟩
   ·rcases List.mem_append.1 hd with hd | hd
    ·exact h2 d hd
    ·simp at hd; subst hd; exact hc
   ·show stepL g y.2 (lab c) = _
    rw [endsL_app, ← h3]
    rfl
  ·rintro ⟨hl, hc, he, hne⟩
   rcases List.eq_nil_or_concat u with rfl | ⟨v, c, rfl⟩
   ·simp at hl
   ·rw [List.concat_eq_append] at he hl hc ⊢
    rw [endsL_app] at he
    have he' : a = stepL g (endsL g set v) (lab c) := he
    have hne2 : endsL g set v ≠ [] := fun h0 => hne (by rw [he', h0, stepL_nil])
    exact ⟨(v, endsL g set v), (ih _).2 ⟨by simpa using hl, fun d hd => hc d (List.mem_append_left _ hd), rfl, hne2⟩, c, hc c (by simp), by show stepL g _ _ ≠ []; rw [← he']; exact hne, by rw [he']; rfl⟩
end
end Go.AW
namespace Go.AW
open Go
set_option linter.unusedSimpArgs false
set_option linter.unusedVariables false
theorem ltW_asym : ∀ {u v : List UInt8}, u < v → ¬ v < u
 | [], [], h, _ => by cases h
 | [], _ :: _, _, h => by cases h
 | _ :: _, [], h, _ => by cases h
 | a :: u, b :: v, h, h' => by
  rcases List.cons_lt_cons_iff.1 h with h1 | ⟨h1, h2⟩
  ·rcases List.cons_lt_cons_iff.1 h' with h3 | ⟨h3, h4⟩
   ·exact absurd (UInt8.lt_trans h1 h3) (u8_irr a)
   ·subst h3; exact u8_irr _ h1
  ·subst h1
   rcases List.cons_lt_cons_iff.1 h' with h3 | ⟨h3, h4⟩
   ·exact u8_irr _ h3
   ·exact ltW_asym h2 h4
theorem ascW_uniq {l m : List (List UInt8)} (hl : l.Pairwise (· < ·)) (hm : m.Pairwise (· < ·)) (h : ∀ x, x ∈ l ↔ x ∈ m) : l = m := by
 have nl : l.Nodup := hl.imp fun h e => by subst e; exact lt_irr _ h
 have nm : m.Nodup := hm.imp fun h e => by subst e; exact lt_irr _ h
 have hp : l.Perm m := (List.perm_ext_iff_of_nodup nl nm).2 h
 exact hp.eq_of_pairwise (fun a b _ _ h1 h2 => absurd h2 (ltW_asym h1)) hl hm
section
variable {g : Gr}
theorem lets_asc (g : Gr) : (lets g).Pairwise (· < ·) := letters_asc.sublist (List.take_sublist _ _)
theorem words_filter (hv : VG g) (n : Nat) : (LV g (upto g.2.1) n).map Prod.fst = (allW (lets g) n).filter (accB g) := by
 refine ascW_uniq (LV_asc g _ n) ((allW_asc (lets_asc g) n).filter _) fun w => ?_
 simp only [List.mem_map, List.mem_filter, mem_allW, accB, decide_eq_true_eq]
 constructor
 ·rintro ⟨x, hx, rfl⟩
  obtain ⟨h1, h2, h3, h4⟩ := (mem_LV hv (upto_ok g) n x).1 hx
  exact ⟨⟨h1, h2⟩, by rw [← h3]; exact h4⟩
 ·rintro ⟨⟨h1, h2⟩, h3⟩
  exact ⟨(w, endsL g (upto g.2.1) w), (mem_LV hv (upto_ok g) n _).2 ⟨h1, h2, rfl, h3⟩, rfl⟩
theorem LV_pow (hv : VG g) (h16 : g.1 ≤ 16) (n : Nat) : (LV g (upto g.2.1) n).length ≤ g.1.toNat ^ n := by
 have h := words_filter hv n
 have h2 := congrArg List.length h
 rw [List.length_map] at h2
 rw [h2]
 refine Nat.le_trans (List.length_filter_le _ _) ?_
 rw [allW_len, lets_len hv h16]
 exact Nat.le_refl _
end
end Go.AW
namespace Go.AW
open Go
set_option linter.unusedSimpArgs false
set_option linter.unusedVariables false
theorem Words_ok {g : Gr} (hv : VG g) (h16 : g.1 ≤ 16) {n : Nat} (hn : n ≤ 4096) (hb : ∀ j, 1 ≤ j → j ≤ n → g.1.toNat ^ j ≤ 4096) : m_language_Words g (n : Int) = some ((allW (lets g) n).filter (accB g), 0) := by
 obtain ⟨r, hr, _, h2, h3⟩ := Words_both g n
 have h0 := h3 hv h16 (by omega) (by omega) (OKL_iff.2 fun j j1 j2 => Nat.le_trans (LV_pow hv h16 j) (hb j j1 (by simpa using j2)))
 obtain ⟨_, hw⟩ := h2 h0
 obtain ⟨r1, r2⟩ := r
 dsimp only at h0 hw
 rw [hr, h0, hw]
 unfold wordsE
 rw [Int.toNat_natCast, words_filter hv]
section
variable {g : Gr}
end
end Go.AW
namespace Go.AW
open Go
set_option linter.unusedSimpArgs false
set_option linter.unusedVariables false
theorem u8_int {a b : UInt8} : ((a.toNat : Int) = (b.toNat : Int)) ↔ a = b := by
 constructor
 ·intro h
  exact UInt8.toNat_inj.1 (by omega)
 ·rintro rfl; rfl
theorem lab_none {c : UInt8} (h : c ∉ letters) : lab c = -1 := by
 have h1 : lab c < 0 := idxB_neg.2 h
 have h2 := Lib.indexByte_ge letters c
 show Lib.indexByte letters c = -1
 have h1 : Lib.indexByte letters c < 0 := h1
 omega
theorem digit_eq (c : UInt8) : m_ref07_Digit (c.toNat : Int) = some (lab c) := by
 unfold m_ref07_Digit
 refine lpL (loopN_eq (if c ∈ letters then .ret (lab c) else .go ()) 16 (fun i s => s = (i : Int) ∧ ∀ j (_ : j < i) (h : j < letters.length), letters[j] ≠ c) ?_ ?_ ⟨rfl, fun j hj => by omega⟩) ?_
 ·rintro i s hi ⟨rfl, hne⟩
  have hil : i < letters.length := hi
  have hx : idx ([48, 49, 50, 51, 52, 53, 54, 55, 56, 57, 97, 98, 99, 100, 101, 102] : List UInt8) (i : Int) = some letters[i] := ix (l := letters) hil
  rw [if_pos (by omega), hx]
  simp only [Option.bind_some, u8_int]
  by_cases e : letters[i] = c
  ·rw [if_pos e]
   refine .inr ⟨_, rfl, ?_⟩
   rw [if_pos (by rw [← e]; exact List.getElem_mem hil)]
   congr 1
   rw [← e]
   exact (idx_letter hil).symm
  ·rw [if_neg e]
   refine .inl ⟨_, rfl, nx (by omega : (16 : Nat) ≤ _) hi, fun j hj h => ?_⟩
   by_cases hji : j = i
   ·subst hji; exact e
   ·exact hne j (by omega) h
 ·rintro s ⟨rfl, hne⟩
  rw [if_neg (by omega)]
  refine ⟨_, rfl, ?_⟩
  rw [if_neg]
  intro hm
  obtain ⟨j, hj, e⟩ := List.getElem_of_mem hm
  exact hne j hj hj e
 ·by_cases h : c ∈ letters
  ·rw [if_pos h]; rfl
  ·rw [if_neg h, lab_none h]; rfl
theorem lab_take {L : Int} (h1 : 1 ≤ L) (h16 : L ≤ 16) (c : UInt8) : (c ∉ letters.take L.toNat) ↔ lab c < 0 ∨ L ≤ lab c := by
 by_cases h : c ∈ letters
 ·obtain ⟨i, hi, rfl⟩ := List.getElem_of_mem h
  have e : lab letters[i] = (i : Int) := idx_letter hi
  rw [e]
  constructor
  ·intro hn
   right
   apply Classical.byContradiction
   intro hlt
   exact hn (List.mem_take_iff_getElem.2 ⟨i, by omega, rfl⟩)
  ·rintro (h0 | h0) hm
   ·omega
   ·obtain ⟨j, hj, e2⟩ := List.mem_take_iff_getElem.1 hm
    have := (List.getElem_inj (h₀ := by omega) (h₁ := hi) letters_nodup).1 e2
    omega
 ·rw [lab_none h]
  exact ⟨fun _ => .inl (by omega), fun _ hm => h (List.mem_of_mem_take hm)⟩
theorem rcheck (L : Int) (w : List UInt8) : m_ref07_Check L w = m_word_Check L w := by
 unfold m_ref07_Check m_word_Check
 rw [known_eq]
 simp only [jp, Option.bind_some]
 by_cases h1 : 1 ≤ L ∧ L ≤ 16
 case neg =>
  rw [if_pos (show (!decide (1 ≤ L ∧ L ≤ 16)) = true by rw [decide_eq_false h1]; rfl)]
  by_cases h0 : L < 1
  ·rw [if_pos h0]; rfl
  ·rw [if_neg h0, if_pos (decide_eq_true (by omega))]
 rw [if_neg (show ¬ (!decide (1 ≤ L ∧ L ≤ 16)) = true by rw [decide_eq_true h1]; decide), if_neg (by omega : ¬ L < 1), if_neg (show ¬ decide (16 < L) = true by simp; omega)]
 by_cases h2 : 65536 < (w.length : Int)
 ·rw [if_pos h2, if_pos h2]
 rw [if_neg h2, if_neg h2]
 congr 2
 funext a
 by_cases ha : a < (w.length : Int)
 case neg => rw [if_neg ha, if_neg ha]
 have hc0 : 0 ≤ (0 : Int) ∧ (0 : Int) ≤ L ∧ L ≤ (([48, 49, 50, 51, 52, 53, 54, 55, 56, 57, 97, 98, 99, 100, 101, 102] : List UInt8).length : Int) := ⟨by decide, by omega, by show L ≤ (16 : Int); omega⟩
 rw [if_pos ha, if_pos ha, if_pos hc0]
 cases hx : idx w a with
 | none => rfl
 | some c =>
  simp only [Option.bind_some, digit_eq]
  have hs : m_strings_IndexByte ((([48, 49, 50, 51, 52, 53, 54, 55, 56, 57, 97, 98, 99, 100, 101, 102] : List UInt8).take L.toNat).drop (0 : Int).toNat) (c.toNat : Int) = some (Lib.indexByte (letters.take L.toNat) c) := by
   unfold m_strings_IndexByte
   rw [byte_back]
   rfl
  rw [hs]
  simp only [Option.bind_some]
  have hiff := (idxB_neg (l := letters.take L.toNat) (c := c)).trans (lab_take h1.1 h1.2 c)
  by_cases h3 : lab c < 0
  ·rw [if_pos h3, if_pos (hiff.2 (.inl h3))]; rfl
  ·rw [if_neg h3]
   by_cases h4 : L ≤ lab c
   ·rw [if_pos (decide_eq_true h4), if_pos (hiff.2 (.inr h4))]
   ·rw [if_neg (by simp; omega), if_neg (fun h => by rcases hiff.1 h with h | h <;> omega)]
section
variable {g : Gr}
end
end Go.AW
namespace Go.AW
open Go
set_option linter.unusedSimpArgs false
set_option linter.unusedVariables false
section
variable {g : Gr}
end
end Go.AW
namespace Go.AW
open Go
set_option linter.unusedSimpArgs false
set_option linter.unusedVariables false
section
variable {g : Gr}
end
end Go.AW
namespace Go.AW
open Go
set_option linter.unusedSimpArgs false
set_option linter.unusedVariables false
section
variable {g : Gr}
end
end Go.AW
namespace Go.AW
open Go
set_option linter.unusedVariables false
set_option linter.unusedSimpArgs false
section
variable {g : Gr}
end
end Go.AW
namespace Go.AW
open Go
set_option linter.unusedVariables false
set_option linter.unusedSimpArgs false
def lpM (mark w : List UInt8) : Nat := fgo mark w (min w.length mark.length)
theorem fgo_suf (mark w : List UInt8) : ∀ n, mark.take (fgo mark w n) <:+ w
 | 0 => by unfold fgo; rw [List.take_zero]; exact List.nil_suffix
 | n + 1 => by
  unfold fgo
  split
  ·rename_i h; exact List.isSuffixOf_iff_suffix.1 h
  ·exact fgo_suf mark w n
theorem fgo_max (mark w : List UInt8) : ∀ (n k : Nat), k ≤ n → mark.take k <:+ w → k ≤ fgo mark w n
 | 0, k, hk, _ => by omega
 | n + 1, k, hk, h => by
  unfold fgo
  split
  ·exact hk
  ·rename_i hn
   by_cases e : k = n + 1
   ·subst e; exact absurd (List.isSuffixOf_iff_suffix.2 h) hn
   ·exact fgo_max mark w n k (by omega) h
theorem lpM_le (mark w : List UInt8) : lpM mark w ≤ w.length ∧ lpM mark w ≤ mark.length := by
 have := fgo_le mark w (min w.length mark.length)
 unfold lpM
 omega
theorem foll_lpM (mark : List UInt8) (k : Nat) (c : UInt8) : foll mark k c = lpM mark (mark.take k ++ [c]) := rfl
def badG (mark : List UInt8) : List UInt8 → Nat → Bool → Bool
 | [], n, b => endsG mark mark n || b
 | c :: u, n, b => badG mark u (foll mark n c) (b || decide (foll mark n c = mark.length))
def badU (mark u : List UInt8) : Bool := badG mark u mark.length false
section
variable {g : Gr} {mark : List UInt8}
theorem letB_mem (hv : VG g) (h16 : g.1 ≤ 16) {a : Int} (h0 : 0 ≤ a) (h1 : a < g.1) : letB a ∈ lets g ∧ lab (letB a) = a := by
 have hl : a.toNat < letters.length := by rw [letters_len]; omega
 have e : letB a = letters[a.toNat] := by unfold letB; rw [List.getD_eq_getElem?_getD, List.getElem?_eq_getElem hl]; rfl
 rw [e]
 refine ⟨?_, ?_⟩
 ·unfold lets
  exact List.mem_take_iff_getElem.2 ⟨a.toNat, by rw [letters_len] at hl ⊢; omega, rfl⟩
 ·have := idx_letter hl
  unfold lab
  rw [this]
  omega
theorem lets_lab (hv : VG g) (h16 : g.1 ≤ 16) {c : UInt8} (hc : c ∈ lets g) : 0 ≤ lab c ∧ lab c < g.1 ∧ letB (lab c) = c := by
 obtain ⟨i, hi, hg, rfl, e⟩ := lab_mem hc
 rw [e]
 refine ⟨Int.natCast_nonneg _, hg, ?_⟩
 unfold letB
 rw [Int.toNat_natCast, List.getD_eq_getElem?_getD, List.getElem?_eq_getElem hi]
 rfl
theorem canF_iff (hv : VG g) (h16 : g.1 ≤ 16) : ∀ (n : Nat) (p : TStateReadBadLeft), 0 ≤ p.1 → p.1 < g.2.1 → (canF g.2.2 mark n p = true ↔ ∃ u : List UInt8, u.length = n ∧ (∀ c ∈ u, c ∈ lets g) ∧ canR g u p.1 ∧ badG mark u p.2.1.toNat p.2.2.1 = true)
 | 0, p, h0, h1 => by
  unfold canF endsF
  constructor
  ·intro h; exact ⟨[], rfl, fun _ h => by simp at h, canR_nil h0 h1, h⟩
  ·rintro ⟨u, hu, _, _, h⟩
   cases List.eq_nil_of_length_eq_zero hu
   exact h
 | n + 1, p, h0, h1 => by
  unfold canF
  rw [List.any_eq_true]
  constructor
  ·rintro ⟨x, hx, h⟩
   obtain ⟨hxE, hxp⟩ := List.mem_filter.1 hx
   have hxp := of_decide_eq_true hxp
   obtain ⟨e1, e2, e3, e4, e5, e6⟩ := hv.ed x hxE
   obtain ⟨u, hu, hul, hc, hb⟩ := (canF_iff hv h16 n (stepF mark p x) e3 e4).1 h
   obtain ⟨l1, l2⟩ := letB_mem hv h16 e5 e6
   refine ⟨letB x.2.1 :: u, by rw [List.length_cons, hu], fun c hc => ?_, (canR_cons h0 h1).2 ⟨x, hxE, hxp, l2.symm, hc⟩, ?_⟩
   ·rcases List.mem_cons.1 hc with rfl | hc
    ·exact l1
    ·exact hul c hc
   ·unfold badG
    exact hb
  ·rintro ⟨u, hu, hul, hc, hb⟩
   cases u with
   | nil => simp at hu
   | cons c u =>
    obtain ⟨x, hxE, hx1, hx2, hx3⟩ := (canR_cons h0 h1).1 hc
    obtain ⟨e1, e2, e3, e4, e5, e6⟩ := hv.ed x hxE
    obtain ⟨l1, l2, l3⟩ := lets_lab hv h16 (hul c (List.mem_cons_self ..))
    refine ⟨x, List.mem_filter.2 ⟨hxE, decide_eq_true hx1⟩, (canF_iff hv h16 n (stepF mark p x) e3 e4).2 ⟨u, by simpa using hu, fun d hd => hul d (List.mem_cons_of_mem _ hd), hx3, ?_⟩⟩
    unfold badG at hb
    have e : letB x.2.1 = c := by rw [hx2, l3]
    show badG mark u ((foll mark p.2.1.toNat (letB x.2.1) : Nat) : Int).toNat (p.2.2.1 || decide (foll mark p.2.1.toNat (letB x.2.1) = mark.length)) = true
    rw [Int.toNat_natCast, e]
    exact hb
theorem mem_aft1 {f : TStateReadBadLeft → Bool} {stp : TStateReadBadLeft → TFromLabelTo → TStateReadBadLeft} {a : Int} {p q : TStateReadBadLeft} : ∀ (l : List TFromLabelTo) (acc : List TStateReadBadLeft), q ∈ l.foldl (aft1 f stp a p) acc ↔ q ∈ acc ∨ (f q = true ∧ ∃ x ∈ l, x.2.1 = a ∧ q = stp p x)
 | [], acc => by simp
 | x :: l, acc => by
  rw [List.foldl_cons, mem_aft1 l]
  have h : q ∈ aft1 f stp a p acc x ↔ q ∈ acc ∨ (f q = true ∧ x.2.1 = a ∧ q = stp p x) := by
   unfold aft1
   split
   ·rename_i h1
    split
    ·rename_i h2
     exact ⟨.inl, fun h => h.elim id fun ⟨_, _, e⟩ => by rw [e]; exact h2⟩
    ·split
     ·rename_i h3
      rw [List.mem_append, List.mem_singleton]
      exact or_congr Iff.rfl ⟨fun e => ⟨by rw [e]; exact h3, h1, e⟩, fun h => h.2.2⟩
     ·rename_i h3
      exact ⟨.inl, fun h => h.elim id fun ⟨h4, _, e⟩ => absurd (by rw [← e]; exact h4) h3⟩
   ·rename_i h1
    exact ⟨.inl, fun h => h.elim id fun ⟨_, h4, _⟩ => absurd h4 h1⟩
  rw [h, or_assoc]
  refine or_congr Iff.rfl ?_
  constructor
  ·rintro (⟨h1, h2, h3⟩ | ⟨h1, y, hy, h2, h3⟩)
   ·exact ⟨h1, x, List.mem_cons_self .., h2, h3⟩
   ·exact ⟨h1, y, List.mem_cons_of_mem _ hy, h2, h3⟩
  ·rintro ⟨h1, y, hy, h2, h3⟩
   rcases List.mem_cons.1 hy with rfl | hy
   ·exact .inl ⟨h1, h2, h3⟩
   ·exact .inr ⟨h1, y, hy, h2, h3⟩
theorem mem_aft {f : TStateReadBadLeft → Bool} {stp : TStateReadBadLeft → TFromLabelTo → TStateReadBadLeft} {lv : Int → List TFromLabelTo} {a : Int} {q : TStateReadBadLeft} (now : List TStateReadBadLeft) : q ∈ aft f stp lv now a ↔ f q = true ∧ ∃ p ∈ now, ∃ x ∈ lv p.1, x.2.1 = a ∧ q = stp p x := by
 have h : ∀ (l acc : List TStateReadBadLeft), q ∈ l.foldl (aftP f stp lv a) acc ↔ q ∈ acc ∨ (f q = true ∧ ∃ p ∈ l, ∃ x ∈ lv p.1, x.2.1 = a ∧ q = stp p x) := by
  intro l
  induction l with
  | nil => simp
  | cons p l ih =>
   intro acc
   rw [List.foldl_cons, ih]
   unfold aftP
   rw [mem_aft1, or_assoc]
   refine or_congr Iff.rfl ?_
   constructor
   ·rintro (⟨h1, x, hx, h2⟩ | ⟨h1, p', hp, h2⟩)
    ·exact ⟨h1, p, List.mem_cons_self .., x, hx, h2⟩
    ·exact ⟨h1, p', List.mem_cons_of_mem _ hp, h2⟩
   ·rintro ⟨h1, p', hp, x, hx, h2⟩
    rcases List.mem_cons.1 hp with rfl | hp
    ·exact .inl ⟨h1, x, hx, h2⟩
    ·exact .inr ⟨h1, p', hp, x, hx, h2⟩
 unfold aft
 rw [h]
 simp
theorem firstA_some {f : TStateReadBadLeft → Bool} {stp : TStateReadBadLeft → TFromLabelTo → TStateReadBadLeft} {lv : Int → List TFromLabelTo} {now : List TStateReadBadLeft} : ∀ (k s : Nat), (∃ a : Nat, s ≤ a ∧ a < s + k ∧ aft f stp lv now (a : Int) ≠ []) → ∃ a : Nat, s ≤ a ∧ a < s + k ∧ aft f stp lv now (a : Int) ≠ [] ∧ firstA f stp lv now ((List.range' s k).map Int.ofNat) = some ((a : Int), aft f stp lv now (a : Int)) ∧ ∀ b : Nat, s ≤ b → b < a → aft f stp lv now (b : Int) = []
 | 0, s, ⟨a, h1, h2, _⟩ => by omega
 | k + 1, s, ⟨a, h1, h2, h3⟩ => by
  by_cases e : aft f stp lv now (s : Int) = []
  ·obtain ⟨c, c1, c2, c3, c4, c5⟩ := firstA_some (f := f) (stp := stp) (lv := lv) (now := now) k (s + 1) ⟨a, by
    rcases Nat.lt_or_ge s a with h | h
    ·omega
    ·have : a = s := by omega
     subst this; exact absurd e h3, by omega, h3⟩
   refine ⟨c, by omega, by omega, c3, ?_, fun b hb1 hb2 => ?_⟩
   ·rw [List.range'_succ, List.map_cons]
    unfold firstA
    rw [if_neg (fun hn => hn e)]
    exact c4
   ·by_cases eb : b = s
    ·subst eb; exact e
    ·exact c5 b (by omega) hb2
  ·refine ⟨s, Nat.le_refl _, by omega, e, ?_, fun b hb1 hb2 => by omega⟩
   rw [List.range'_succ, List.map_cons]
   unfold firstA
   exact if_pos e
def goes (g : Gr) (mark : List UInt8) (now : List TStateReadBadLeft) (u : List UInt8) : Prop := (∀ c ∈ u, c ∈ lets g) ∧ ∃ p ∈ now, canR g u p.1 ∧ badG mark u p.2.1.toNat p.2.2.1 = true
theorem letters_lt {i j : Nat} (hi : i < letters.length) (hj : j < letters.length) (h : i < j) : letters[i] < letters[j] := by
 have : ∀ a b : Fin 16, a.1 < b.1 → letters[a.1]'(show a.1 < letters.length from a.2) < letters[b.1]'(show b.1 < letters.length from b.2) := by decide
 exact this ⟨i, hi⟩ ⟨j, hj⟩ h
theorem lets_lt_lab (hv : VG g) (h16 : g.1 ≤ 16) {c d : UInt8} (hc : c ∈ lets g) (hd : d ∈ lets g) (h : c < d) : lab c < lab d := by
 obtain ⟨i, hi, _, rfl, e⟩ := lab_mem hc
 obtain ⟨j, hj, _, rfl, f⟩ := lab_mem hd
 rw [e, f]
 rcases Nat.lt_trichotomy i j with h1 | h1 | h1
 ·omega
 ·subst h1; exact absurd h (UInt8.lt_irrefl _)
 ·exact absurd (UInt8.lt_trans h (letters_lt hj hi h1)) (UInt8.lt_irrefl _)
theorem goes_cons (hv : VG g) (h16 : g.1 ≤ 16) {n : Nat} {now : List TStateReadBadLeft} (hn : ∀ p ∈ now, (0 ≤ p.1 ∧ p.1 < g.2.1) ∧ 0 ≤ p.2.1 ∧ p.2.2.2 = (n : Int) + 1) {c : UInt8} (hc : c ∈ lets g) {u : List UInt8} (hu : u.length = n) :
  goes g mark now (c :: u) ↔ goes g mark (aft (canP g.2.2 mark) (stepF mark) (leav g.2.2) now (lab c)) u := by
 obtain ⟨l1, l2, l3⟩ := lets_lab hv h16 hc
 unfold goes
 constructor
 ·rintro ⟨h1, p, hp, h2, h3⟩
  refine ⟨fun d hd => h1 d (List.mem_cons_of_mem _ hd), ?_⟩
  obtain ⟨⟨p0, p1⟩, p2, p3⟩ := hn p hp
  obtain ⟨x, hxE, hx1, hx2, hx3⟩ := (canR_cons p0 p1).1 h2
  obtain ⟨e1, e2, e3, e4, e5, e6⟩ := hv.ed x hxE
  have e : letB x.2.1 = c := by rw [hx2, l3]
  have hb : badG mark u (stepF mark p x).2.1.toNat (stepF mark p x).2.2.1 = true := by
   show badG mark u ((foll mark p.2.1.toNat (letB x.2.1) : Nat) : Int).toNat (p.2.2.1 || decide (foll mark p.2.1.toNat (letB x.2.1) = mark.length)) = true
   rw [Int.toNat_natCast, e]
   unfold badG at h3
   exact h3
  refine ⟨stepF mark p x, (mem_aft now).2 ⟨?_, p, hp, x, List.mem_filter.2 ⟨hxE, decide_eq_true hx1⟩, hx2, rfl⟩, hx3, hb⟩
  unfold canP
  have hl : (stepF mark p x).2.2.2.toNat = n := by show (p.2.2.2 - 1).toNat = n; omega
  rw [hl]
  exact (canF_iff hv h16 n _ e3 e4).2 ⟨u, hu, fun d hd => h1 d (List.mem_cons_of_mem _ hd), hx3, hb⟩
 ·rintro ⟨h1, q, hq, h2, h3⟩
  obtain ⟨h4, p, hp, x, hx, hx2, rfl⟩ := (mem_aft now).1 hq
  obtain ⟨hxE, hx1⟩ := List.mem_filter.1 hx
  have hx1 := of_decide_eq_true hx1
  obtain ⟨⟨p0, p1⟩, p2, p3⟩ := hn p hp
  refine ⟨fun d hd => ?_, p, hp, (canR_cons p0 p1).2 ⟨x, hxE, hx1, hx2, h2⟩, ?_⟩
  ·rcases List.mem_cons.1 hd with rfl | hd
   ·exact hc
   ·exact h1 d hd
  ·have e : letB x.2.1 = c := by rw [hx2, l3]
   have h3 : badG mark u ((foll mark p.2.1.toNat (letB x.2.1) : Nat) : Int).toNat (p.2.2.1 || decide (foll mark p.2.1.toNat (letB x.2.1) = mark.length)) = true := h3
   rw [Int.toNat_natCast, e] at h3
   unfold badG
   exact h3
theorem grow_spec (hv : VG g) (h16 : g.1 ≤ 16) : ∀ (n : Nat) (now : List TStateReadBadLeft), now ≠ [] → (∀ p ∈ now, canP g.2.2 mark p = true ∧ (0 ≤ p.1 ∧ p.1 < g.2.1) ∧ 0 ≤ p.2.1 ∧ p.2.2.2 = (n : Int)) →
  (growF (canP g.2.2 mark) (stepF mark) (leav g.2.2) g.1 n now).length = n ∧ goes g mark now (growF (canP g.2.2 mark) (stepF mark) (leav g.2.2) g.1 n now) ∧ ∀ v : List UInt8, v.length = n → goes g mark now v → ¬ v < growF (canP g.2.2 mark) (stepF mark) (leav g.2.2) g.1 n now
 | 0, now, hne, hn => by
  refine ⟨rfl, ⟨fun _ h => (by cases h), ?_⟩, fun v _ _ h => (by cases h)⟩
  obtain ⟨p, hp⟩ := List.exists_mem_of_ne_nil _ hne
  obtain ⟨h1, ⟨p0, p1⟩, p2, p3⟩ := hn p hp
  unfold canP at h1
  rw [p3] at h1
  obtain ⟨u, hu, _, hc, hb⟩ := (canF_iff hv h16 _ _ p0 p1).1 h1
  cases List.eq_nil_of_length_eq_zero hu
  exact ⟨p, hp, hc, hb⟩
 | n + 1, now, hne, hn => by
  have hn1 : ∀ p ∈ now, (0 ≤ p.1 ∧ p.1 < g.2.1) ∧ 0 ≤ p.2.1 ∧ p.2.2.2 = (n : Int) + 1 := fun p hp => by
   obtain ⟨_, h2, h3, h4⟩ := hn p hp
   exact ⟨h2, h3, by omega⟩
  have hgo : ∀ a : Nat, (a : Int) < g.1 → aft (canP g.2.2 mark) (stepF mark) (leav g.2.2) now (a : Int) ≠ [] → ∀ p ∈ aft (canP g.2.2 mark) (stepF mark) (leav g.2.2) now (a : Int), canP g.2.2 mark p = true ∧ (0 ≤ p.1 ∧ p.1 < g.2.1) ∧ 0 ≤ p.2.1 ∧ p.2.2.2 = (n : Int) := by
   intro a _ _ q hq
   obtain ⟨h4, p, hp, x, hx, hx2, rfl⟩ := (mem_aft now).1 hq
   obtain ⟨hxE, hx1⟩ := List.mem_filter.1 hx
   obtain ⟨e1, e2, e3, e4, e5, e6⟩ := hv.ed x hxE
   obtain ⟨_, _, _, p3⟩ := hn p hp
   exact ⟨h4, ⟨e3, e4⟩, Int.natCast_nonneg _, by show p.2.2.2 - 1 = (n : Int); omega⟩
  obtain ⟨a, _, ha2, ha3, ha4, ha5⟩ := firstA_some (f := canP g.2.2 mark) (stp := stepF mark) (lv := leav g.2.2) (now := now) g.1.toNat 0 (by
   obtain ⟨p, hp⟩ := List.exists_mem_of_ne_nil _ hne
   obtain ⟨h1, ⟨p0, p1⟩, p2, p3⟩ := hn p hp
   have h1' := h1
   unfold canP at h1
   rw [p3, show ((n + 1 : Nat) : Int).toNat = n + 1 by omega] at h1
   obtain ⟨u, hu, hul, hc, hb⟩ := (canF_iff hv h16 _ _ p0 p1).1 h1
   cases u with
   | nil => simp at hu
   | cons c u =>
    have hcl := hul c (List.mem_cons_self ..)
    have hgc : goes g mark now (c :: u) := ⟨hul, p, hp, hc, hb⟩
    obtain ⟨_, q, hq, _⟩ := (goes_cons hv h16 hn1 hcl (by simpa using hu)).1 hgc
    obtain ⟨l1, l2, l3⟩ := lets_lab hv h16 hcl
    refine ⟨(lab c).toNat, Nat.zero_le _, by omega, fun e => ?_⟩
    rw [show (((lab c).toNat : Nat) : Int) = lab c by omega] at e
    rw [e] at hq
    cases hq)
  have haL : (a : Int) < g.1 := by omega
  obtain ⟨q1, q2, q3⟩ := grow_spec hv h16 n _ ha3 (hgo a haL ha3)
  have hG : growF (canP g.2.2 mark) (stepF mark) (leav g.2.2) g.1 (n + 1) now = letB (a : Int) :: growF (canP g.2.2 mark) (stepF mark) (leav g.2.2) g.1 n (aft (canP g.2.2 mark) (stepF mark) (leav g.2.2) now (a : Int)) := by
   conv => lhs; unfold growF
   rw [List.range_eq_range', ha4]
  rw [hG]
  obtain ⟨m1, m2⟩ := letB_mem hv h16 (Int.natCast_nonneg a) haL
  refine ⟨by rw [List.length_cons, q1], (goes_cons hv h16 hn1 m1 q1).2 (by rw [m2]; exact q2), fun v hv1 hv2 hlt => ?_⟩
  cases v with
  | nil => simp at hv1
  | cons d v =>
   have hd := hv2.1 d (List.mem_cons_self ..)
   have hv3 := (goes_cons hv h16 hn1 hd (by simpa using hv1)).1 hv2
   obtain ⟨l1, l2, l3⟩ := lets_lab hv h16 hd
   have hda : a ≤ (lab d).toNat := by
    apply Classical.byContradiction
    intro hno
    have := ha5 (lab d).toNat (Nat.zero_le _) (by omega)
    rw [show (((lab d).toNat : Nat) : Int) = lab d by omega] at this
    obtain ⟨_, q, hq, _⟩ := hv3
    rw [this] at hq
    cases hq
   rcases List.cons_lt_cons_iff.1 hlt with h | ⟨h1, h2⟩
   ·have := lets_lt_lab hv h16 hd m1 h
    rw [m2] at this
    omega
   ·have : lab d = (a : Int) := by rw [h1, m2]
    rw [this] at hv3
    exact q3 v (by simpa using hv1) hv3 h2
theorem mem_startF {n : Int} {p : TStateReadBadLeft} : p ∈ startF g mark n ↔ (0 ≤ p.1 ∧ p.1 < g.2.1) ∧ p.2 = ((mark.length : Int), false, n) ∧ canP g.2.2 mark p = true := by
 unfold startF
 rw [List.mem_filter, List.mem_map]
 constructor
 ·rintro ⟨⟨t, ht, rfl⟩, h⟩
  rw [List.mem_range] at ht
  exact ⟨⟨Int.natCast_nonneg _, by dsimp only; omega⟩, rfl, h⟩
 ·rintro ⟨⟨h0, h1⟩, h2, h3⟩
  refine ⟨⟨p.1.toNat, List.mem_range.2 (by omega), ?_⟩, h3⟩
  obtain ⟨p1, p2⟩ := p
  dsimp only at h0 h1 h2 ⊢
  rw [h2, show ((p1.toNat : Nat) : Int) = p1 by omega]
theorem goes_start (hv : VG g) (h16 : g.1 ≤ 16) {n : Nat} {u : List UInt8} (hu : u.length = n) : goes g mark (startF g mark n) u ↔ (u ∈ allW (lets g) n ∧ accB g u = true) ∧ badU mark u = true := by
 unfold goes accB badU
 rw [mem_allW, decide_eq_true_eq, can_iff hv u (upto_ok g)]
 constructor
 ·rintro ⟨h1, p, hp, h2, h3⟩
  obtain ⟨⟨p0, p1⟩, p2, p3⟩ := mem_startF.1 hp
  refine ⟨⟨⟨hu, h1⟩, p.1, mem_upto.2 ⟨p0, p1⟩, h2⟩, ?_⟩
  rw [p2] at h3
  exact h3
 ·rintro ⟨⟨⟨_, h1⟩, s, hs, h2⟩, h3⟩
  obtain ⟨s0, s1⟩ := mem_upto.1 hs
  refine ⟨h1, (s, (mark.length : Int), false, (n : Int)), mem_startF.2 ⟨⟨s0, s1⟩, rfl, ?_⟩, h2, h3⟩
  unfold canP
  dsimp only
  rw [Int.toNat_natCast]
  exact (canF_iff hv h16 n _ s0 s1).2 ⟨u, hu, h1, h2, h3⟩
def badsW (g : Gr) (mark : List UInt8) (n : Nat) : List (List UInt8) := ((allW (lets g) n).filter (accB g)).filter (badU mark)
theorem badF_eq (hv : VG g) (h16 : g.1 ≤ 16) (n : Nat) : badF g mark n = ((badsW g mark n).headD [], decide (badsW g mark n ≠ [])) := by
 have hmem : ∀ u, u ∈ badsW g mark n ↔ u.length = n ∧ goes g mark (startF g mark n) u := fun u => by
  unfold badsW
  rw [List.mem_filter, List.mem_filter]
  constructor
  ·intro h
   have hl := (mem_allW.1 h.1.1).1
   exact ⟨hl, (goes_start hv h16 hl).2 h⟩
  ·rintro ⟨hl, h⟩
   exact (goes_start hv h16 hl).1 h
 have hasc : (badsW g mark n).Pairwise (· < ·) := ((allW_asc (lets_asc g) n).filter _).filter _
 unfold badF
 by_cases hs : startF g mark n = []
 ·rw [if_pos hs]
  have : badsW g mark n = [] := List.eq_nil_iff_forall_not_mem.2 fun u hu => by
   obtain ⟨_, _, p, hp, _⟩ := (hmem u).1 hu
   rw [hs] at hp
   cases hp
  rw [this]
  rfl
 ·rw [if_neg hs, Int.toNat_natCast]
  obtain ⟨q1, q2, q3⟩ := grow_spec hv h16 n (startF g mark n) hs (fun p hp => by
   obtain ⟨h1, h2, h3⟩ := mem_startF.1 hp
   refine ⟨h3, h1, ?_, ?_⟩
   ·rw [h2]; exact Int.natCast_nonneg _
   ·rw [h2])
  generalize growF (canP g.2.2 mark) (stepF mark) (leav g.2.2) g.1 n (startF g mark n) = u at q1 q2 q3
  have hu := (hmem u).2 ⟨q1, q2⟩
  cases hb : badsW g mark n with
  | nil => rw [hb] at hu; cases hu
  | cons v l =>
   have hv1 := (hmem v).1 (by rw [hb]; exact List.mem_cons_self ..)
   have e : u = v := by
    rw [hb] at hu hasc
    rcases List.mem_cons.1 hu with e | hu
    ·exact e
    ·exact absurd ((List.pairwise_cons.1 hasc).1 u hu) (q3 v hv1.1 hv1.2)
   subst e
   simp
end
end Go.AW
namespace Go.AW
open Go
set_option linter.unusedVariables false
set_option linter.unusedSimpArgs false
def MOk54 (g : Gr) (mark : List UInt8) : Prop := VG g ∧ g.1 ≤ 16 ∧ mark ≠ [] ∧ mark.length ≤ 32 ∧ ∀ c ∈ mark, c ∈ lets g
theorem check54_tot (g : Gr) (mark : List UInt8) : ∃ e, m_syncmark_check g mark = some e ∧ (e = 0 ↔ MOk54 g mark) := by
 unfold m_syncmark_check MOk54
 obtain ⟨e, he, hz⟩ := Check_tot g
 obtain ⟨f, hf, hy⟩ := wcheck g.1 mark
 rw [Check_ref, he, Option.bind_some]
 by_cases h0 : e = 0
 case neg =>
  rw [if_pos h0]
  exact ⟨1, rfl, ⟨fun h => absurd h (by decide), fun h => absurd (hz.2 h.1) h0⟩⟩
 have hv := hz.1 h0
 rw [if_neg (by omega)]
 by_cases h1 : 16 < g.1
 ·rw [if_pos h1]
  exact ⟨12, rfl, ⟨fun h => absurd h (by decide), fun h => by have := h.2.1; omega⟩⟩
 rw [if_neg h1]
 by_cases h2 : mark = []
 ·rw [if_pos h2]
  exact ⟨5, rfl, ⟨fun h => absurd h (by decide), fun h => absurd h2 h.2.2.1⟩⟩
 rw [if_neg h2]
 by_cases h3 : 32 < (mark.length : Int)
 ·rw [if_pos h3]
  exact ⟨4, rfl, ⟨fun h => absurd h (by decide), fun h => by have := h.2.2.2.1; omega⟩⟩
 rw [if_neg h3, hf]
 refine ⟨f, rfl, hy.trans ⟨fun h => ⟨hv, by omega, h2, by omega, h.2.2⟩, fun h => ⟨⟨hv.l1, by omega⟩, by omega, h.2.2.2.2⟩⟩⟩
theorem checkNumber54_tot (g : Gr) (mark : List UInt8) (n : Int) : ∃ e, m_syncmark_checkNumber g mark n = some e ∧ (e = 0 ↔ MOk54 g mark ∧ 0 ≤ n ∧ n ≤ 4096) ∧ (∀ f, m_syncmark_check g mark = some f → f ≠ 0 → e = f) ∧ (MOk54 g mark → e = if n < 0 ∨ 4096 < n then 2 else 0) := by
 obtain ⟨e, he, hz⟩ := check54_tot g mark
 unfold m_syncmark_checkNumber
 rw [he, Option.bind_some]
 by_cases h0 : e = 0
 case neg =>
  rw [if_pos h0]
  refine ⟨e, rfl, ⟨fun h => absurd h h0, fun h => absurd (hz.2 h.1) h0⟩, fun f hf _ => (Option.some.inj hf), fun h => absurd (hz.2 h) h0⟩
 rw [if_neg (by omega)]
 have hm := hz.1 h0
 simp only [jp]
 by_cases h1 : n < 0
 ·rw [if_pos h1, if_pos trivial]
  exact ⟨2, rfl, ⟨fun h => absurd h (by decide), fun h => by omega⟩, fun f hf h => absurd (Option.some.inj hf ▸ h0) h, fun _ => (if_pos (.inl h1)).symm⟩
 rw [if_neg h1]
 by_cases h2 : 4096 < n
 ·rw [if_pos (decide_eq_true h2)]
  exact ⟨2, rfl, ⟨fun h => absurd h (by decide), fun h => by omega⟩, fun f hf h => absurd (Option.some.inj hf ▸ h0) h, fun _ => (if_pos (.inr h2)).symm⟩
 ·rw [if_neg (by rw [decide_eq_true_eq]; exact h2)]
  exact ⟨0, rfl, ⟨fun _ => ⟨hm, by omega, by omega⟩, fun _ => rfl⟩, fun f hf h => absurd (Option.some.inj hf ▸ h0) h, fun _ => (if_neg (by omega)).symm⟩
theorem lets_sub (g : Gr) {c : UInt8} (h : c ∈ lets g) : c ∈ letters := List.mem_of_mem_take h
theorem bad_eq {g : Gr} {mark : List UInt8} (h : MOk54 g mark) {n : Nat} (hn : n ≤ 4096) : m_syncmark_bad g mark (n : Int) = some ((badsW g mark n).headD [], decide (badsW g mark n ≠ [])) := by
 obtain ⟨hv, h16, h1, h2, h3⟩ := h
 unfold m_syncmark_bad
 have hok : badOk g mark (n : Int) := by
  have := hv.l1
  have := hv.s0
  have := hv.s1
  refine ⟨⟨by omega, h16⟩, ⟨by omega, by omega⟩, hv.el, fun x hx => ?_, h1, by omega, fun c hc => lets_sub g (h3 c hc), by omega, by omega⟩
  obtain ⟨e1, e2, e3, e4, e5, e6⟩ := hv.ed x hx
  exact ⟨⟨e1, e2⟩, ⟨e5, e6⟩, e3, e4⟩
 rw [if_pos hok, badF_eq hv h16]
theorem Valid_eq {g : Gr} {mark : List UInt8} (h : MOk54 g mark) {n : Nat} (hn : n ≤ 4096) : m_syncmark_Valid g mark (n : Int) = some (decide (badsW g mark n = []), 0) := by
 obtain ⟨e, he, hz, _⟩ := checkNumber54_tot g mark n
 unfold m_syncmark_Valid
 rw [he, Option.bind_some, if_neg (by rw [hz.2 ⟨h, by omega, by omega⟩]; decide), bad_eq h hn, Option.bind_some]
 simp
theorem Bad_eq {g : Gr} {mark : List UInt8} (h : MOk54 g mark) {n : Nat} (hn : n ≤ 4096) : m_syncmark_Bad g mark (n : Int) = some ((badsW g mark n).headD [], decide (badsW g mark n ≠ []), 0) := by
 obtain ⟨e, he, hz, _⟩ := checkNumber54_tot g mark n
 unfold m_syncmark_Bad
 rw [he, Option.bind_some, if_neg (by rw [hz.2 ⟨h, by omega, by omega⟩]; decide), bad_eq h hn, Option.bind_some]
theorem Free_eq {g : Gr} {mark : List UInt8} (h : MOk54 g mark) : m_syncmark_Free g mark = some (!accB g mark, 0) := by
 obtain ⟨e, he, hz⟩ := check54_tot g mark
 unfold m_syncmark_Free
 rw [he, Option.bind_some, if_neg (by rw [hz.2 h]; decide), Accepts_eq h.1 h.2.1 (w := mark) ⟨by have := h.2.2.2.1; omega, h.2.2.2.2⟩, Option.bind_some]
 rfl
noncomputable def m_ref10_Great (p0 : TLabelsStatesEdges) : Option (Bool) :=
 jp (fun (a1 : Bool) =>
   some a1)
   fun k3 =>
  if 8 < p0.2.1 then
   if p0.2.1 ≤ 64 then
    k3 true
   else
    if 30 < ((p0.2.2).length : Int) then
     if ((p0.2.2).length : Int) ≤ 1024 then
      k3 true
     else
      k3 (decide (1027 < ((p0.2.2).length : Int)))
    else
     k3 (decide (1027 < ((p0.2.2).length : Int)))
  else
   if 30 < ((p0.2.2).length : Int) then
    if ((p0.2.2).length : Int) ≤ 1024 then
     k3 true
    else
     k3 (decide (1027 < ((p0.2.2).length : Int)))
   else
    k3 (decide (1027 < ((p0.2.2).length : Int)))
noncomputable def m_law54_great (p0 : TLabelsStatesEdges) : Option (Bool) :=
 jp (fun (a1 : Bool) =>
   some a1)
   fun k3 =>
  (m_ref10_Great p0).bind fun x4 =>
  if x4 = true then
   k3 true
  else
   if 3 < p0.1 then
    k3 (decide (p0.1 ≤ 16))
   else
    k3 false
noncomputable def m_law54_long (p0 : List UInt8) : Option (Bool) :=
 jp (fun (a1 : Bool) =>
   some a1)
   fun k3 =>
  if 6 < ((p0).length : Int) then
   if ((p0).length : Int) ≤ 32 then
    k3 true
   else
    k3 (decide (35 < ((p0).length : Int)))
  else
   k3 (decide (35 < ((p0).length : Int)))
theorem great54_tot (g : Gr) : ∃ b, m_law54_great g = some b ∧ (b = false → VG g → g.2.1 ≤ 8 ∧ g.2.2.length ≤ 30 ∧ (g.1 ≤ 16 → g.1 ≤ 3)) := by
 have h10 : ∃ b, m_ref10_Great g = some b ∧ (b = false → VG g → g.2.1 ≤ 8 ∧ g.2.2.length ≤ 30) := by
  unfold m_ref10_Great
  simp only [jp]
  by_cases h1 : 8 < g.2.1
  ·rw [if_pos h1]
   by_cases h2 : g.2.1 ≤ 64
   ·rw [if_pos h2]; exact ⟨true, rfl, by simp⟩
   ·rw [if_neg h2]
    have hno : ¬ VG g := fun hv => h2 hv.s1
    by_cases h3 : 30 < (g.2.2.length : Int)
    ·rw [if_pos h3]
     by_cases h4 : (g.2.2.length : Int) ≤ 1024
     ·rw [if_pos h4]; exact ⟨_, rfl, fun _ hv => absurd hv hno⟩
     ·rw [if_neg h4]; exact ⟨_, rfl, fun _ hv => absurd hv hno⟩
    ·rw [if_neg h3]; exact ⟨_, rfl, fun _ hv => absurd hv hno⟩
  ·rw [if_neg h1]
   by_cases h3 : 30 < (g.2.2.length : Int)
   ·rw [if_pos h3]
    by_cases h4 : (g.2.2.length : Int) ≤ 1024
    ·rw [if_pos h4]; exact ⟨true, rfl, by simp⟩
    ·rw [if_neg h4]; exact ⟨_, rfl, fun _ hv => absurd hv.el (by omega)⟩
   ·rw [if_neg h3]; exact ⟨_, rfl, fun _ _ => by omega⟩
 obtain ⟨b, hb, hb2⟩ := h10
 unfold m_law54_great
 simp only [jp, hb, Option.bind_some]
 cases b with
 | true => rw [if_pos rfl]; exact ⟨true, rfl, by simp⟩
 | false =>
  rw [if_neg Bool.false_ne_true]
  by_cases h3 : 3 < g.1
  ·rw [if_pos h3]
   exact ⟨_, rfl, fun h hv => ⟨(hb2 rfl hv).1, (hb2 rfl hv).2, fun h16 => absurd h16 (of_decide_eq_false h)⟩⟩
  ·rw [if_neg h3]
   exact ⟨_, rfl, fun h hv => ⟨(hb2 rfl hv).1, (hb2 rfl hv).2, fun _ => by omega⟩⟩
def ovB (mark : List UInt8) (n : Nat) : List Int := ((List.range n).filter fun k => decide (1 ≤ k) && (mark.take k).isSuffixOf mark).map Int.ofNat
def ovL (mark : List UInt8) : List Int := ovB mark (mark.length - 1 + 1)
theorem ovB_succ (mark : List UInt8) {k : Nat} (hk : 1 ≤ k) : ovB mark (k + 1) = ovB mark k ++ if (mark.take k).isSuffixOf mark = true then [(k : Int)] else [] := by
 unfold ovB
 rw [List.range_succ, List.filter_append, List.map_append]
 congr 1
 rw [List.filter_cons, decide_eq_true hk, Bool.true_and]
 split <;> rfl
theorem ovB_len (mark : List UInt8) (n : Nat) : (ovB mark n).length ≤ n := by
 unfold ovB
 rw [List.length_map]
 have := List.length_filter_le (fun k => decide (1 ≤ k) && (mark.take k).isSuffixOf mark) (List.range n)
 rw [List.length_range] at this
 exact this
theorem Overlaps_eq {mark : List UInt8} (hm : mark.length ≤ 1000000) : m_syncmark_Overlaps mark = some (ovL mark) := by
  unfold m_syncmark_Overlaps
  refine bindL (loop_is (fun i => (((i + 1 : Nat) : Int), ovB mark (i + 1))) (mark.length - 1) (ovL mark) (fun i hi => ?_) ?_ rfl) rfl
  · dsimp only
    rw [if_pos (by omega)]
    simp only [jp]
    rw [if_pos ⟨Int.le_refl _, by omega, by omega⟩, HasSuffix_eq (by omega), Option.bind_some, Int.toNat_natCast, nx (n := 1000001) (by omega) (by omega), ovB_succ mark (k := i + 1) (by omega)]
    have hb := ovB_len mark (i + 1)
    rw [show ((mark.take (i + 1)).drop (0 : Int).toNat) = mark.take (i + 1) from rfl]
    by_cases h : (mark.take (i + 1)).isSuffixOf mark = true
    · rw [if_pos h, if_pos h, if_pos ⟨by simp; omega, by simp; have : 2000000 ≤ maxLen := by decide
                                                         omega⟩]
    · rw [if_neg h, if_neg h, List.append_nil]
  · dsimp only
    rw [if_neg (by omega)]
    rfl
theorem occL_len (w u : List UInt8) : (occL w u).length ≤ w.length + 1 := by
 unfold occL occB
 rw [List.length_map]
 have := List.length_filter_le (fun i => u.isPrefixOf (w.drop i)) (List.range (w.length + 1))
 rw [List.length_range] at this
 exact this
theorem Find_eq {w u : List UInt8} (hw : w.length ≤ 1000000) (hu : u.length ≤ 1000000) : m_word_Find w u = some (occL w u) := by
  unfold m_word_Find y_word_occurrences
  rw [if_pos ⟨by omega, by omega⟩, Option.bind_some]
  have hl := occL_len w u
  have hgen : ∀ (L acc : List Int), acc.length + L.length ≤ 1000001 → forL (S := (List Int)) (X := Unit) (fun a5 (x7 : Int) =>
     if fits 8 ((a5 : List Int).length + ([x7]).length) then
      some (Stp.next (a5 ++ [x7]))
     else none) L acc = some (.go (acc ++ L)) := by
    intro L
    induction L with
    | nil => intro acc _; rw [List.append_nil]; rfl
    | cons x L ih =>
      intro acc h
      rw [List.length_cons] at h
      unfold forL
      rw [if_pos ⟨by simp; omega, by simp; have : 2000000 ≤ maxLen := by decide
                                     omega⟩]
      dsimp only
      rw [ih (acc ++ [x]) (by rw [List.length_append, List.length_singleton]; omega), List.append_assoc]
      rfl
  rw [hgen (occL w u) [] (by rw [List.length_nil]; omega), List.nil_append]
  rfl
theorem Occurs_eq {w u : List UInt8} (hw : w.length ≤ 1000000) (hu : u.length ≤ 1000000) : m_syncmark_Occurs u w = some (occL w u) := by
 unfold m_syncmark_Occurs
 rw [Find_eq hw hu]
 rfl
def gEx54 : Gr := (2, 2, [(0, 0, 0), (0, 1, 1), (1, 0, 0)])
theorem gEx54_ok : VG gEx54 where
 l1 := by decide
 l2 := by decide
 s0 := by decide
 s1 := by decide
 el := by decide
 ed := by decide
 ord := fun i h => match i, h with
  | 0, _ => by show cmp3 ((0, 0, 0) : Int × Int × Int) (0, 1, 1) < 0; decide
  | 1, _ => by show cmp3 ((0, 1, 1) : Int × Int × Int) (1, 0, 0) < 0; decide
  | n + 2, h => absurd h (by show ¬ n + 2 + 1 < 3; omega)
theorem mEx54_ok {mark : List UInt8} (h1 : mark ≠ []) (h2 : mark.length ≤ 32) (h3 : ∀ c ∈ mark, c ∈ lets gEx54) : MOk54 gEx54 mark := ⟨gEx54_ok, by decide, h1, h2, h3⟩
theorem awake54_eq : m_law54_awakeG = some true := by
 unfold m_law54_awakeG
 have v1 := Valid_eq (mEx54_ok (mark := [49, 49]) (by decide) (by decide) (by decide)) (n := 1) (by decide)
 have v2 := Bad_eq (mEx54_ok (mark := [49, 49]) (by decide) (by decide) (by decide)) (n := 1) (by decide)
 have v3 := Valid_eq (mEx54_ok (mark := [49, 49, 48]) (by decide) (by decide) (by decide)) (n := 1) (by decide)
 have v4 := Free_eq (mEx54_ok (mark := [49, 49, 48]) (by decide) (by decide) (by decide))
 have b1 : badsW gEx54 [49, 49] 1 = [[49]] := by decide +kernel
 have b2 : badsW gEx54 [49, 49, 48] 1 = [] := by decide +kernel
 have b3 : accB gEx54 [49, 49, 48] = false := by decide +kernel
 rw [b1] at v1 v2
 rw [b2] at v3
 rw [b3] at v4
 rw [show m_syncmark_Valid (2, 2, [(0, 0, 0), (0, 1, 1), (1, 0, 0)]) [49, 49] 1 = some (false, 0) from v1, show m_syncmark_Bad (2, 2, [(0, 0, 0), (0, 1, 1), (1, 0, 0)]) [49, 49] 1 = some ([49], true, 0) from v2, show m_syncmark_Valid (2, 2, [(0, 0, 0), (0, 1, 1), (1, 0, 0)]) [49, 49, 48] 1 = some (true, 0) from v3, show m_syncmark_Free (2, 2, [(0, 0, 0), (0, 1, 1), (1, 0, 0)]) [49, 49, 48] = some (true, 0) from v4]
 rw [Overlaps_eq (by decide), Occurs_eq (by decide) (by decide), show ovL [48, 49, 49, 48] = [1] by decide +kernel, show occL [49, 49, 49, 49, 49] [49, 49] = [0, 1, 2, 3] by decide +kernel]
 simp only [jp, Option.bind_some]
 rw [EqI_eq (by decide), EqI_eq (by decide)]
 rfl
end Go.AW
namespace Go.AW
open Go Go.Proofs
theorem w_law54_awake {r : Bool} (h : m_law54_awake = some r) : Pure Tryz.prog 9 [] (· = HV.bool r) := by
 cases h
 exact w_law54_awakeG awake54_eq
end Go.AW
namespace Go.Proofs
open Go
def Tryz.strRep_ren : Go.Shelf.Ren := ⟨fun | 105 => 66 | 212 => 88 | 99 => 89 | 165 => 90 | 166 => 91 | 170 => 92 | 169 => 62 | 263 => 117 | 264 => 118 | 206 => 119 | 240 => 85 | 241 => 120 | 276 => 115 | 277 => 133 | n => n, fun | 9 => 9 | 3 => 3 | 4 => 4 | 20 => 20 | 0 => 0 | 46 => 117 | 109 => 124 | 5 => 5 | 72 => 86 | 76 => 127 | 51 => 153 | 146 => 159 | 53 => 155 | 148 => 161 | 70 => 83 | 37 => 84 | 75 => 94 | 127 => 122 | 164 => 156 | 80 => 96 | n => n, fun | n => n⟩
theorem Tryz.strRep : Go.Proofs.Lays.n105 Tryz.prog Tryz.strRep_ren where
 mixed := by kernel_rfl
 f99 := Tryz.func89.trans (congrArg some (by kernel_rfl))
 f105 := Tryz.func66.trans (congrArg some (by kernel_rfl))
 f165 := Tryz.func90.trans (congrArg some (by kernel_rfl))
 f166 := Tryz.func91.trans (congrArg some (by kernel_rfl))
 f169 := Tryz.func62.trans (congrArg some (by kernel_rfl))
 f170 := Tryz.func92.trans (congrArg some (by kernel_rfl))
 f206 := Tryz.func119.trans (congrArg some (by kernel_rfl))
 f212 := Tryz.func88.trans (congrArg some (by kernel_rfl))
 f240 := Tryz.func85.trans (congrArg some (by kernel_rfl))
 f241 := Tryz.func120.trans (congrArg some (by kernel_rfl))
 f263 := Tryz.func117.trans (congrArg some (by kernel_rfl))
 f264 := Tryz.func118.trans (congrArg some (by kernel_rfl))
 f276 := Tryz.func115.trans (congrArg some (by kernel_rfl))
 f277 := Tryz.func133.trans (congrArg some (by kernel_rfl))
 t0 := Tryz.underlying0
 a0 := Tryz.isAgg0
 z0 := Tryz.sizeOf0
 v0 := Tryz.zeroValue0
 t3 := Tryz.underlying3
 a3 := Tryz.isAgg3
 z3 := Tryz.sizeOf3
 v3 := Tryz.zeroValue3
 t4 := Tryz.underlying4
 a4 := Tryz.isAgg4
 z4 := Tryz.sizeOf4
 v4 := Tryz.zeroValue4
 t5 := Tryz.underlying5
 a5 := Tryz.isAgg5
 z5 := Tryz.sizeOf5
 v5 := Tryz.zeroValue5
 t9 := Tryz.underlying9
 a9 := Tryz.isAgg9
 z9 := Tryz.sizeOf9
 v9 := Tryz.zeroValue9
 t20 := Tryz.underlying20
 a20 := Tryz.isAgg20
 z20 := Tryz.sizeOf20
 v20 := Tryz.zeroValue20
 t37 := Tryz.underlying84
 a37 := Tryz.isAgg84
 z37 := Tryz.sizeOf84
 v37 := Tryz.zeroValue84
 t46 := Tryz.underlying117
 a46 := Tryz.isAgg117
 z46 := Tryz.sizeOf117
 v46 := Tryz.zeroValue117
 t51 := Tryz.underlying153
 a51 := Tryz.isAgg153
 z51 := Tryz.sizeOf153
 v51 := Tryz.zeroValue153
 t53 := Tryz.underlying155
 a53 := Tryz.isAgg155
 z53 := Tryz.sizeOf155
 v53 := Tryz.zeroValue155
 t70 := Tryz.underlying83
 a70 := Tryz.isAgg83
 z70 := Tryz.sizeOf83
 v70 := Tryz.zeroValue83
 t72 := Tryz.underlying86
 a72 := Tryz.isAgg86
 z72 := Tryz.sizeOf86
 v72 := Tryz.zeroValue86
 t75 := Tryz.underlying94
 a75 := Tryz.isAgg94
 z75 := Tryz.sizeOf94
 v75 := Tryz.zeroValue94
 t76 := Tryz.underlying127
 a76 := Tryz.isAgg127
 z76 := Tryz.sizeOf127
 v76 := Tryz.zeroValue127
 t109 := Tryz.underlying124
 a109 := Tryz.isAgg124
 z109 := Tryz.sizeOf124
 v109 := Tryz.zeroValue124
 t127 := Tryz.underlying122
 a127 := Tryz.isAgg122
 z127 := Tryz.sizeOf122
 v127 := Tryz.zeroValue122
 t146 := Tryz.underlying159
 a146 := Tryz.isAgg159
 z146 := Tryz.sizeOf159
 v146 := Tryz.zeroValue159
 t148 := Tryz.underlying161
 a148 := Tryz.isAgg161
 z148 := Tryz.sizeOf161
 v148 := Tryz.zeroValue161
 t164 := Tryz.underlying156
 a164 := Tryz.isAgg156
 z164 := Tryz.sizeOf156
 v164 := Tryz.zeroValue156
end Go.Proofs
namespace Go.Proofs
open Go
theorem Tryz.bldX : Go.Proofs.Builder.Extra Tryz.prog Tryz.strRep_ren where
 sizeBuilder := by kernel_rfl
 liesBuilder := by kernel_rfl
 t5 := Tryz.underlying5
 a5 := Tryz.isAgg5
 z5 := Tryz.sizeOf5
 v5 := Tryz.zeroValue5
 infoByte := by kernel_rfl
 cellsByte := by kernel_rfl
 sizeByte := by kernel_rfl
 neB5 := by decide
end Go.Proofs
namespace Go.AW
open Go Go.Proofs Go.Lib
theorem rep_flat : ∀ (s : List UInt8) (n : Nat), Lib.repeatL s n = (List.replicate n s).flatten
 | s, 0 => rfl
 | s, n + 1 => by rw [List.replicate_succ, List.flatten_cons, ← rep_flat s n]; rfl
theorem flat_repl (s : List UInt8) : ∀ m : Nat, (List.replicate m s).flatten.length = m * s.length
 | 0 => by simp
 | m + 1 => by rw [List.replicate_succ, List.flatten_cons, List.length_append, flat_repl s m, Nat.succ_mul]; omega
theorem w_strings_Repeat {s r : List UInt8} {n : Int} (h : m_strings_Repeat s n = some r) : Pure Tryz.prog 66 [HV.str s, HV.int .i64 n] (· = HV.str r) := by
 unfold m_strings_Repeat at h
 split at h
 ·rename_i hc
  obtain ⟨h0, h1, h2⟩ := hc
  cases h
  obtain ⟨m, rfl⟩ := Int.eq_ofNat_of_zero_le h0
  simp only [Int.toNat_natCast] at h2 ⊢
  refine ⟨enters' Tryz.func66 rfl rfl, fun μ w vs hs hr _ => ?_⟩
  obtain ⟨x, xs, rfl, ⟨rfl, hl⟩, y, ys, rfl, ⟨rfl, _⟩, hn⟩ := hr
  cases hn
  refine (Any.strings_Repeat Tryz.strRep Tryz.bldX ⟨s.toArray⟩ m w (by omega) (by simpa [ByteArray.size] using h2)).mono ?_
  rintro e w' ⟨rfl, hbel⟩
  have hg : Grow w w' := ⟨⟨hbel.os, hbel.tape, hbel.output⟩, hbel.size, hbel.block⟩
  refine ⟨_, .str (List.replicate m s).flatten, [], μ, rfl, ⟨rfl, trivial, rfl⟩, hs.grow hg, ⟨?_, ?_⟩, Evo.grow hs hg⟩
  ·rw [← rep_flat]
  ·rw [flat_repl, Nat.mul_comm]
   simp only [maxLen]
   omega
 ·cases h
end Go.AW
namespace Go.AW
open Go
set_option linter.unusedVariables false
noncomputable def m_word_Next (p0 : Int) (p1 : List UInt8) : Option ((List UInt8) × Int) :=
 (m_word_Check p0 p1).bind fun x1 =>
 if x1 ≠ 0 then
  some (([] : List UInt8), x1)
 else
  lpO (loopW (S := Int × (List Int)) (X := Ou ((List Int)) ((List UInt8) × Int)) (fun a4 =>
      if 0 ≤ a4.1 then
       (idx a4.2 a4.1).bind fun x8 =>
       (idx a4.2 a4.1).bind fun x10 =>
       (m_strings_IndexByte [48, 49, 50, 51, 52, 53, 54, 55, 56, 57, 97, 98, 99, 100, 101, 102] x10).bind fun x12 =>
       if x12 < (IntKind.wrap .i64 (p0 - 1)) then
        (idx ([48, 49, 50, 51, 52, 53, 54, 55, 56, 57, 97, 98, 99, 100, 101, 102] : List UInt8) (IntKind.wrap .i64 (x12 + 1))).bind fun x14 =>
        (idx a4.2 a4.1).bind fun x16 =>
        some (Stp.exit (Ou.ret (((a4.2).set (a4.1).toNat (x14.toNat : Int)).map fun (n : Int) => UInt8.ofNat n.toNat, 0)))
       else
        (idx a4.2 a4.1).bind fun x18 =>
        some (Stp.next (IntKind.wrap .i64 (a4.1 - 1), (a4.2).set (a4.1).toNat 48))
      else
       some (Stp.exit (Ou.go a4.2))) (IntKind.wrap .i64 (((((p1.map fun c => (c.toNat : Int))).length : Nat) : Int) - 1), (p1.map fun c => (c.toNat : Int)))) (fun a20 =>
      if (((a20).length : Nat) : Int) = 65536 then
       some (([] : List UInt8), 4)
      else
       if (a20.map fun (n : Int) => UInt8.ofNat n.toNat).length + [48].length ≤ maxLen then
        some ((a20.map fun (n : Int) => UInt8.ofNat n.toNat) ++ [48], 0)
       else none) some
section
variable {w w' : World} {μ : Mu} {H : Heap}
theorem SR.allocR (h : SR w μ H) (id k : Nat) (e : TypeId) {cs : List HV} {vs rest : List Value} (ho : ones cs) (hc : RepL w μ cs vs) (g : Grow w w') (hr : Row w' w.heap.size (vs ++ rest).toArray e) :
  SR w' (μ.set id (some w.heap.size)) (hset H id μ.nx (.arr k e cs)) ∧ Evo w μ w' (μ.set id (some w.heap.size)) := by
 have hE := Evo.repl h id (some w.heap.size) g.toSame g.size (fun b hb _ => g.old b hb) (fun b hb => by cases hb; exact .inl (Nat.le_refl _))
 refine ⟨h.repl id (some w.heap.size) _ g.toSame g.size (fun b hb _ => g.old b hb) (fun b hb => by cases hb; exact .inl (Nat.le_refl _)) ?_, hE⟩
 exact ⟨ho, (vs ++ rest).toArray, vs, rest, hr, by simp, RepL.evo hE h.ok _ _ hc⟩
theorem grow_bytes (w : World) (e : TypeId) (s : ByteArray) : Grow w (Lib.bytesWorld w e s) where
 os := rfl
 tape := rfl
 output := rfl
 size := by rw [Lib.bytesWorld_size]; omega
 old := fun b hb => Lib.bytesWorld_at_old w e s b hb
theorem row_bytes (w : World) (e : TypeId) (s : ByteArray) : Row (Lib.bytesWorld w e s) w.heap.size (Lib.bytesCells w e s) e := ⟨_, _, Lib.bytesWorld_at_new w e s, .inr (Nat.le_refl _)⟩
end
section
variable {P : Program} {ro : Option Nat} {N B : Nat} {s : AS} {all : Array Oper} {rest : List Oper} {o : Oper} {K : AS → Prop} {sl : List (Nat × HV)} {H : Heap}
theorem bytes_rep {w : World} {μ : Mu} : ∀ l : List UInt8, RepL w μ (l.map fun c => HV.int .u8 (c.toNat : Int)) (l.map fun c => Value.int .u8 (c.toNat : Int))
 | [] => rfl
 | c :: l => by
  refine ⟨_, _, rfl, ⟨rfl, ?_⟩, bytes_rep l⟩
  have := c.toNat_lt
  simp only [Lit.wf, IntKind.min, IntKind.max, IntKind.signed, IntKind.bits, Bool.and_eq_true, decide_eq_true_eq]
  simp
  omega
theorem bytes_ones : ∀ l : List UInt8, ones (l.map fun c => HV.int .u8 (c.toNat : Int))
 | [] => by simp [ones]
 | c :: l => by
  have h := bytes_ones l
  simp only [ones, List.map_cons, List.mem_cons, forall_eq_or_imp] at h ⊢
  exact ⟨rfl, h⟩
theorem AOp.convSB {src dst e : TypeId} {a b a2 b2 a3 b3 : Nat} {z z2 z3 : Value} {x : Operand} {l : List UInt8} (id : Nat) (hop : o.op = .convert src dst x) (hN : okd N o.dst = true) (hS : ty P src = some ⟨.string, a, b, z⟩) (hD : ty P dst = some ⟨.slice e, a2, b2, z2⟩) (hE : ty P e = some ⟨.int .u8, a3, b3, z3⟩) (hx : s.ev x = some (.str l))
  (h : ∀ ver, K (({ s with heap := hset s.heap id ver (.arr 1 e (l.map fun c => HV.int .u8 (c.toNat : Int))) } : AS).put o.dst (.ar id ver 1 0 l.length))) : AOp P ro N o K s := by
 refine AOp.value (fun c e => by rw [hop] at e; cases e) hN fun B μ a w hs => ?_
 obtain ⟨hx1, hxl⟩ := hs.ev hx
 have hsz : (⟨l.toArray⟩ : ByteArray).size = l.length := by simp [ByteArray.size]
 have hge := grownCap_ge w l.length 0 e
 have hle := grownCap_le_maxLen w l.length 0 e hxl
 have hcells : Lib.bytesCells w e ⟨l.toArray⟩ = (List.map (fun c : UInt8 => Value.int .u8 (c.toNat : Int)) l ++ List.replicate (grownCap w l.length 0 e - l.length) (Value.int .u8 0)).toArray := by
  unfold Lib.bytesCells
  rw [hsz]
  apply Array.ext'
  simp
 have hrow := row_bytes w e ⟨l.toArray⟩
 rw [hcells] at hrow
 obtain ⟨hsr, hEv⟩ := hs.sr.allocR id 1 e (bytes_ones l) (bytes_rep l) (grow_bytes w e ⟨l.toArray⟩) hrow
 have hrun := Lib.run_convert_string_bytes (P := P) w src dst e ⟨l.toArray⟩ (ty_spec hS).1 (ty_spec hD).1 (ty_spec hE).1
 rw [hsz] at hrun
 refine ⟨_, .ar id μ.nx 1 0 l.length, _, _, _, by simp only [execOp, hop, hx1, Sem.run_bind, hrun, Result.andThen_ok, Sem.run_pure], hsr, hEv, .inl ⟨some w.heap.size, by simp [Mu.set], .inr ⟨w.heap.size, grownCap w l.length 0 e, _, e, rfl, rfl, hge, hle, hrow, ?_⟩⟩, h μ.nx⟩
 simp
 omega
theorem b_convSB {d : Nat} {src dst e : TypeId} {a b a2 b2 a3 b3 : Nat} {z z2 z3 : Value} {x : Operand} {l : List UInt8} (id : Nat) (h0 : (o.guard, o.dst, o.op) = (none, some d, .convert src dst x)) (hS : ty P src = some ⟨.string, a, b, z⟩) (hD : ty P dst = some ⟨.slice e, a2, b2, z2⟩) (hE : ty P e = some ⟨.int .u8, a3, b3, z3⟩) (hx : (⟨sl, H⟩ : AS).ev x = some (.str l))
  (kk : ∀ ver, bops P ro N all rest K ⟨(d, .ar id ver eU8.k 0 (l.map fun c => (c.toNat : Int)).length) :: sl, (id, ver, .arr eU8.k e (eU8.E (l.map fun c => (c.toNat : Int)))) :: H⟩) : bops P ro N all (o :: rest) K ⟨sl, H⟩ := by
 obtain ⟨h1, h2⟩ := Prod.mk.inj h0
 obtain ⟨h2, h3⟩ := Prod.mk.inj h2
 refine b_opX h1 fun hN => AOp.convSB id h3 hN hS hD hE hx fun ver => ?_
 rw [h2]
 have k := kk ver
 rw [List.length_map] at k
 have hE : eU8.E (l.map fun c => (c.toNat : Int)) = l.map fun c => HV.int .u8 (c.toNat : Int) := by
  show (l.map fun c => (c.toNat : Int)).map (HV.int .u8) = _
  rw [List.map_map]
  rfl
 rw [hE] at k
 exact bops_le (putH_le (s := ⟨sl, H⟩) id ver (.arr 1 e (l.map fun c => HV.int .u8 (c.toNat : Int))) d (.ar id ver 1 0 l.length)) k
end
end Go.AW
namespace Go.AW
open Go Go.Proofs
set_option maxHeartbeats 1600000
set_option maxRecDepth 100000
set_option linter.unusedVariables false
theorem w_word_Next {p0 : Int} {p1 : List UInt8} {r : (List UInt8) × Int} (h : m_word_Next p0 p1 = some r) : Pure Tryz.prog 67 [hI p0, .str p1] (· = HV.tup [.str r.1, hI r.2]) := by
 unfold m_word_Next at h
 refine Pure.of_body Tryz.func67 rfl rfl (lb rfl) fun hf => ?_
 unfold Tryz.f67
 dsimp only [enumS, Nat.reduceAdd]
 refine AW.rgs rfl fun K hK => mv rfl rfl (mv rfl rfl ?_)
 refine bf hK ⟨[(0, hI p0), (1, .str p1)], []⟩ ?_
 refine AW.seq ?_
 refine AW.rgs rfl fun K hK => mv rfl rfl (mv rfl rfl ?_)
 obtain ⟨x1, h2, h⟩ := bS h
 refine b_op rfl (o_call rfl rfl rfl rfl (ACallD.pure0 (w_word_Check h2)) ?_)
 refine mv rfl rfl ?_
 refine bf hK ⟨[(0, hI p0), (1, .str p1), (6, hI x1)], []⟩ ?_
 refine AW.rgs rfl fun K hK => mv rfl rfl (bv rfl (v_bin rfl rfl b_neq) ?_)
 refine bf hK ⟨[(0, hI p0), (1, .str p1), (6, hI x1), (14, .bool (decide (x1 ≠ 0)))], []⟩ ?_
 refine AW.cond rfl (fun hc => ?_) (fun hc => ?_)
 ·obtain ⟨hc, h⟩ := cT hc h
  refine AW.rgs rfl fun K hK => mv rfl rfl (mv rfl rfl (mv rfl rfl ?_))
  refine bf hK ⟨[(4, .str nS), (5, hI x1)], []⟩ ?_
  refine AW.ret ?_
  have h := Option.some.inj h
  subst h
  exact ret_pure (hs := [.str nS, hI x1]) (.inr rfl) (resT rfl (resT rfl rfl)) rfl ⟨trivial, trivial, trivial⟩
 obtain ⟨hc, h⟩ := cF hc h
 refine AW.skip ?_
 refine AW.rgs rfl fun K hK => mv rfl rfl ?_
 refine b_convSB 67017 rfl ty9 ty84 ty5 rfl fun v3 => ?_
 refine mv rfl rfl ?_
 refine bf hK ⟨[(0, hI p0), (7, .ar 67017 v3 eU8.k 0 (((p1.map fun c => (c.toNat : Int))).length))], [(67017, v3, .arr eU8.k 5 (eU8.E (p1.map fun c => (c.toNat : Int))))]⟩ ?_
 refine AW.seq ?_
 refine AW.rgs rfl fun K hK => mv rfl rfl (bv rfl (v_lenA rfl rfl ty84 rfl rfl) (bv rfl (v_bin rfl rfl b_sub) (mv rfl rfl ?_)))
 refine bf hK ⟨[(0, hI p0), (7, .ar 67017 v3 eU8.k 0 (((p1.map fun c => (c.toNat : Int))).length)), (8, hI (IntKind.wrap .i64 (((((p1.map fun c => (c.toNat : Int))).length : Nat) : Int) - 1)))], [(67017, v3, .arr eU8.k 5 (eU8.E (p1.map fun c => (c.toNat : Int))))]⟩ ?_
 refine AW.lpR h (by first | exact up_then | exact up_to) (S := Int × (List Int)) (V := Unit) (fun a v => ⟨[(0, hI p0), (7, .ar 67017 v3 eU8.k 0 ((a.2).length)), (8, hI a.1)], [(67017, v3, .arr eU8.k 5 (eU8.E a.2))]⟩) ?_ (X := (List Int)) (W := Unit) (fun a v => ⟨[(7, .ar 67017 v3 eU8.k 0 ((a).length))], [(67017, v3, .arr eU8.k 5 (eU8.E a))]⟩) (fun a20 w21 h => ?_) (fun a4 w5 st6 h hr7=> ?_)
 ·exact to_L ⟨(), rfl⟩
 ·refine AW.seq ?_
  refine AW.rgs rfl fun K hK => mv rfl rfl (bv rfl (v_lenA rfl rfl ty84 rfl rfl) (bv rfl (v_bin rfl rfl b_eql) ?_))
  refine bf hK ⟨[(7, .ar 67017 v3 eU8.k 0 ((a20).length)), (47, .bool (decide ((((a20).length : Nat) : Int) = 65536)))], [(67017, v3, .arr eU8.k 5 (eU8.E a20))]⟩ ?_
  refine AW.cond rfl (fun hc => ?_) (fun hc => ?_)
  ·obtain ⟨hc, h⟩ := cT hc h
   refine AW.rgs rfl fun K hK => mv rfl rfl (mv rfl rfl ?_)
   refine bf hK ⟨[(4, .str nS), (5, hI 4)], []⟩ ?_
   refine AW.ret ?_
   have h := Option.some.inj h
   subst h
   exact ret_pure (hs := [.str nS, hI 4]) (.inr rfl) (resT rfl (resT rfl rfl)) rfl ⟨trivial, trivial, trivial⟩
  obtain ⟨hc, h⟩ := cF hc h
  refine AW.skip ?_
  refine AW.to (to_frz 2 [(67017, v3, .arr eU8.k 5 (eU8.E a20))] ⟨[(7, slE eU8 a20), (47, .bool (decide ((((a20).length : Nat) : Int) = 65536)))], []⟩ ⟨⟨_, rfl, frz_slE eU8 (l := a20) rfl fun _ _ => rfl⟩, ⟨_, rfl, rfl⟩, trivial⟩ trivial ⟨rfl, trivial⟩ ⟨rfl, trivial⟩ ?_)
  refine AW.rgs rfl fun K hK => mv rfl rfl (bv rfl (v_convB (l := a20) ty84 ty5 ty9 rfl) ?_)
  obtain ⟨h22, h⟩ := ifN h
  refine bv rfl (v_bin rfl rfl (b_sadd h22)) (mv rfl rfl (mv rfl rfl ?_))
  refine bf hK ⟨[(4, .str ((a20.map fun (n : Int) => UInt8.ofNat n.toNat) ++ [48])), (5, hI 0)], []⟩ ?_
  refine AW.ret ?_
  have h := Option.some.inj h
  subst h
  exact ret_pure (hs := [.str ((a20.map fun (n : Int) => UInt8.ofNat n.toNat) ++ [48]), hI 0]) (.inr rfl) (resT rfl (resT rfl rfl)) rfl ⟨trivial, trivial, trivial⟩
 refine AW.seq ?_
 refine AW.rgs rfl fun K hK => mv rfl rfl (bv rfl (v_bin rfl rfl b_geq) ?_)
 refine bf hK ⟨[(0, hI p0), (7, .ar 67017 v3 eU8.k 0 ((a4.2).length)), (8, hI a4.1), (22, .bool (decide (0 ≤ a4.1)))], [(67017, v3, .arr eU8.k 5 (eU8.E a4.2))]⟩ ?_
 refine AW.cond rfl (fun hc => ?_) (fun hc => ?_)
 ·obtain ⟨hc, h⟩ := cT hc h
  refine AW.skip ?_
  refine AW.seq (AW.block ?_)
  refine AW.rgs rfl fun K hK => mv rfl rfl (mv rfl rfl ?_)
  obtain ⟨x8, h9, h⟩ := bS h
  refine bv rfl (v_idxA ty84 es84 rfl rfl (idx_lt h9) rfl) ?_
  obtain ⟨x10, h11, h⟩ := bS h
  refine bv rfl (v_loadP ty5 rfl rfl (l_cell eU8 h11 (o := 0) rfl rfl)) ?_
  obtain ⟨x12, h13, h⟩ := bS h
  refine b_op rfl (o_call rfl rfl rfl rfl (ACallD.pure0 (w_strings_IndexByte h13)) ?_)
  refine mv rfl rfl ?_
  refine bf hK ⟨[(0, hI p0), (7, .ar 67017 v3 eU8.k 0 ((a4.2).length)), (8, hI a4.1), (9, hI x12)], [(67017, v3, .arr eU8.k 5 (eU8.E a4.2))]⟩ ?_
  refine AW.seq ?_
  refine AW.rgs rfl fun K hK => mv rfl rfl (mv rfl rfl (bv rfl (v_bin rfl rfl b_sub) (bv rfl (v_bin rfl rfl b_lss) ?_)))
  refine bf hK ⟨[(0, hI p0), (7, .ar 67017 v3 eU8.k 0 ((a4.2).length)), (8, hI a4.1), (9, hI x12), (33, .bool (decide (x12 < (IntKind.wrap .i64 (p0 - 1)))))], [(67017, v3, .arr eU8.k 5 (eU8.E a4.2))]⟩ ?_
  refine AW.cond rfl (fun hc => ?_) (fun hc => ?_)
  ·obtain ⟨hc, h⟩ := cT hc h
   refine AW.rgs rfl fun K hK => mv rfl rfl (mv rfl rfl (mv rfl rfl (bv rfl (v_bin rfl rfl b_add) ?_)))
   obtain ⟨x14, h15, h⟩ := bS h
   refine bv rfl (v_idxS ty9 rfl rfl h15) ?_
   obtain ⟨x16, h17, h⟩ := bS h
   refine bv rfl (v_idxA ty84 es84 rfl rfl (idx_lt h17) rfl) ?_
   refine b_op rfl (o_storeE eU8 (l := a4.2) (j := a4.1) (v := (x14.toNat : Int)) rfl rfl rfl ty5 rfl rfl rfl (idx_lt h17) ?_)
   refine b_fin hK (s' := ⟨[(7, .ar 67017 v3 eU8.k 0 (((a4.2).set (a4.1).toNat (x14.toNat : Int)).length))], [(67017, v3, .arr eU8.k 5 (eU8.E ((a4.2).set (a4.1).toNat (x14.toNat : Int))))]⟩) (AS.le_of ⟨arl (by first | rfl | simp only [List.length_set, sortI_len, sortS_len]), trivial⟩ ⟨rfl, trivial⟩) ?_
   refine AW.to (to_frz 2 [(67017, v3, .arr eU8.k 5 (eU8.E ((a4.2).set (a4.1).toNat (x14.toNat : Int))))] ⟨[(7, slE eU8 ((a4.2).set (a4.1).toNat (x14.toNat : Int)))], []⟩ ⟨⟨_, rfl, frz_slE eU8 (l := (a4.2).set (a4.1).toNat (x14.toNat : Int)) rfl fun _ _ => rfl⟩, trivial⟩ trivial ⟨rfl, trivial⟩ ⟨rfl, trivial⟩ ?_)
   refine AW.rgs rfl fun K hK => mv rfl rfl (bv rfl (v_convB (l := (a4.2).set (a4.1).toNat (x14.toNat : Int)) ty84 ty5 ty9 rfl) (mv rfl rfl (mv rfl rfl ?_)))
   refine bf hK ⟨[(4, .str (((a4.2).set (a4.1).toNat (x14.toNat : Int)).map fun (n : Int) => UInt8.ofNat n.toNat)), (5, hI 0)], []⟩ ?_
   have h := hr7 _ h
   refine AW.ret ?_
   have h := Option.some.inj h
   subst h
   exact ret_pure (hs := [.str (((a4.2).set (a4.1).toNat (x14.toNat : Int)).map fun (n : Int) => UInt8.ofNat n.toNat), hI 0]) (.inr rfl) (resT rfl (resT rfl rfl)) rfl ⟨trivial, trivial, trivial⟩
  obtain ⟨hc, h⟩ := cF hc h
  refine AW.skip ?_
  refine AW.rg rfl fun K hK => mv rfl rfl (mv rfl rfl ?_)
  obtain ⟨x18, h19, h⟩ := bS h
  refine bv rfl (v_idxA ty84 es84 rfl rfl (idx_lt h19) rfl) ?_
  refine b_op rfl (o_storeE eU8 (l := a4.2) (j := a4.1) (v := 48) rfl rfl rfl ty5 rfl rfl rfl (idx_lt h19) ?_)
  refine b_fin hK (s' := ⟨[(0, hI p0), (7, .ar 67017 v3 eU8.k 0 (((a4.2).set (a4.1).toNat 48).length)), (8, hI a4.1)], [(67017, v3, .arr eU8.k 5 (eU8.E ((a4.2).set (a4.1).toNat 48)))]⟩) (AS.le_of ⟨rfl, arl (by first | rfl | simp only [List.length_set, sortI_len, sortS_len]), rfl, trivial⟩ ⟨rfl, trivial⟩) ?_
  refine AW.rg rfl fun K hK => mv rfl rfl (bv rfl (v_bin rfl rfl b_sub) (mv rfl rfl ?_))
  refine b_nil (hK _ ?_)
  exact to_L ⟨(IntKind.wrap .i64 (a4.1 - 1), (a4.2).set (a4.1).toNat 48), (), h, rfl⟩
 obtain ⟨hc, h⟩ := cF hc h
 refine AW.exit ?_
 exact to_L ⟨a4.2, (), h, rfl⟩
end Go.AW

namespace Go.AW
open Go
def marksL (q least most : Nat) : List (List UInt8) := (List.range (most + 1 - least)).flatMap fun j => allW (letters.take q) (least + j)
def y_syncmark_marks (least most q : Int) : Option (List (List UInt8)) := if (1 ≤ q ∧ q ≤ 16) ∧ 1 ≤ least ∧ least ≤ most ∧ most ≤ 16 then some (marksL q.toNat least.toNat most.toNat) else none
set_option linter.unusedVariables false
set_option linter.unusedSimpArgs false
def sucR (q : Nat) : List UInt8 → List UInt8
 | [] => [48]
 | c :: r => if lab c < (q : Int) - 1 then letB (lab c + 1) :: r else 48 :: sucR q r
def sucW (q : Nat) (w : List UInt8) : List UInt8 := (sucR q w.reverse).reverse
theorem sucW_snoc (q : Nat) (w : List UInt8) (c : UInt8) : sucW q (w ++ [c]) = if lab c < (q : Int) - 1 then w ++ [letB (lab c + 1)] else sucW q w ++ [48] := by
 unfold sucW
 rw [List.reverse_append]
 show (if lab c < (q : Int) - 1 then letB (lab c + 1) :: w.reverse else 48 :: sucR q w.reverse).reverse = _
 split
 ·rw [List.reverse_cons, List.reverse_reverse]
 ·rw [List.reverse_cons]
theorem letB_get {i : Nat} (h : i < 16) : ∃ hi : i < letters.length, letB (i : Int) = letters[i] ∧ lab letters[i] = (i : Int) := by
 have hi : i < letters.length := by rw [letters_len]; exact h
 refine ⟨hi, ?_, idx_letter hi⟩
 unfold letB
 rw [Int.toNat_natCast, List.getD_eq_getElem?_getD, List.getElem?_eq_getElem hi]
 rfl
theorem lab_letB {i : Nat} (h : i < 16) : lab (letB (i : Int)) = (i : Int) := by
 obtain ⟨hi, h1, h2⟩ := letB_get h
 rw [h1, h2]
theorem mem_take16 {q : Nat} {c : UInt8} (h : c ∈ letters.take q) : ∃ i : Nat, i < 16 ∧ i < q ∧ c = letB (i : Int) ∧ lab c = (i : Int) := by
 obtain ⟨i, hi, rfl⟩ := List.mem_take_iff_getElem.1 h
 have hi' : i < letters.length := by omega
 rw [letters_len] at hi hi'
 obtain ⟨hh, h1, h2⟩ := letB_get hi'
 exact ⟨i, hi', by omega, h1.symm, h2⟩
theorem take_map {q : Nat} (h : q ≤ 16) : letters.take q = (List.range q).map fun (i : Nat) => letB (i : Int) := by
 refine List.ext_getElem (by rw [List.length_take, letters_len, List.length_map, List.length_range]; omega) fun i h1 h2 => ?_
 rw [List.getElem_take, List.getElem_map, List.getElem_range]
 rw [List.length_take, letters_len] at h1
 exact (letB_get (by omega)).2.1.symm
def runS (s : List UInt8 → List UInt8) : List (List UInt8) → List UInt8 → List UInt8 → Prop
 | [], a, b => a = b
 | x :: l, a, b => x = a ∧ runS s l (s x) b
theorem runS_app {s : List UInt8 → List UInt8} : ∀ {l m : List (List UInt8)} {a b c : List UInt8}, runS s l a b → runS s m b c → runS s (l ++ m) a c
 | [], m, a, b, c, h1, h2 => by cases h1; exact h2
 | x :: l, m, a, b, c, h1, h2 => ⟨h1.1, runS_app h1.2 h2⟩
theorem zero_letter : letB (0 : Int) = 48 := by decide
theorem runS_last {q : Nat} (hq : 1 ≤ q) (h16 : q ≤ 16) (x : List UInt8) : ∀ (d s : Nat), s + d + 1 = q → runS (sucW q) ((List.range' s (d + 1)).map fun (i : Nat) => x ++ [letB (i : Int)]) (x ++ [letB (s : Int)]) (sucW q x ++ [48])
 | 0, s, h => by
  rw [List.range'_succ, List.map_cons]
  refine ⟨rfl, ?_⟩
  rw [sucW_snoc, lab_letB (by omega), if_neg (by omega)]
  rfl
 | d + 1, s, h => by
  rw [List.range'_succ, List.map_cons]
  refine ⟨rfl, ?_⟩
  rw [sucW_snoc, lab_letB (by omega), if_pos (by omega)]
  exact runS_last hq h16 x d (s + 1) (by omega)
theorem runS_flat {q : Nat} (hq : 1 ≤ q) (h16 : q ≤ 16) : ∀ {l : List (List UInt8)} {a b : List UInt8}, runS (sucW q) l a b → runS (sucW q) (l.flatMap fun w => (letters.take q).map fun c => w ++ [c]) (a ++ [48]) (b ++ [48])
 | [], a, b, h => by cases h; rfl
 | x :: l, a, b, h => by
  obtain ⟨rfl, h2⟩ := h
  rw [List.flatMap_cons]
  refine runS_app (b := sucW q x ++ [48]) ?_ (runS_flat hq h16 h2)
  have := runS_last hq h16 x (q - 1) 0 (by omega)
  rw [take_map h16, List.map_map, List.range_eq_range', show q = q - 1 + 1 by omega]
  rw [show q - 1 + 1 = q by omega] at this ⊢
  rw [show letB ((0 : Nat) : Int) = 48 from zero_letter] at this
  exact this
theorem runS_allW {q : Nat} (hq : 1 ≤ q) (h16 : q ≤ 16) : ∀ n, runS (sucW q) (allW (letters.take q) n) (List.replicate n 48) (List.replicate (n + 1) 48)
 | 0 => ⟨rfl, rfl⟩
 | n + 1 => by
  have := runS_flat hq h16 (runS_allW hq h16 n)
  rw [← List.replicate_succ', ← List.replicate_succ'] at this
  exact this
theorem runS_marks {q : Nat} (hq : 1 ≤ q) (h16 : q ≤ 16) (least : Nat) : ∀ d, runS (sucW q) ((List.range d).flatMap fun j => allW (letters.take q) (least + j)) (List.replicate least 48) (List.replicate (least + d) 48)
 | 0 => rfl
 | d + 1 => by
  rw [List.range_succ, List.flatMap_append]
  refine runS_app (runS_marks hq h16 least d) ?_
  have := runS_allW hq h16 (least + d)
  rw [List.flatMap_cons, List.flatMap_nil, List.append_nil]
  exact this
theorem sucR_over {q : Nat} (hq : 1 ≤ q) (h16 : q ≤ 16) : ∀ {w : List UInt8}, (∀ c ∈ w, c ∈ letters.take q) → ∀ c ∈ sucR q w, c ∈ letters.take q
 | [], _, c, hc => by
  unfold sucR at hc
  rw [List.mem_singleton] at hc
  subst hc
  rw [take_map h16]
  exact List.mem_map.2 ⟨0, List.mem_range.2 (by omega), zero_letter⟩
 | d :: w, h, c, hc => by
  have h0 : (48 : UInt8) ∈ letters.take q := by
   rw [take_map h16]
   exact List.mem_map.2 ⟨0, List.mem_range.2 (by omega), zero_letter⟩
  obtain ⟨i, i1, i2, i3, i4⟩ := mem_take16 (h d (List.mem_cons_self ..))
  unfold sucR at hc
  split at hc
  ·rename_i hl
   rcases List.mem_cons.1 hc with rfl | hc
   ·rw [take_map h16, i4]
    exact List.mem_map.2 ⟨i + 1, List.mem_range.2 (by omega), rfl⟩
   ·exact h c (List.mem_cons_of_mem _ hc)
  ·rcases List.mem_cons.1 hc with rfl | hc
   ·exact h0
   ·exact sucR_over hq h16 (fun c hc => h c (List.mem_cons_of_mem _ hc)) c hc
theorem sucW_over {q : Nat} (hq : 1 ≤ q) (h16 : q ≤ 16) {w : List UInt8} (h : ∀ c ∈ w, c ∈ letters.take q) : ∀ c ∈ sucW q w, c ∈ letters.take q := fun c hc => by
 unfold sucW at hc
 rw [List.mem_reverse] at hc
 exact sucR_over hq h16 (fun c hc => h c (List.mem_reverse.1 hc)) c hc
theorem Next_eq {q : Nat} (hq : 1 ≤ q) (h16 : q ≤ 16) {w : List UInt8} (hw : ∀ c ∈ w, c ∈ letters.take q) (hl : w.length ≤ 1000) : m_word_Next (q : Int) w = some (sucW q w, 0) := by
  obtain ⟨e, he, hz⟩ := wcheck (q : Int) w
  have h0 := hz.2 ⟨⟨by omega, by omega⟩, by omega, by rw [Int.toNat_natCast]; exact hw⟩
  unfold m_word_Next
  rw [he, Option.bind_some, if_neg (by omega)]
  have hmx : 1000000 ≤ maxLen := by decide
  have hib : ∀ i : Nat, i < 16 → m_strings_IndexByte [48, 49, 50, 51, 52, 53, 54, 55, 56, 57, 97, 98, 99, 100, 101, 102] ((letB (i : Int)).toNat : Int) = some (i : Int) := fun i hi => by
    unfold m_strings_IndexByte
    rw [byte_back]
    exact congrArg some (lab_letB hi)
  have hwq : IntKind.wrap .i64 ((q : Int) - 1) = ((q - 1 : Nat) : Int) := by rw [w64 (by omega) (by omega)]; omega
  -- the loop, from k letters on
  have hgen : ∀ (k z : Nat), k + z = w.length → loopW (S := Int × (List Int)) (X := Ou ((List Int)) ((List UInt8) × Int)) (fun a4 =>
      if 0 ≤ a4.1 then
       (idx a4.2 a4.1).bind fun x8 =>
       (idx a4.2 a4.1).bind fun x10 =>
       (m_strings_IndexByte [48, 49, 50, 51, 52, 53, 54, 55, 56, 57, 97, 98, 99, 100, 101, 102] x10).bind fun x12 =>
       if x12 < (IntKind.wrap .i64 ((q : Int) - 1)) then
        (idx ([48, 49, 50, 51, 52, 53, 54, 55, 56, 57, 97, 98, 99, 100, 101, 102] : List UInt8) (IntKind.wrap .i64 (x12 + 1))).bind fun x14 =>
        (idx a4.2 a4.1).bind fun x16 =>
        some (Stp.exit (Ou.ret (((a4.2).set (a4.1).toNat (x14.toNat : Int)).map fun (n : Int) => UInt8.ofNat n.toNat, 0)))
       else
        (idx a4.2 a4.1).bind fun x18 =>
        some (Stp.next (IntKind.wrap .i64 (a4.1 - 1), (a4.2).set (a4.1).toNat 48))
      else
       some (Stp.exit (Ou.go a4.2))) ((k : Int) - 1, (w.take k ++ List.replicate z (48 : UInt8)).map fun c => (c.toNat : Int)) = some (if sucW q (w.take k) = List.replicate (k + 1) (48 : UInt8) then .go ((List.replicate (k + z) (48 : UInt8)).map fun c => (c.toNat : Int)) else .ret (sucW q (w.take k) ++ List.replicate z (48 : UInt8), 0)) := by
    intro k
    induction k with
    | zero =>
      intro z hz
      refine (loopW_exit (x := .go ((List.replicate z (48 : UInt8)).map fun c => (c.toNat : Int))) ?_).trans ?_
      · dsimp only
        rw [if_neg (by omega)]
        rfl
      · rw [List.take_zero, if_pos (show sucW q [] = List.replicate (0 + 1) (48 : UInt8) from rfl), Nat.zero_add]
    | succ k ih =>
      intro z hz
      have hkl : k < w.length := by omega
      obtain ⟨i, i1, i2, i3, i4⟩ := mem_take16 (hw w[k] (List.getElem_mem hkl))
      have ht : w.take (k + 1) = w.take k ++ [w[k]] := by rw [List.take_append_getElem]
      have hs := sucW_snoc q (w.take k) w[k]
      rw [← ht, i4] at hs
      have hlen : (w.take (k + 1)).length = k + 1 := by rw [List.length_take]; omega
      have hlen0 : (w.take k).length = k := by rw [List.length_take]; omega
      have hkt : k < ((w.take (k + 1) ++ List.replicate z (48 : UInt8)).map fun c => (c.toNat : Int)).length := by rw [List.length_map, List.length_append, hlen]; omega
      have hget : ((w.take (k + 1) ++ List.replicate z (48 : UInt8)).map fun c => (c.toNat : Int))[k] = (w[k].toNat : Int) := by
        rw [List.getElem_map, List.getElem_append_left (by omega), List.getElem_take]
      have hsub : ((k + 1 : Nat) : Int) - 1 = (k : Int) := by omega
      have hset : ∀ v : UInt8, ((w.take (k + 1) ++ List.replicate z (48 : UInt8)).map fun c => (c.toNat : Int)).set k (v.toNat : Int) = (w.take k ++ (v :: List.replicate z (48 : UInt8))).map fun c => (c.toNat : Int) := fun v => by
        rw [show ((v.toNat : Int)) = (fun c : UInt8 => (c.toNat : Int)) v from rfl, ← List.map_set, ht, List.append_assoc, List.set_append, if_neg (by omega), hlen0, Nat.sub_self]
        rfl
      rw [hsub, hs]
      by_cases hq1 : (i : Int) < (q : Int) - 1
      · have hi1 : i + 1 < 16 := by omega
        obtain ⟨hh, h1, h2⟩ := letB_get hi1
        rw [if_pos hq1, if_neg]
        · refine loopW_exit ?_
          dsimp only
          rw [if_pos (Int.natCast_nonneg _), ix hkt, Option.bind_some, Option.bind_some, hget, i3, hib i i1, Option.bind_some, hwq, if_pos (by omega), nx (n := 16) (by omega) i1]
          rw [show idx ([48, 49, 50, 51, 52, 53, 54, 55, 56, 57, 97, 98, 99, 100, 101, 102] : List UInt8) ((i + 1 : Nat) : Int) = some letters[i + 1] from ix (l := letters) hh, Option.bind_some, Option.bind_some, Int.toNat_natCast, hset, ← h1]
          rw [List.map_map]
          refine congrArg (fun l => some (Stp.exit (Ou.ret (l, (0 : Int))))) ?_
          rw [show ((i + 1 : Nat) : Int) = (i : Int) + 1 by omega, List.append_assoc]
          conv => rhs; rw [← List.map_id (w.take k ++ ([letB ((i : Int) + 1)] ++ List.replicate z (48 : UInt8)))]
          refine List.map_congr_left fun c _ => ?_
          simp
        · intro he
          have := congrArg (fun l => l.getLast?) he
          rw [List.getLast?_append] at this
          simp [List.getLast?_replicate] at this
          have h3 := congrArg lab this
          rw [show (i : Int) + 1 = ((i + 1 : Nat) : Int) by omega, lab_letB hi1] at h3
          have : lab 48 = 0 := by decide
          omega
      · rw [if_neg hq1]
        refine (loopW_next (s' := ((k : Int) - 1, (w.take k ++ List.replicate (z + 1) (48 : UInt8)).map fun c => (c.toNat : Int))) ?_).trans ?_
        · dsimp only
          rw [if_pos (Int.natCast_nonneg _), ix hkt, Option.bind_some, Option.bind_some, hget, i3, hib i i1, Option.bind_some, hwq, if_neg (by omega), Option.bind_some, w64 (by omega) (by omega), Int.toNat_natCast]
          rw [show (48 : Int) = ((48 : UInt8).toNat : Int) from rfl, hset]
          rfl
        · rw [ih (z + 1) (by omega)]
          have hiff : sucW q (w.take k) = List.replicate (k + 1) (48 : UInt8) ↔ sucW q (w.take k) ++ [48] = List.replicate (k + 1 + 1) (48 : UInt8) := by
            rw [List.replicate_succ' (n := k + 1)]
            exact (List.append_left_inj [48]).symm
          by_cases he : sucW q (w.take k) = List.replicate (k + 1) (48 : UInt8)
          · rw [if_pos he, if_pos (hiff.1 he), show k + (z + 1) = k + 1 + z by omega]
          · rw [if_neg he, if_neg (fun h => he (hiff.2 h)), List.append_assoc]
            rfl
  have h1 := hgen w.length 0 (by omega)
  have hstart : IntKind.wrap .i64 (((((w.map fun c => (c.toNat : Int))).length : Nat) : Int) - 1) = (w.length : Int) - 1 := by rw [List.length_map, w64 (by omega) (by omega)]
  rw [List.take_length, List.replicate_zero, List.append_nil] at h1
  rw [hstart]
  refine lpL h1 ?_
  by_cases he : sucW q w = List.replicate (w.length + 1) (48 : UInt8)
  · rw [if_pos he]
    show (if _ then _ else _) = _
    rw [if_neg (by rw [List.length_map, List.length_replicate]; omega)]
    have hb : ((List.replicate (w.length + 0) (48 : UInt8)).map fun c => (c.toNat : Int)).map (fun (n : Int) => UInt8.ofNat n.toNat) = List.replicate w.length (48 : UInt8) := by
      rw [List.map_map, List.map_replicate]; rfl
    rw [hb, if_pos (by rw [List.length_replicate, List.length_singleton]; omega), he, List.replicate_succ']
  · rw [if_neg he, List.append_nil]
    rfl
end Go.AW
namespace Go.AW
open Go Go.Proofs
set_option linter.unusedVariables false
theorem marks_len {q least most : Nat} {x : List UInt8} (h : x ∈ marksL q least most) : x.length ≤ most ∧ ∀ c ∈ x, c ∈ letters.take q := by
  obtain ⟨j, hj, hx⟩ := List.mem_flatMap.1 h
  obtain ⟨h1, h2⟩ := mem_allW.1 hx
  rw [List.mem_range] at hj
  exact ⟨by omega, h2⟩
theorem rep48 : ∀ n : Nat, (List.replicate n ([48] : List UInt8)).flatten = List.replicate n 48
  | 0 => rfl
  | n + 1 => by rw [List.replicate_succ, List.flatten_cons, rep48 n, List.replicate_succ]; rfl
set_option maxRecDepth 100000 in
theorem iy_syncmark_marks {least most q : Int} {L : List (List UInt8)} (h : y_syncmark_marks least most q = some L) : Yields Tryz.prog 65 [] [.fptr [hI least] 0, .fptr [hI most] 0, .fptr [hI q] 0] (L.map fun x => [.str x]) := by
  unfold y_syncmark_marks at h
  split at h
  case isFalse => cases h
  rename_i hm
  have h := Option.some.inj h
  obtain ⟨⟨q1, q16⟩, l1, lm, m16⟩ := hm
  obtain ⟨Q, rfl⟩ := Int.eq_ofNat_of_zero_le (show 0 ≤ q by omega)
  obtain ⟨A, rfl⟩ := Int.eq_ofNat_of_zero_le (show 0 ≤ least by omega)
  obtain ⟨M, rfl⟩ := Int.eq_ofNat_of_zero_le (show 0 ≤ most by omega)
  rw [Int.toNat_natCast, Int.toNat_natCast, Int.toNat_natCast] at h
  have hrun := runS_marks (q := Q) (by omega) (by omega) A (M + 1 - A)
  rw [show A + (M + 1 - A) = M + 1 by omega] at hrun
  have hrun : runS (sucW Q) L (List.replicate A 48) (List.replicate (M + 1) 48) := by rw [← h]; exact hrun
  have hL : ∀ x ∈ L, x.length ≤ M ∧ ∀ c ∈ x, c ∈ letters.take Q := fun x hx => marks_len (q := Q) (least := A) (by rw [h]; exact hx)
  have h48 : (48 : UInt8) ∈ letters.take Q := by
    rw [take_map (by omega)]
    exact List.mem_map.2 ⟨0, List.mem_range.2 (by omega), zero_letter⟩
  intro id ver H J Stop K hmn h0 hstep hdone hstop
  refine ACall.of_body Tryz.func65 rfl rfl (lb rfl) ?_
  unfold Tryz.f65
  dsimp only [enumS, Nat.reduceAdd]
  refine AW.rgs rfl fun K1 hK => ?_
  refine bv rfl (v_loadF ty3 rfl (l_lit rfl rfl)) ?_
  have hrp : m_strings_Repeat [48] ((A : Nat) : Int) = some (List.replicate A 48) := by
    unfold m_strings_Repeat
    rw [if_pos ⟨by omega, by omega, by simp; omega⟩, Int.toNat_natCast]
    rw [rep48]
  refine b_op rfl (o_call rfl rfl rfl rfl (ACallD.pure0 (w_strings_Repeat hrp)) ?_)
  refine mv rfl rfl ?_
  refine b_nil (hK _ (AW.to (to_le (s' := ⟨[(0, .yl id ver), (1, .fptr [hI (A : Int)] 0), (2, .fptr [hI (M : Int)] 0), (3, .fptr [hI (Q : Int)] 0), (5, .str (List.replicate A 48))], H⟩) (le_slH ⟨rfl, rfl, rfl, rfl, rfl, trivial⟩) ?_)))
  clear hK K1
  refine AW.block ?_
  refine AW.loopS (fun p : Nat × List UInt8 × Heap => ⟨[(0, .yl id ver), (1, .fptr [hI (A : Int)] 0), (2, .fptr [hI (M : Int)] 0), (3, .fptr [hI (Q : Int)] 0), (5, .str p.2.1)], p.2.2⟩)
    (fun p => (p.1 ≤ L.length ∧ runS (sucW Q) (L.drop p.1) p.2.1 (List.replicate (M + 1) 48) ∧ ∀ c ∈ p.2.1, c ∈ letters.take Q) ∧ J p.1 p.2.2) (fun p => L.length - p.1) (0, List.replicate A 48, H) (AS.le_refl _) ⟨⟨Nat.zero_le _, by rw [List.drop_zero]; exact hrun, fun c hc => by rw [(List.mem_replicate.1 hc).2]; exact h48⟩, h0⟩ ?_
  rintro ⟨i, w, H1⟩ ⟨⟨hi, hr, hw⟩, hj⟩
  dsimp only at hi hr hw hj ⊢
  refine AW.seq ?_
  refine AW.rgs rfl fun K1 hK => ?_
  refine mv rfl rfl (bv rfl (v_lenS rfl rfl ty9 rfl) (bv rfl (v_loadF ty3 rfl (l_lit rfl rfl)) (bv rfl (v_bin rfl rfl b_leq) ?_)))
  refine b_nil (hK _ (AW.to (to_le (s' := ⟨[(0, .yl id ver), (1, .fptr [hI (A : Int)] 0), (2, .fptr [hI (M : Int)] 0), (3, .fptr [hI (Q : Int)] 0), (5, .str w), (13, .bool (decide ((w.length : Int) ≤ (M : Int))))], H1⟩) (le_slH ⟨rfl, rfl, rfl, rfl, rfl, rfl, trivial⟩) ?_)))
  clear hK K1
  refine AW.cond rfl (fun hc => ?_) (fun hc => ?_)
  · have hc := of_decide_eq_true hc
    have hlt : i < L.length := by
      rcases Nat.lt_or_ge i L.length with hlt | hge
      · exact hlt
      · rw [List.drop_of_length_le hge] at hr
        have hr : w = List.replicate (M + 1) 48 := hr
        rw [hr, List.length_replicate] at hc
        omega
    have hD : L.drop i = L[i] :: L.drop (i + 1) := List.drop_eq_getElem_cons hlt
    rw [hD] at hr
    obtain ⟨hx, hr2⟩ := hr
    have hxm := hL _ (List.getElem_mem hlt)
    refine AW.skip ?_
    refine AW.block ?_
    refine AW.seq ?_
    refine AW.rgs rfl fun K1 hK => ?_
    refine mv rfl rfl (mv rfl rfl ?_)
    refine b_op rfl (o_yield (hs := [.str w]) rfl rfl rfl ?_)
    refine (hstep i [.str w] _ ?_ hj).mono ?_
    · rw [List.getElem?_map, List.getElem?_eq_getElem hlt, hx]
      rfl
    rintro r H2 ⟨b, rfl, h3, h4⟩
    refine bv rfl (v_not rfl) ?_
    refine b_nil (hK _ (AW.to (to_le (s' := ⟨[(0, .yl id ver), (1, .fptr [hI (A : Int)] 0), (2, .fptr [hI (M : Int)] 0), (3, .fptr [hI (Q : Int)] 0), (5, .str w), (17, .bool (!b))], H2⟩) (le_slH ⟨rfl, rfl, rfl, rfl, rfl, rfl, trivial⟩) ?_)))
    clear hK K1
    refine AW.cond rfl (fun hc => ?_) (fun hc => ?_)
    · have hb : b = false := by simpa using hc
      refine AW.ret ⟨.inr rfl, ?_⟩
      simp only [go_sem, reduceIte, Nat.reduceEqDiff]
      exact ⟨_, _, Conv.refl _ _, hstop _ (h4 hb)⟩
    · have hb : b = true := by simpa using hc
      have hwl : w.length ≤ 16 := by omega
      have hnx := Next_eq (q := Q) (by omega) (by omega) hw (by omega)
      refine AW.skip ?_
      refine AW.rgs rfl fun K1 hK => ?_
      refine bv rfl (v_loadF ty3 rfl (l_lit rfl rfl)) (mv rfl rfl ?_)
      refine b_op rfl (o_call rfl rfl rfl rfl (ACallD.pure0 (w_word_Next hnx)) ?_)
      refine mv rfl rfl (bv rfl (v_extract rfl rfl) (bv rfl (v_extract rfl rfl) (mv rfl rfl (mv rfl rfl ?_))))
      refine b_nil (hK _ (AW.to (to_le (s' := ⟨[(0, .yl id ver), (1, .fptr [hI (A : Int)] 0), (2, .fptr [hI (M : Int)] 0), (3, .fptr [hI (Q : Int)] 0), (6, .str (sucW Q w)), (7, .int .i64 0)], H2⟩) (le_slH ⟨rfl, rfl, rfl, rfl, rfl, rfl, trivial⟩) ?_)))
      clear hK K1
      refine AW.seq ?_
      refine AW.rgs rfl fun K1 hK => ?_
      refine mv rfl rfl (bv rfl (v_bin rfl rfl b_neq) ?_)
      refine b_nil (hK _ (AW.to (to_le (s' := ⟨[(0, .yl id ver), (1, .fptr [hI (A : Int)] 0), (2, .fptr [hI (M : Int)] 0), (3, .fptr [hI (Q : Int)] 0), (6, .str (sucW Q w)), (25, .bool false)], H2⟩) (le_slH ⟨rfl, rfl, rfl, rfl, rfl, rfl, trivial⟩) ?_)))
      clear hK K1
      refine AW.cond rfl (fun hc => by cases hc) (fun _ => ?_)
      refine AW.skip ?_
      refine AW.rg rfl fun K1 hK => ?_
      refine mv rfl rfl (mv rfl rfl ?_)
      refine b_nil (hK _ ?_)
      clear hK K1
      refine ⟨(i + 1, sucW Q w, H2), ⟨⟨by dsimp only; omega, ?_, sucW_over (by omega) (by omega) hw⟩, h3 hb⟩, by dsimp only; omega, le_slH ⟨rfl, rfl, rfl, rfl, rfl, trivial⟩⟩
      dsimp only
      rw [hx] at hr2
      exact hr2
  · have hc := of_decide_eq_false hc
    have hge : i = L.length := by
      rcases Nat.lt_or_ge i L.length with hlt | hge
      · have hD : L.drop i = L[i] :: L.drop (i + 1) := List.drop_eq_getElem_cons hlt
        rw [hD] at hr
        have := hL _ (List.getElem_mem hlt)
        rw [hr.1] at this
        omega
      · omega
    refine AW.exit ?_
    refine ⟨.inl rfl, ?_⟩
    simp only [go_sem, reduceIte, Nat.reduceEqDiff]
    refine ⟨_, _, Conv.refl _ _, hdone _ ?_⟩
    rw [List.length_map, ← hge]
    exact hj
end Go.AW
namespace Go.AW
open Go
set_option linter.unusedVariables false
noncomputable def m_syncmark_Search (p0 : TLabelsStatesEdges) (p1 : Int) (p2 : Int) (p3 : Int) : Option ((List UInt8) × Int) :=
 (m_graph_Check p0).bind fun x3 =>
 if x3 ≠ 0 then
  some (([] : List UInt8), 1)
 else
  if 16 < p0.1 then
   some (([] : List UInt8), 12)
  else
   jp (fun (a5 : Bool) =>
     if a5 = true then
      some (([] : List UInt8), 2)
     else
      if 16 < p3 then
       some (([] : List UInt8), 4)
      else
       lpO (loopW (S := Int × Int) (X := Ou (Unit) ((List UInt8) × Int)) (fun a8 =>
           if a8.2 < p3 then
            if 65536 < (IntKind.wrap .i64 (a8.1 * p0.1)) then
             some (Stp.exit (Ou.ret (([] : List UInt8), 4)))
            else
             some (Stp.next (IntKind.wrap .i64 (a8.1 * p0.1), IntKind.wrap .i64 (a8.2 + 1)))
           else
            some (Stp.exit (Ou.go ()))) (1, 0)) (fun a12 =>
           (y_syncmark_marks p2 p3 p0.1).bind fun L14 =>
           lpO (forL (S := Unit) (X := (List UInt8)) (fun a16 (x18 : (List UInt8)) =>
               (m_syncmark_bad p0 x18 p1).bind fun x22 =>
               if (!x22.2) = true then
                some (Stp.exit x18)
               else
                some (Stp.next ())) L14 ()) (fun a24 =>
               some (([] : List UInt8), 20)) fun a26 =>
               some (a26, 0)) some)
     fun k7 =>
    if p1 < 0 then
     k7 true
    else
     if 4096 < p1 then
      k7 true
     else
      if p2 < 1 then
       k7 true
      else
       k7 (decide (p3 < p2))
noncomputable def m_syncmark_Damaged (p0 : TLabelsStatesEdges) (p1 : List UInt8) (p2 : Int) : Option (Int × Int) :=
 (m_syncmark_check p0 p1).bind fun x1 =>
 if x1 ≠ 0 then
  some (0, x1)
 else
  jp (fun (a3 : Bool) =>
    if a3 = true then
     some (0, 2)
    else
     (m_language_Words p0 p2).bind fun x6 =>
     if x6.2 ≠ 0 then
      some (0, x6.2)
     else
      (loopW (S := Int × Int) (X := Int) (fun a8 =>
          if a8.2 < ((x6.1).length : Int) then
           (idx x6.1 a8.2).bind fun x12 =>
           if p1.length + x12.length ≤ maxLen then
            if (p1 ++ x12).length + p1.length ≤ maxLen then
             (loopW (S := Int × Int) (X := Int) (fun a16 =>
                 if a16.2 < (IntKind.wrap .i64 (p2 + ((p1).length : Int))) then
                  jp (fun (a20 : Int) =>
                    some (Stp.next (a20, IntKind.wrap .i64 (a16.2 + 1))))
                    fun k22 =>
                   (loopW (S := Int × Int) (X := Int) (fun a23 =>
                       if a23.2 < ((p1).length : Int) then
                        jp (fun (a27 : Int) =>
                          some (Stp.next (a27, IntKind.wrap .i64 (a23.2 + 1))))
                          fun k29 =>
                         (idx ((p1 ++ x12) ++ p1) (IntKind.wrap .i64 (a16.2 + a23.2))).bind fun x30 =>
                         (idx p1 a23.2).bind fun x32 =>
                         if (x30.toNat : Int) ≠ (x32.toNat : Int) then
                          k29 (IntKind.wrap .i64 (a23.1 + 1))
                         else
                          k29 a23.1
                       else
                        some (Stp.exit a23.1)) (0, 0)).bind fun a34 =>
                   jp (fun (a36 : Bool) =>
                     if a36 = true then
                      k22 a34
                     else
                      k22 a16.1)
                     fun k38 =>
                    if a16.1 < 0 then
                     k38 true
                    else
                     k38 (decide (a34 < a16.1))
                 else
                  some (Stp.exit a16.1)) (a8.1, 1)).bind fun a40 =>
             some (Stp.next (a40, IntKind.wrap .i64 (a8.2 + 1)))
            else none
           else none
          else
           some (Stp.exit a8.1)) ((-1), 0)).bind fun a42 =>
      if a42 < 0 then
       some (0, 5)
      else
       some (a42, 0))
    fun k5 =>
   if p2 < 0 then
    k5 true
   else
    k5 (decide (12 < p2))
noncomputable def m_ref54_check (p0 : TLabelsStatesEdges) (p1 : List UInt8) : Option (Int) :=
 (m_ref09_Check p0).bind fun x1 =>
 if x1 ≠ 0 then
  some 1
 else
  if 16 < p0.1 then
   some 12
  else
   if p1 = ([] : List UInt8) then
    some 5
   else
    if 32 < ((p1).length : Int) then
     some 4
    else
     (m_ref07_Check p0.1 p1).bind fun x3 =>
     some x3
noncomputable def m_ref54_follow (p0 : List UInt8) (p1 : Int) (p2 : Int) : Option (Int) :=
 if 0 ≤ (0 : Int) ∧ (0 : Int) ≤ p1 ∧ p1 ≤ (p0.length : Int) then
  if ((p0.take (p1).toNat).drop (0 : Int).toNat).length + ([p2].map fun (n : Int) => UInt8.ofNat n.toNat).length ≤ maxLen then
   lpO (loopW (S := Int) (X := Ou (Unit) (Int)) (fun a3 =>
       if 0 < a3 then
        jp (fun (a7 : Bool) =>
          if a7 = true then
           some (Stp.exit (Ou.ret a3))
          else
           some (Stp.next (IntKind.wrap .i64 (a3 - 1))))
          fun k9 =>
         if a3 ≤ ((((p0.take (p1).toNat).drop (0 : Int).toNat) ++ ([p2].map fun (n : Int) => UInt8.ofNat n.toNat)).length : Int) then
          if 0 ≤ (IntKind.wrap .i64 (((((p0.take (p1).toNat).drop (0 : Int).toNat) ++ ([p2].map fun (n : Int) => UInt8.ofNat n.toNat)).length : Int) - a3) : Int) ∧ (IntKind.wrap .i64 (((((p0.take (p1).toNat).drop (0 : Int).toNat) ++ ([p2].map fun (n : Int) => UInt8.ofNat n.toNat)).length : Int) - a3) : Int) ≤ ((((p0.take (p1).toNat).drop (0 : Int).toNat) ++ ([p2].map fun (n : Int) => UInt8.ofNat n.toNat)).length : Int) ∧ ((((p0.take (p1).toNat).drop (0 : Int).toNat) ++ ([p2].map fun (n : Int) => UInt8.ofNat n.toNat)).length : Int) ≤ ((((p0.take (p1).toNat).drop (0 : Int).toNat) ++ ([p2].map fun (n : Int) => UInt8.ofNat n.toNat)).length : Int) then
           if 0 ≤ (0 : Int) ∧ (0 : Int) ≤ a3 ∧ a3 ≤ (p0.length : Int) then
            k9 (decide ((((((p0.take (p1).toNat).drop (0 : Int).toNat) ++ ([p2].map fun (n : Int) => UInt8.ofNat n.toNat)).take (((((p0.take (p1).toNat).drop (0 : Int).toNat) ++ ([p2].map fun (n : Int) => UInt8.ofNat n.toNat)).length : Int)).toNat).drop (IntKind.wrap .i64 (((((p0.take (p1).toNat).drop (0 : Int).toNat) ++ ([p2].map fun (n : Int) => UInt8.ofNat n.toNat)).length : Int) - a3)).toNat) = ((p0.take (a3).toNat).drop (0 : Int).toNat)))
           else none
          else none
         else
          k9 false
       else
        some (Stp.exit (Ou.go ()))) ((p0).length : Int)) (fun a13 =>
       some 0) some
  else none
 else none
noncomputable def m_ref54_tables (p0 : List UInt8) (p1 : Int) : Option ((List (List (Int))) × (List (Bool))) :=
 (loopW (S := Int × (List (List (Int))) × (List Bool)) (X := (List (List (Int))) × (List Bool)) (fun a3 =>
     if a3.1 ≤ ((p0).length : Int) then
      (loopW (S := Int × (List Int)) (X := (List Int)) (fun a8 =>
          if a8.1 < p1 then
           (idx ([48, 49, 50, 51, 52, 53, 54, 55, 56, 57, 97, 98, 99, 100, 101, 102] : List UInt8) a8.1).bind fun x12 =>
           (m_ref54_follow p0 a3.1 (x12.toNat : Int)).bind fun x14 =>
           if fits 8 ((a8.2 : List Int).length + ([x14]).length) then
            some (Stp.next (IntKind.wrap .i64 (a8.1 + 1), a8.2 ++ [x14]))
           else none
          else
           some (Stp.exit a8.2)) (0, [])).bind fun a18 =>
      if fits 24 ((a3.2.1 : List (List (Int))).length + ([a18]).length) then
       (loopW (S := Bool × Int × Int) (X := Bool) (fun a22 =>
           if (IntKind.wrap .i64 (a22.2.2 + 1)) < ((p0).length : Int) then
            jp (fun (a26 : Bool × Int) =>
              some (Stp.next (a26.1, a26.2, IntKind.wrap .i64 (a22.2.2 + 1))))
              fun k28 =>
             (idx p0 a22.2.2).bind fun x29 =>
             (m_ref54_follow p0 a22.2.1 (x29.toNat : Int)).bind fun x31 =>
             if a22.1 = true then
              k28 (true, x31)
             else
              k28 (decide (x31 = ((p0).length : Int)), x31)
           else
            some (Stp.exit a22.1)) (false, a3.1, 0)).bind fun a34 =>
       if fits 1 ((a3.2.2 : List Bool).length + ([a34]).length) then
        some (Stp.next (IntKind.wrap .i64 (a3.1 + 1), a3.2.1 ++ [a18], a3.2.2 ++ [a34]))
       else none
      else none
     else
      some (Stp.exit (a3.2.1, a3.2.2))) (0, [], [])).bind fun a38 =>
 some (a38.1, a38.2)
noncomputable def m_ref54_can (p0 : TLabelsStatesEdges) (p1 : List UInt8) (p2 : Int) : Option ((List (List (Bool)))) :=
 (m_ref54_tables p1 p0.1).bind fun x1 =>
 if 0 ≤ (IntKind.wrap .i64 ((IntKind.wrap .i64 (p0.2.1 * (IntKind.wrap .i64 (((p1).length : Int) + 1)))) * 2) : Int) ∧ (IntKind.wrap .i64 ((IntKind.wrap .i64 (p0.2.1 * (IntKind.wrap .i64 (((p1).length : Int) + 1)))) * 2) : Int) ≤ IntKind.wrap .i64 ((IntKind.wrap .i64 (p0.2.1 * (IntKind.wrap .i64 (((p1).length : Int) + 1)))) * 2) ∧ (IntKind.wrap .i64 ((IntKind.wrap .i64 (p0.2.1 * (IntKind.wrap .i64 (((p1).length : Int) + 1)))) * 2) : Int) * 1 ≤ 281474976710656 then
  (loopW (S := Int × (List Bool)) (X := (List Bool)) (fun a5 =>
      if a5.1 < p0.2.1 then
       (loopW (S := Int × (List Bool)) (X := (List Bool)) (fun a9 =>
           if a9.1 ≤ ((p1).length : Int) then
            (idx x1.2 a9.1).bind fun x13 =>
            (idx a9.2 (IntKind.wrap .i64 ((IntKind.wrap .i64 ((IntKind.wrap .i64 (a5.1 * (IntKind.wrap .i64 (((p1).length : Int) + 1)))) + a9.1)) * 2))).bind fun x15 =>
            (idx ((a9.2).set (IntKind.wrap .i64 ((IntKind.wrap .i64 ((IntKind.wrap .i64 (a5.1 * (IntKind.wrap .i64 (((p1).length : Int) + 1)))) + a9.1)) * 2)).toNat x13) (IntKind.wrap .i64 ((IntKind.wrap .i64 ((IntKind.wrap .i64 ((IntKind.wrap .i64 (a5.1 * (IntKind.wrap .i64 (((p1).length : Int) + 1)))) + a9.1)) * 2)) + 1))).bind fun x17 =>
            some (Stp.next (IntKind.wrap .i64 (a9.1 + 1), ((a9.2).set (IntKind.wrap .i64 ((IntKind.wrap .i64 ((IntKind.wrap .i64 (a5.1 * (IntKind.wrap .i64 (((p1).length : Int) + 1)))) + a9.1)) * 2)).toNat x13).set (IntKind.wrap .i64 ((IntKind.wrap .i64 ((IntKind.wrap .i64 ((IntKind.wrap .i64 (a5.1 * (IntKind.wrap .i64 (((p1).length : Int) + 1)))) + a9.1)) * 2)) + 1)).toNat true))
           else
            some (Stp.exit a9.2)) (0, a5.2)).bind fun a19 =>
       some (Stp.next (IntKind.wrap .i64 (a5.1 + 1), a19))
      else
       some (Stp.exit a5.2)) (0, List.replicate (IntKind.wrap .i64 ((IntKind.wrap .i64 (p0.2.1 * (IntKind.wrap .i64 (((p1).length : Int) + 1)))) * 2)).toNat (false : Bool))).bind fun a21 =>
  (loopW (S := Int × (List (List (Bool)))) (X := (List (List (Bool)))) (fun a24 =>
      if a24.1 < p2 then
       if 0 ≤ (IntKind.wrap .i64 ((IntKind.wrap .i64 (p0.2.1 * (IntKind.wrap .i64 (((p1).length : Int) + 1)))) * 2) : Int) ∧ (IntKind.wrap .i64 ((IntKind.wrap .i64 (p0.2.1 * (IntKind.wrap .i64 (((p1).length : Int) + 1)))) * 2) : Int) ≤ IntKind.wrap .i64 ((IntKind.wrap .i64 (p0.2.1 * (IntKind.wrap .i64 (((p1).length : Int) + 1)))) * 2) ∧ (IntKind.wrap .i64 ((IntKind.wrap .i64 (p0.2.1 * (IntKind.wrap .i64 (((p1).length : Int) + 1)))) * 2) : Int) * 1 ≤ 281474976710656 then
        (loopW (S := Int × (List Bool)) (X := (List Bool)) (fun a30 =>
            if a30.1 < ((p0.2.2).length : Int) then
             (idx p0.2.2 a30.1).bind fun x34 =>
             (loopW (S := Int × (List Bool)) (X := (List Bool)) (fun a37 =>
                 if a37.1 ≤ ((p1).length : Int) then
                  (idx x1.1 a37.1).bind fun x41 =>
                  (idx x41 x34.2.1).bind fun x43 =>
                  (loopW (S := Int × (List Bool)) (X := (List Bool)) (fun a45 =>
                      if a45.1 < 2 then
                       jp (fun (a49 : (List Bool)) =>
                         some (Stp.next (IntKind.wrap .i64 (a45.1 + 1), a49)))
                         fun k51 =>
                        jp (fun (a52 : Int) =>
                          (idx a24.2 a24.1).bind fun x55 =>
                          (idx a24.2 a24.1).bind fun x57 =>
                          (idx x57 (IntKind.wrap .i64 ((IntKind.wrap .i64 ((IntKind.wrap .i64 ((IntKind.wrap .i64 (x34.2.2 * (IntKind.wrap .i64 (((p1).length : Int) + 1)))) + x43)) * 2)) + a52))).bind fun x59 =>
                          if x59 = true then
                           (idx a45.2 (IntKind.wrap .i64 ((IntKind.wrap .i64 ((IntKind.wrap .i64 ((IntKind.wrap .i64 (x34.1 * (IntKind.wrap .i64 (((p1).length : Int) + 1)))) + a37.1)) * 2)) + a45.1))).bind fun x61 =>
                           k51 ((a45.2).set (IntKind.wrap .i64 ((IntKind.wrap .i64 ((IntKind.wrap .i64 ((IntKind.wrap .i64 (x34.1 * (IntKind.wrap .i64 (((p1).length : Int) + 1)))) + a37.1)) * 2)) + a45.1)).toNat true)
                          else
                           k51 a45.2)
                          fun k54 =>
                         if x43 = ((p1).length : Int) then
                          k54 1
                         else
                          k54 a45.1
                      else
                       some (Stp.exit a45.2)) (0, a37.2)).bind fun a63 =>
                  some (Stp.next (IntKind.wrap .i64 (a37.1 + 1), a63))
                 else
                  some (Stp.exit a37.2)) (0, a30.2)).bind fun a65 =>
             some (Stp.next (IntKind.wrap .i64 (a30.1 + 1), a65))
            else
             some (Stp.exit a30.2)) (0, List.replicate (IntKind.wrap .i64 ((IntKind.wrap .i64 (p0.2.1 * (IntKind.wrap .i64 (((p1).length : Int) + 1)))) * 2)).toNat (false : Bool))).bind fun a67 =>
        if fits 24 ((a24.2 : List (List (Bool))).length + ([a67]).length) then
         some (Stp.next (IntKind.wrap .i64 (a24.1 + 1), a24.2 ++ [a67]))
        else none
       else none
      else
       some (Stp.exit a24.2)) (0, [a21])).bind fun a71 =>
  some a71
 else none
noncomputable def m_ref54_Valid (p0 : TLabelsStatesEdges) (p1 : List UInt8) (p2 : Int) : Option (Bool × Int) :=
 (m_ref54_check p0 p1).bind fun x1 =>
 if x1 ≠ 0 then
  some (false, x1)
 else
  jp (fun (a3 : Bool) =>
    if a3 = true then
     some (false, 2)
    else
     (m_ref54_can p0 p1 p2).bind fun x6 =>
     lpO (loopW (S := Int) (X := Ou (Unit) (Bool × Int)) (fun a8 =>
         if a8 < p0.2.1 then
          (idx x6 p2).bind fun x12 =>
          (idx x12 (IntKind.wrap .i64 ((IntKind.wrap .i64 ((IntKind.wrap .i64 (a8 * (IntKind.wrap .i64 (((p1).length : Int) + 1)))) + ((p1).length : Int))) * 2))).bind fun x14 =>
          if x14 = true then
           some (Stp.exit (Ou.ret (false, 0)))
          else
           some (Stp.next (IntKind.wrap .i64 (a8 + 1)))
         else
          some (Stp.exit (Ou.go ()))) 0) (fun a16 =>
         some (true, 0)) some)
    fun k5 =>
   if p2 < 0 then
    k5 true
   else
    k5 (decide (4096 < p2))
noncomputable def m_ref54_Search (p0 : TLabelsStatesEdges) (p1 : Int) (p2 : Int) (p3 : Int) : Option ((List UInt8) × Int) :=
 (m_ref09_Check p0).bind fun x1 =>
 if x1 ≠ 0 then
  some (([] : List UInt8), 1)
 else
  if 16 < p0.1 then
   some (([] : List UInt8), 12)
  else
   jp (fun (a3 : Bool) =>
     if a3 = true then
      some (([] : List UInt8), 2)
     else
      if 16 < p3 then
       some (([] : List UInt8), 4)
      else
       lpO (loopW (S := Int × Int) (X := Ou (Unit) ((List UInt8) × Int)) (fun a6 =>
           if a6.2 < p3 then
            if 65536 < (IntKind.wrap .i64 (a6.1 * p0.1)) then
             some (Stp.exit (Ou.ret (([] : List UInt8), 4)))
            else
             some (Stp.next (IntKind.wrap .i64 (a6.1 * p0.1), IntKind.wrap .i64 (a6.2 + 1)))
           else
            some (Stp.exit (Ou.go ()))) (1, 0)) (fun a10 =>
           lpO (loopW (S := (List (List UInt8)) × Int) (X := Ou (Unit) ((List UInt8) × Int)) (fun a12 =>
               if a12.2 ≤ p3 then
                lpO (loopW (S := Int × (List (List UInt8))) (X := Ou ((List (List UInt8))) ((List UInt8) × Int)) (fun a17 =>
                    if a17.1 < ((a12.1).length : Int) then
                     lpO (loopW (S := Int × (List (List UInt8))) (X := Ou ((List (List UInt8))) ((List UInt8) × Int)) (fun a21 =>
                         if a21.1 < p0.1 then
                          jp (fun (a25 : (List (List UInt8))) =>
                            some (Stp.next (IntKind.wrap .i64 (a21.1 + 1), a25)))
                            fun k27 =>
                           (idx a12.1 a17.1).bind fun x28 =>
                           if 0 ≤ (a21.1 : Int) ∧ (a21.1 : Int) ≤ IntKind.wrap .i64 (a21.1 + 1) ∧ IntKind.wrap .i64 (a21.1 + 1) ≤ (([48, 49, 50, 51, 52, 53, 54, 55, 56, 57, 97, 98, 99, 100, 101, 102] : List UInt8).length : Int) then
                            if x28.length + ((([48, 49, 50, 51, 52, 53, 54, 55, 56, 57, 97, 98, 99, 100, 101, 102] : List UInt8).take (IntKind.wrap .i64 (a21.1 + 1)).toNat).drop (a21.1).toNat).length ≤ maxLen then
                             if fits 16 ((a21.2 : List (List UInt8)).length + ([x28 ++ ((([48, 49, 50, 51, 52, 53, 54, 55, 56, 57, 97, 98, 99, 100, 101, 102] : List UInt8).take (IntKind.wrap .i64 (a21.1 + 1)).toNat).drop (a21.1).toNat)]).length) then
                              if a12.2 < p2 then
                               k27 (a21.2 ++ [x28 ++ ((([48, 49, 50, 51, 52, 53, 54, 55, 56, 57, 97, 98, 99, 100, 101, 102] : List UInt8).take (IntKind.wrap .i64 (a21.1 + 1)).toNat).drop (a21.1).toNat)])
                              else
                               (m_ref54_Valid p0 (x28 ++ ((([48, 49, 50, 51, 52, 53, 54, 55, 56, 57, 97, 98, 99, 100, 101, 102] : List UInt8).take (IntKind.wrap .i64 (a21.1 + 1)).toNat).drop (a21.1).toNat)) p1).bind fun x34 =>
                               if x34.1 = true then
                                some (Stp.exit (Ou.ret (x28 ++ ((([48, 49, 50, 51, 52, 53, 54, 55, 56, 57, 97, 98, 99, 100, 101, 102] : List UInt8).take (IntKind.wrap .i64 (a21.1 + 1)).toNat).drop (a21.1).toNat), 0)))
                               else
                                k27 (a21.2 ++ [x28 ++ ((([48, 49, 50, 51, 52, 53, 54, 55, 56, 57, 97, 98, 99, 100, 101, 102] : List UInt8).take (IntKind.wrap .i64 (a21.1 + 1)).toNat).drop (a21.1).toNat)])
                             else none
                            else none
                           else none
                         else
                          some (Stp.exit (Ou.go a21.2))) (0, a17.2)) (fun a36 =>
                         some (Stp.next (IntKind.wrap .i64 (a17.1 + 1), a36))) (fun r => some (Stp.exit (Ou.ret r)))
                    else
                     some (Stp.exit (Ou.go a17.2))) (0, [])) (fun a38 =>
                    some (Stp.next (a38, IntKind.wrap .i64 (a12.2 + 1)))) (fun r => some (Stp.exit (Ou.ret r)))
               else
                some (Stp.exit (Ou.go ()))) ([([] : List UInt8)], 1)) (fun a40 =>
               some (([] : List UInt8), 20)) some) some)
     fun k5 =>
    if p1 < 0 then
     k5 true
    else
     if 4096 < p1 then
      k5 true
     else
      if p2 < 1 then
       k5 true
      else
       k5 (decide (p3 < p2))
noncomputable def m_ref54_Damaged (p0 : TLabelsStatesEdges) (p1 : List UInt8) (p2 : Int) : Option (Int × Int) :=
 (m_ref54_check p0 p1).bind fun x1 =>
 if x1 ≠ 0 then
  some (0, x1)
 else
  jp (fun (a3 : Bool) =>
    if a3 = true then
     some (0, 2)
    else
     (m_ref11_Words p0 p2).bind fun x6 =>
     if x6.2 ≠ 0 then
      some (0, x6.2)
     else
      (loopW (S := Int × Int) (X := Int) (fun a8 =>
          if a8.2 < ((x6.1).length : Int) then
           (idx x6.1 a8.2).bind fun x12 =>
           if p1.length + x12.length ≤ maxLen then
            if (p1 ++ x12).length + p1.length ≤ maxLen then
             (loopW (S := Int × Int) (X := Int) (fun a16 =>
                 if (IntKind.wrap .i64 (a16.2 + ((p1).length : Int))) < (((p1 ++ x12) ++ p1).length : Int) then
                  jp (fun (a20 : Int) =>
                    some (Stp.next (a20, IntKind.wrap .i64 (a16.2 + 1))))
                    fun k22 =>
                   (loopW (S := Int × Int) (X := Int) (fun a23 =>
                       if a23.2 < ((p1).length : Int) then
                        jp (fun (a27 : Int) =>
                          some (Stp.next (a27, IntKind.wrap .i64 (a23.2 + 1))))
                          fun k29 =>
                         (idx ((p1 ++ x12) ++ p1) (IntKind.wrap .i64 (a16.2 + a23.2))).bind fun x30 =>
                         (idx p1 a23.2).bind fun x32 =>
                         if (x30.toNat : Int) ≠ (x32.toNat : Int) then
                          k29 (IntKind.wrap .i64 (a23.1 + 1))
                         else
                          k29 a23.1
                       else
                        some (Stp.exit a23.1)) (0, 0)).bind fun a34 =>
                   jp (fun (a36 : Bool) =>
                     if a36 = true then
                      k22 a34
                     else
                      k22 a16.1)
                     fun k38 =>
                    if a16.1 < 0 then
                     k38 true
                    else
                     k38 (decide (a34 < a16.1))
                 else
                  some (Stp.exit a16.1)) (a8.1, 1)).bind fun a40 =>
             some (Stp.next (a40, IntKind.wrap .i64 (a8.2 + 1)))
            else none
           else none
          else
           some (Stp.exit a8.1)) ((-1), 0)).bind fun a42 =>
      if a42 < 0 then
       some (0, 5)
      else
       some (a42, 0))
    fun k5 =>
   if p2 < 0 then
    k5 true
   else
    k5 (decide (12 < p2))
noncomputable def m_law54_SyncmarkSearches (p0 : TLabelsStatesEdges) (p1 : List UInt8) (p2 : Int) (p3 : Int) (p4 : Int) : Option (Bool) :=
 jp (fun (a1 : Bool) =>
   if a1 = true then
    (m_law54_awake).bind fun x4 =>
    some x4
   else
    (m_syncmark_Search p0 p2 p3 p4).bind fun x6 =>
    (m_ref54_Search p0 p2 p3 p4).bind fun x8 =>
    (m_syncmark_Damaged p0 p1 p2).bind fun x10 =>
    (m_ref54_Damaged p0 p1 p2).bind fun x12 =>
    jp (fun (a14 : Bool) =>
      some a14)
      fun k16 =>
     if x6.1 = x8.1 then
      if x6.2 = x8.2 then
       if x10.1 = x12.1 then
        if x10.2 = x12.2 then
         (m_law54_awake).bind fun x17 =>
         k16 x17
        else
         k16 false
       else
        k16 false
      else
       k16 false
     else
      k16 false)
   fun k3 =>
  (m_law54_great p0).bind fun x23 =>
  if x23 = true then
   k3 true
  else
   (m_law54_long p1).bind fun x25 =>
   if x25 = true then
    k3 true
   else
    if 5 < p2 then
     if p2 ≤ 4096 then
      k3 true
     else
      if 4 < p4 then
       k3 (decide (p4 ≤ 16))
      else
       k3 false
    else
     if 4 < p4 then
      k3 (decide (p4 ≤ 16))
     else
      k3 false
end Go.AW
namespace Go.AW
open Go Go.Proofs
set_option maxHeartbeats 1600000
set_option maxRecDepth 100000
set_option linter.unusedVariables false
theorem w_language_Words {p0 : TLabelsStatesEdges} {p1 : Int} {r : (List (List UInt8)) × Int} (h : m_language_Words p0 p1 = some r) : Pure Tryz.prog 10 [gA p0, hI p1] (· = HV.tup [slE eStr r.1, hI r.2]) := by
 unfold m_language_Words at h
 refine Pure.of_body Tryz.func10 rfl rfl (lb rfl) fun hf => ?_
 unfold Tryz.f10
 dsimp only [enumS, Nat.reduceAdd]
 refine AW.rgs rfl fun K hK => b_op rfl (o_box rfl rfl rfl ?_)
 refine mv rfl rfl (mv rfl rfl ?_)
 refine bf hK ⟨[(1, hI p1), (2, gF p0)], []⟩ ?_
 refine AW.seq ?_
 refine AW.rgs rfl fun K hK => bv rfl (v_loadF ty24 rfl (l_litA rfl (lb rfl) rfl)) (mv rfl rfl ?_)
 obtain ⟨x1, h2, h⟩ := bS h
 refine b_op rfl (o_call rfl rfl rfl rfl (ACallD.pure0 (w_language_lengths h2)) ?_)
 refine mv rfl rfl ?_
 refine bf hK ⟨[(1, hI p1), (2, gF p0), (6, hI x1)], []⟩ ?_
 refine AW.rgs rfl fun K hK => mv rfl rfl (bv rfl (v_bin rfl rfl b_neq) ?_)
 refine bf hK ⟨[(1, hI p1), (2, gF p0), (6, hI x1), (13, .bool (decide (x1 ≠ 0)))], []⟩ ?_
 refine AW.cond rfl (fun hc => ?_) (fun hc => ?_)
 ·obtain ⟨hc, h⟩ := cT hc h
  refine AW.rgs rfl fun K hK => mv rfl rfl (mv rfl rfl (mv rfl rfl ?_))
  refine bf hK ⟨[(4, .v (.slice none 0 0)), (5, hI x1)], []⟩ ?_
  refine AW.to (to_weak ⟨[(4, slE eStr ([] : List (List UInt8))), (5, hI x1)], []⟩ ⟨⟨_, rfl, .nil _⟩, ⟨_, rfl, .refl _⟩, trivial⟩ trivial ?_)
  refine AW.ret ?_
  have h := Option.some.inj h
  subst h
  exact ret_pure (hs := [slE eStr ([] : List (List UInt8)), hI x1]) (.inr rfl) (resT rfl (resT rfl rfl)) rfl ⟨(clean_slE fun _ _ => ⟨trivial, trivial⟩), trivial, trivial⟩
 obtain ⟨hc, h⟩ := cF hc h
 refine AW.skip ?_
 refine AW.dys follows fun K hK => ?_
 refine y_st 4 rfl rfl ?_
 refine sv rfl (v_loadF ty24 rfl (l_litA rfl (lb rfl) rfl)) ?_
 refine sv rfl (v_loadF ty24 rfl (l_litA rfl (lb rfl) rfl)) ?_
 obtain ⟨x3, h4, h⟩ := bS h
 refine s_op rfl rfl (ops_call rfl rfl rfl rfl (ACallD.pure0 (w_language_states h4)) ?_)
 refine sm rfl rfl ?_
 refine s_nil ?_
 obtain ⟨x5, h6, h⟩ := bS h
 by_cases hg7 : x5.2 = true
 ·have h := ifT hg7 h
  refine y_op rfl rfl rfl rfl (o_callA rfl rfl rfl rfl (c_listT h6 hg7 fun i8 v9 es10 hes11 => ?_) )
  refine b_nil ?_
  refine y_st 10 rfl rfl ?_
  refine sm rfl rfl ?_
  refine sv rfl (v_extract rfl rfl) ?_
  refine sv rfl (v_extract rfl rfl) ?_
  refine sm rfl rfl ?_
  refine sm rfl rfl ?_
  refine s_nil ?_
  refine y_nil rfl (hK _ (AW.to (to_le (s' := ⟨[(7, .mp i8 v9), (8, .bool true)], [(i8, v9, .map es10)]⟩) (AS.le_of ⟨rfl, rfl, trivial⟩ ⟨hget_0, trivial⟩) ?_)))
  refine AW.seq ?_
  refine AW.rgs rfl fun K hK => mv rfl rfl (bv rfl (v_not rfl) ?_)
  refine b_fin hK (s' := ⟨[(7, .mp i8 v9), (24, .bool false)], [(i8, v9, .map es10)]⟩) (AS.le_of ⟨rfl, rfl, trivial⟩ ⟨hget_0, trivial⟩) ?_
  refine AW.cond rfl (fun hc => by cases hc) (fun _ => ?_)
  refine AW.skip ?_
  refine AW.rgs rfl fun K hK => mv rfl rfl ?_
  refine b_op rfl (o_callK [(i8, v9, .map es10)] rfl rfl rfl rfl (fun K hK => w82 hK) ?_)
  refine b_op rfl (o_callK (q := slE eStr (sortS ((x5.1).map Prod.fst))) [] rfl rfl rfl rfl (fun K hK => c_sortedKeys hes11 hK) ?_)
  refine mv rfl rfl (mv rfl rfl ?_)
  refine bf hK ⟨[(4, slE eStr (sortS ((x5.1).map Prod.fst))), (5, hI 0)], []⟩ ?_
  refine AW.ret ?_
  have h := Option.some.inj h
  subst h
  exact ret_pure (hs := [slE eStr (sortS ((x5.1).map Prod.fst)), hI 0]) (.inr rfl) (resT rfl (resT rfl rfl)) rfl ⟨(clean_slE fun _ _ => ⟨trivial, trivial⟩), trivial, trivial⟩
 have h := ifF hg7 h
 refine y_op rfl rfl rfl rfl (o_callA rfl rfl rfl rfl (c_listF h6 hg7 ?_) )
 refine b_nil ?_
 refine y_st 10 rfl rfl ?_
 refine sm rfl rfl ?_
 refine sv rfl (v_extract rfl rfl) ?_
 refine sv rfl (v_extract rfl rfl) ?_
 refine sm rfl rfl ?_
 refine sm rfl rfl ?_
 refine s_nil ?_
 refine y_nil rfl (hK _ (AW.to (to_le (s' := ⟨[(7, .v (.map none)), (8, .bool false)], []⟩) (le_q rfl rfl) ?_)))
 refine AW.seq ?_
 refine AW.rgs rfl fun K hK => mv rfl rfl (bv rfl (v_not rfl) ?_)
 refine bf hK ⟨[(7, .v (.map none)), (24, .bool true)], []⟩ ?_
 refine AW.cond rfl (fun _ => ?_) (fun hc => by cases hc)
 refine AW.rgs rfl fun K hK => mv rfl rfl (mv rfl rfl ?_)
 refine bf hK ⟨[(4, .v (.slice none 0 0)), (5, hI 4)], []⟩ ?_
 refine AW.to (to_weak ⟨[(4, slE eStr ([] : List (List UInt8))), (5, hI 4)], []⟩ ⟨⟨_, rfl, .nil _⟩, ⟨_, rfl, .refl _⟩, trivial⟩ trivial ?_)
 refine AW.ret ?_
 have h := Option.some.inj h
 subst h
 exact ret_pure (hs := [slE eStr ([] : List (List UInt8)), hI 4]) (.inr rfl) (resT rfl (resT rfl rfl)) rfl ⟨(clean_slE fun _ _ => ⟨trivial, trivial⟩), trivial, trivial⟩
theorem w_syncmark_Damaged {p0 : TLabelsStatesEdges} {p1 : List UInt8} {p2 : Int} {r : Int × Int} (h : m_syncmark_Damaged p0 p1 p2 = some r) : Pure Tryz.prog 18 [gA p0, .str p1, hI p2] (· = HV.tup [hI r.1, hI r.2]) := by
 unfold m_syncmark_Damaged at h
 refine Pure.of_body Tryz.func18 rfl rfl (lb rfl) fun hf => ?_
 unfold Tryz.f18
 dsimp only [enumS, Nat.reduceAdd]
 refine AW.rgs rfl fun K hK => b_op rfl (o_box rfl rfl rfl ?_)
 refine mv rfl rfl (mv rfl rfl ?_)
 refine bf hK ⟨[(1, .str p1), (2, hI p2), (3, gF p0)], []⟩ ?_
 refine AW.seq ?_
 refine AW.rgs rfl fun K hK => bv rfl (v_loadF ty24 rfl (l_litA rfl (lb rfl) rfl)) (mv rfl rfl ?_)
 obtain ⟨x1, h2, h⟩ := bS h
 refine b_op rfl (o_call rfl rfl rfl rfl (ACallD.pure0 (w_syncmark_check h2)) ?_)
 refine mv rfl rfl ?_
 refine bf hK ⟨[(1, .str p1), (2, hI p2), (3, gF p0), (8, hI x1)], []⟩ ?_
 refine AW.rgs rfl fun K hK => mv rfl rfl (bv rfl (v_bin rfl rfl b_neq) ?_)
 refine bf hK ⟨[(1, .str p1), (2, hI p2), (3, gF p0), (8, hI x1), (22, .bool (decide (x1 ≠ 0)))], []⟩ ?_
 refine AW.cond rfl (fun hc => ?_) (fun hc => ?_)
 ·obtain ⟨hc, h⟩ := cT hc h
  refine AW.rgs rfl fun K hK => mv rfl rfl (mv rfl rfl (mv rfl rfl ?_))
  refine bf hK ⟨[(6, hI 0), (7, hI x1)], []⟩ ?_
  refine AW.ret ?_
  have h := Option.some.inj h
  subst h
  exact ret_pure (hs := [hI 0, hI x1]) (.inr rfl) (resT rfl (resT rfl rfl)) rfl ⟨trivial, trivial, trivial⟩
 obtain ⟨hc, h⟩ := cF hc h
 refine AW.skip ?_
 refine AW.seq ?_
 refine AW.seqJ h (S := Bool) (V := Unit) (fun a v => ⟨[(1, .str p1), (2, hI p2), (3, gF p0), (29, .bool a)], []⟩) (fun a3 w4 h => ?_) (fun k5 h => ?_)
 ·refine AW.cond rfl (fun hc => ?_) (fun hc => ?_)
  ·have h := ifT hc h
   refine AW.rgs rfl fun K hK => mv rfl rfl (mv rfl rfl ?_)
   refine bf hK ⟨[(6, hI 0), (7, hI 2)], []⟩ ?_
   refine AW.ret ?_
   have h := Option.some.inj h
   subst h
   exact ret_pure (hs := [hI 0, hI 2]) (.inr rfl) (resT rfl (resT rfl rfl)) rfl ⟨trivial, trivial, trivial⟩
  have h := ifF (bF' hc) h
  refine AW.skip ?_
  refine AW.rgs rfl fun K hK => bv rfl (v_loadF ty24 rfl (l_litA rfl (lb rfl) rfl)) (mv rfl rfl ?_)
  obtain ⟨x6, h7, h⟩ := bS h
  refine b_op rfl (o_call rfl rfl rfl rfl (ACallD.pure0 (w_language_Words h7)) ?_)
  refine mv rfl rfl (bv rfl (v_extract rfl rfl) (bv rfl (v_extract rfl rfl) (mv rfl rfl (mv rfl rfl ?_))))
  refine bf hK ⟨[(1, .str p1), (2, hI p2), (9, slE eStr x6.1), (10, hI x6.2)], []⟩ ?_
  refine AW.seq ?_
  refine AW.rgs rfl fun K hK => mv rfl rfl (bv rfl (v_bin rfl rfl b_neq) ?_)
  refine bf hK ⟨[(1, .str p1), (2, hI p2), (9, slE eStr x6.1), (10, hI x6.2), (37, .bool (decide (x6.2 ≠ 0)))], []⟩ ?_
  refine AW.cond rfl (fun hc => ?_) (fun hc => ?_)
  ·obtain ⟨hc, h⟩ := cT hc h
   refine AW.rgs rfl fun K hK => mv rfl rfl (mv rfl rfl (mv rfl rfl ?_))
   refine bf hK ⟨[(6, hI 0), (7, hI x6.2)], []⟩ ?_
   refine AW.ret ?_
   have h := Option.some.inj h
   subst h
   exact ret_pure (hs := [hI 0, hI x6.2]) (.inr rfl) (resT rfl (resT rfl rfl)) rfl ⟨trivial, trivial, trivial⟩
  obtain ⟨hc, h⟩ := cF hc h
  refine AW.skip ?_
  refine AW.rgs rfl fun K hK => mv rfl rfl ?_
  refine bf hK ⟨[(1, .str p1), (2, hI p2), (9, slE eStr x6.1), (11, hI (-1))], []⟩ ?_
  refine AW.seq ?_
  refine AW.rgs rfl fun K hK => mv rfl rfl (bv rfl (v_lenF rfl rfl ty27 rfl) (mv rfl rfl ?_))
  refine bf hK ⟨[(1, .str p1), (2, hI p2), (11, hI (-1)), (39, slE eStr x6.1), (40, hI ((x6.1).length : Int)), (41, hI 0)], []⟩ ?_
  refine AW.lpX h (by first | exact up_then | exact up_to) (S := Int × Int) (V := Unit) (fun a v => ⟨[(1, .str p1), (2, hI p2), (11, hI a.1), (39, slE eStr x6.1), (40, hI ((x6.1).length : Int)), (41, hI a.2)], []⟩) ?_ (X := Int) (W := Unit) (fun a v => ⟨[(11, hI a)], []⟩) (fun a42 w43 h => ?_) (fun a8 w9 st10 h => ?_)
  ·exact to_L ⟨(), rfl⟩
  ·refine AW.seq ?_
   refine AW.rgs rfl fun K hK => mv rfl rfl (bv rfl (v_bin rfl rfl b_lss) ?_)
   refine bf hK ⟨[(11, hI a42), (85, .bool (decide (a42 < 0)))], []⟩ ?_
   refine AW.cond rfl (fun hc => ?_) (fun hc => ?_)
   ·obtain ⟨hc, h⟩ := cT hc h
    refine AW.rgs rfl fun K hK => mv rfl rfl (mv rfl rfl ?_)
    refine bf hK ⟨[(6, hI 0), (7, hI 5)], []⟩ ?_
    refine AW.ret ?_
    have h := Option.some.inj h
    subst h
    exact ret_pure (hs := [hI 0, hI 5]) (.inr rfl) (resT rfl (resT rfl rfl)) rfl ⟨trivial, trivial, trivial⟩
   obtain ⟨hc, h⟩ := cF hc h
   refine AW.skip ?_
   refine AW.rgs rfl fun K hK => mv rfl rfl (mv rfl rfl (mv rfl rfl ?_))
   refine bf hK ⟨[(6, hI a42), (7, hI 0)], []⟩ ?_
   refine AW.ret ?_
   have h := Option.some.inj h
   subst h
   exact ret_pure (hs := [hI a42, hI 0]) (.inr rfl) (resT rfl (resT rfl rfl)) rfl ⟨trivial, trivial, trivial⟩
  refine AW.rgs rfl fun K hK => bv rfl (v_bin rfl rfl b_lss) ?_
  refine bf hK ⟨[(1, .str p1), (2, hI p2), (11, hI a8.1), (39, slE eStr x6.1), (40, hI ((x6.1).length : Int)), (41, hI a8.2), (42, .bool (decide (a8.2 < ((x6.1).length : Int))))], []⟩ ?_
  refine AW.cseq rfl (fun hc => ?_) (fun hc => ?_)
  ·obtain ⟨hc, h⟩ := cT hc h
   refine AW.skip ?_
   refine AW.seq (AW.block ?_)
   refine AW.rgs rfl fun K hK => ?_
   obtain ⟨x12, h13, h⟩ := bS h
   refine bv rfl (v_idxF ty27 es27 rfl rfl (idx_lt h13)) (bv rfl (v_loadF ty9 rfl (l_cell eStr h13 (o := 0) rfl rfl)) (mv rfl rfl ?_))
   refine bf hK ⟨[(1, .str p1), (2, hI p2), (11, hI a8.1), (13, .str x12), (39, slE eStr x6.1), (40, hI ((x6.1).length : Int)), (41, hI a8.2)], []⟩ ?_
   refine AW.rgs rfl fun K hK => mv rfl rfl (mv rfl rfl ?_)
   obtain ⟨h14, h⟩ := ifN h
   refine bv rfl (v_bin rfl rfl (b_sadd h14)) (mv rfl rfl ?_)
   obtain ⟨h15, h⟩ := ifN h
   refine bv rfl (v_bin rfl rfl (b_sadd h15)) (mv rfl rfl ?_)
   refine bf hK ⟨[(1, .str p1), (2, hI p2), (11, hI a8.1), (14, .str ((p1 ++ x12) ++ p1)), (39, slE eStr x6.1), (40, hI ((x6.1).length : Int)), (41, hI a8.2)], []⟩ ?_
   refine AW.rgs rfl fun K hK => mv rfl rfl ?_
   refine bf hK ⟨[(1, .str p1), (2, hI p2), (11, hI a8.1), (14, .str ((p1 ++ x12) ++ p1)), (15, hI 1), (39, slE eStr x6.1), (40, hI ((x6.1).length : Int)), (41, hI a8.2)], []⟩ ?_
   refine AW.lpX h (by first | exact up_then | exact up_to) (S := Int × Int) (V := Unit) (fun a v => ⟨[(1, .str p1), (2, hI p2), (11, hI a.1), (14, .str ((p1 ++ x12) ++ p1)), (15, hI a.2), (39, slE eStr x6.1), (40, hI ((x6.1).length : Int)), (41, hI a8.2)], []⟩) ?_ (X := Int) (W := Unit) (fun a v => ⟨[(1, .str p1), (2, hI p2), (11, hI a), (39, slE eStr x6.1), (40, hI ((x6.1).length : Int)), (41, hI a8.2)], []⟩) (fun a40 w41 h => ?_) (fun a16 w17 st18 h => ?_)
   ·exact to_L ⟨(), rfl⟩
   ·refine AW.rg rfl fun K hK => bv rfl (v_bin rfl rfl b_add) (mv rfl rfl ?_)
    refine b_nil (hK _ ?_)
    exact to_L ⟨(a40, IntKind.wrap .i64 (a8.2 + 1)), (), h, rfl⟩
   refine AW.seq ?_
   refine AW.rgs rfl fun K hK => mv rfl rfl (mv rfl rfl (mv rfl rfl (bv rfl (v_lenS rfl rfl ty9 rfl) (bv rfl (v_bin rfl rfl b_add) (bv rfl (v_bin rfl rfl b_lss) ?_)))))
   refine bf hK ⟨[(1, .str p1), (2, hI p2), (11, hI a16.1), (14, .str ((p1 ++ x12) ++ p1)), (15, hI a16.2), (39, slE eStr x6.1), (40, hI ((x6.1).length : Int)), (41, hI a8.2), (55, .bool (decide (a16.2 < (IntKind.wrap .i64 (p2 + ((p1).length : Int))))))], []⟩ ?_
   refine AW.cond rfl (fun hc => ?_) (fun hc => ?_)
   ·obtain ⟨hc, h⟩ := cT hc h
    refine AW.skip ?_
    refine AW.seqJ h (S := Int) (V := Unit) (fun a v => ⟨[(1, .str p1), (2, hI p2), (11, hI a), (14, .str ((p1 ++ x12) ++ p1)), (15, hI a16.2), (39, slE eStr x6.1), (40, hI ((x6.1).length : Int)), (41, hI a8.2)], []⟩) (fun a20 w21 h => ?_) (fun k22 h => ?_)
    ·refine AW.rg rfl fun K hK => mv rfl rfl (bv rfl (v_bin rfl rfl b_add) (mv rfl rfl ?_))
     refine b_nil (hK _ ?_)
     exact to_L ⟨(a20, IntKind.wrap .i64 (a16.2 + 1)), (), h, rfl⟩
    refine AW.block ?_
    refine AW.rgs rfl fun K hK => mv rfl rfl ?_
    refine bf hK ⟨[(1, .str p1), (2, hI p2), (11, hI a16.1), (14, .str ((p1 ++ x12) ++ p1)), (15, hI a16.2), (16, hI 0), (39, slE eStr x6.1), (40, hI ((x6.1).length : Int)), (41, hI a8.2)], []⟩ ?_
    refine AW.seq ?_
    refine AW.rgs rfl fun K hK => mv rfl rfl (bv rfl (v_lenS rfl rfl ty9 rfl) (mv rfl rfl ?_))
    refine bf hK ⟨[(1, .str p1), (2, hI p2), (11, hI a16.1), (14, .str ((p1 ++ x12) ++ p1)), (15, hI a16.2), (16, hI 0), (39, slE eStr x6.1), (40, hI ((x6.1).length : Int)), (41, hI a8.2), (59, hI ((p1).length : Int)), (60, hI 0)], []⟩ ?_
    refine AW.lpX h (by first | exact up_then | exact up_to) (S := Int × Int) (V := Unit) (fun a v => ⟨[(1, .str p1), (2, hI p2), (11, hI a16.1), (14, .str ((p1 ++ x12) ++ p1)), (15, hI a16.2), (16, hI a.1), (39, slE eStr x6.1), (40, hI ((x6.1).length : Int)), (41, hI a8.2), (59, hI ((p1).length : Int)), (60, hI a.2)], []⟩) ?_ (X := Int) (W := Unit) (fun a v => ⟨[(1, .str p1), (2, hI p2), (11, hI a16.1), (14, .str ((p1 ++ x12) ++ p1)), (15, hI a16.2), (16, hI a), (39, slE eStr x6.1), (40, hI ((x6.1).length : Int)), (41, hI a8.2)], []⟩) (fun a34 w35 h => ?_) (fun a23 w24 st25 h => ?_)
    ·exact to_L ⟨(), rfl⟩
    ·refine AW.seqJ h (S := Bool) (V := Unit) (fun a v => ⟨[(1, .str p1), (2, hI p2), (11, hI a16.1), (14, .str ((p1 ++ x12) ++ p1)), (15, hI a16.2), (16, hI a34), (39, slE eStr x6.1), (40, hI ((x6.1).length : Int)), (41, hI a8.2), (81, .bool a)], []⟩) (fun a36 w37 h => ?_) (fun k38 h => ?_)
     ·refine AW.cond rfl (fun hc => ?_) (fun hc => ?_)
      ·have h := ifT hc h
       refine AW.rg rfl fun K hK => mv rfl rfl (mv rfl rfl ?_)
       refine b_nil (hK _ ?_)
       exact to_L ⟨a34, (), h, rfl⟩
      have h := ifF (bF' hc) h
      refine AW.skip ?_
      exact to_L ⟨a16.1, (), h, rfl⟩
     refine AW.rg rfl fun K hK => mv rfl rfl (bv rfl (v_bin rfl rfl b_lss) (mv rfl rfl ?_))
     by_cases hg39 : a16.1 < 0
     ·have h := ifT hg39 h
      refine b_F rfl rfl rfl rfl rfl (decide_eq_true hg39) ?_
      refine b_F rfl rfl rfl rfl rfl rfl ?_
      refine b_F rfl rfl rfl rfl rfl rfl ?_
      refine bv rfl (v_pickT rfl rfl rfl) ?_
      refine b_nil (hK _ ?_)
      exact to_L ⟨true, (), h, rfl⟩
     have h := ifF hg39 h
     refine b_T rfl rfl rfl rfl (decide_eq_false hg39) (o_val rfl (mv_val rfl rfl).2 ?_)
     refine b_T rfl rfl rfl rfl rfl (o_val rfl (mv_val rfl rfl).2 ?_)
     refine b_T rfl rfl rfl rfl rfl (o_val rfl (v_bin rfl rfl b_lss) ?_)
     refine bv rfl (v_pickF rfl rfl rfl) ?_
     refine b_nil (hK _ ?_)
     exact to_L ⟨decide (a34 < a16.1), (), h, rfl⟩
    refine AW.rgs rfl fun K hK => bv rfl (v_bin rfl rfl b_lss) ?_
    refine bf hK ⟨[(1, .str p1), (2, hI p2), (11, hI a16.1), (14, .str ((p1 ++ x12) ++ p1)), (15, hI a16.2), (16, hI a23.1), (39, slE eStr x6.1), (40, hI ((x6.1).length : Int)), (41, hI a8.2), (59, hI ((p1).length : Int)), (60, hI a23.2), (61, .bool (decide (a23.2 < ((p1).length : Int))))], []⟩ ?_
    refine AW.cseq rfl (fun hc => ?_) (fun hc => ?_)
    ·obtain ⟨hc, h⟩ := cT hc h
     refine AW.skip ?_
     refine AW.seqJ h (S := Int) (V := Unit) (fun a v => ⟨[(1, .str p1), (2, hI p2), (11, hI a16.1), (14, .str ((p1 ++ x12) ++ p1)), (15, hI a16.2), (16, hI a), (39, slE eStr x6.1), (40, hI ((x6.1).length : Int)), (41, hI a8.2), (59, hI ((p1).length : Int)), (60, hI a23.2)], []⟩) (fun a27 w28 h => ?_) (fun k29 h => ?_)
     ·refine AW.rg rfl fun K hK => bv rfl (v_bin rfl rfl b_add) (mv rfl rfl ?_)
      refine b_nil (hK _ ?_)
      exact to_L ⟨(a27, IntKind.wrap .i64 (a23.2 + 1)), (), h, rfl⟩
     refine AW.block ?_
     refine AW.rgs rfl fun K hK => mv rfl rfl (mv rfl rfl ?_)
     refine bf hK ⟨[(1, .str p1), (2, hI p2), (11, hI a16.1), (14, .str ((p1 ++ x12) ++ p1)), (15, hI a16.2), (16, hI a23.1), (17, hI a23.2), (39, slE eStr x6.1), (40, hI ((x6.1).length : Int)), (41, hI a8.2), (59, hI ((p1).length : Int)), (60, hI a23.2)], []⟩ ?_
     refine AW.dgs 9 follows rfl rfl fun K hK => ?_
     refine sm rfl rfl ?_
     refine sm rfl rfl ?_
     refine sm rfl rfl ?_
     refine sv rfl (v_bin rfl rfl b_add) ?_
     obtain ⟨x30, h31, h⟩ := bS h
     refine sv rfl (v_idxS ty9 rfl rfl h31) ?_
     refine sm rfl rfl ?_
     refine sm rfl rfl ?_
     obtain ⟨x32, h33, h⟩ := bS h
     refine sv rfl (v_idxS ty9 rfl rfl h33) ?_
     refine sv rfl (v_bin rfl rfl b_neq) ?_
     refine s_nil ?_
     refine bf hK ⟨[(1, .str p1), (2, hI p2), (11, hI a16.1), (14, .str ((p1 ++ x12) ++ p1)), (15, hI a16.2), (16, hI a23.1), (39, slE eStr x6.1), (40, hI ((x6.1).length : Int)), (41, hI a8.2), (59, hI ((p1).length : Int)), (60, hI a23.2), (71, .bool (decide ((x30.toNat : Int) ≠ (x32.toNat : Int))))], []⟩ ?_
     refine AW.cond rfl (fun hc => ?_) (fun hc => ?_)
     ·obtain ⟨hc, h⟩ := cT hc h
      refine AW.rg rfl fun K hK => mv rfl rfl (bv rfl (v_bin rfl rfl b_add) (mv rfl rfl ?_))
      refine b_nil (hK _ ?_)
      exact to_L ⟨IntKind.wrap .i64 (a23.1 + 1), (), h, rfl⟩
     obtain ⟨hc, h⟩ := cF hc h
     refine AW.skip ?_
     exact to_L ⟨a23.1, (), h, rfl⟩
    obtain ⟨hc, h⟩ := cF hc h
    refine AW.exit ?_
    exact to_L ⟨a23.1, (), h, rfl⟩
   obtain ⟨hc, h⟩ := cF hc h
   refine AW.exit ?_
   exact to_L ⟨a16.1, (), h, rfl⟩
  obtain ⟨hc, h⟩ := cF hc h
  refine AW.exit ?_
  exact to_L ⟨a8.1, (), h, rfl⟩
 refine AW.rg rfl fun K hK => mv rfl rfl (bv rfl (v_bin rfl rfl b_lss) (mv rfl rfl ?_))
 by_cases hg44 : p2 < 0
 ·have h := ifT hg44 h
  refine b_F rfl rfl rfl rfl rfl (decide_eq_true hg44) ?_
  refine b_F rfl rfl rfl rfl rfl rfl ?_
  refine bv rfl (v_pickT rfl rfl rfl) ?_
  refine b_nil (hK _ ?_)
  exact to_L ⟨true, (), h, rfl⟩
 have h := ifF hg44 h
 refine b_T rfl rfl rfl rfl (decide_eq_false hg44) (o_val rfl (mv_val rfl rfl).2 ?_)
 refine b_T rfl rfl rfl rfl rfl (o_val rfl (v_bin rfl rfl b_gtr) ?_)
 refine bv rfl (v_pickF rfl rfl rfl) ?_
 refine b_nil (hK _ ?_)
 exact to_L ⟨decide (12 < p2), (), h, rfl⟩
theorem w_ref10_Great {p0 : TLabelsStatesEdges} {r : Bool} (h : m_ref10_Great p0 = some r) : Pure Tryz.prog 40 [gA p0] (· = HV.bool r) := by
 unfold m_ref10_Great at h
 refine Pure.of_body Tryz.func40 rfl rfl (lb rfl) fun hf => ?_
 unfold Tryz.f40
 dsimp only [enumS, Nat.reduceAdd]
 refine AW.rgs rfl fun K hK => b_op rfl (o_box rfl rfl rfl ?_)
 refine mv rfl rfl ?_
 refine bf hK ⟨[(1, gF p0)], []⟩ ?_
 refine AW.seqJ h (S := Bool) (V := Unit) (fun a v => ⟨[(2, .bool a)], []⟩) (fun a1 w2 h => ?_) (fun k3 h => ?_)
 ·refine AW.ret ?_
  have h := Option.some.inj h
  subst h
  exact ret_pure (hs := [.bool a1]) (.inr rfl) (resT rfl rfl) rfl trivial
 refine AW.rg rfl fun K hK => bv rfl (v_fieldAddrF fo24_1 rfl) (bv rfl (v_loadF ty3 rfl (l_lit rfl rfl)) (bv rfl (v_bin rfl rfl b_gtr) (mv rfl rfl ?_)))
 by_cases hg9 : 8 < p0.2.1
 ·have h := ifT hg9 h
  refine b_T rfl rfl rfl rfl (decide_eq_true hg9) (o_val rfl (v_fieldAddrF fo24_1 rfl) ?_)
  refine b_T rfl rfl rfl rfl rfl (o_val rfl (v_loadF ty3 rfl (l_lit rfl rfl)) ?_)
  refine b_T rfl rfl rfl rfl rfl (o_val rfl (v_bin rfl rfl b_leq) ?_)
  refine bv rfl (v_pickT rfl rfl rfl) (mv rfl rfl ?_)
  by_cases hg6 : p0.2.1 ≤ 64
  ·have h := ifT hg6 h
   refine b_F rfl rfl rfl rfl rfl (decide_eq_true hg6) ?_
   refine b_F rfl rfl rfl rfl rfl rfl ?_
   refine b_F rfl rfl rfl rfl rfl rfl ?_
   refine b_F rfl rfl rfl rfl rfl rfl ?_
   refine b_F rfl rfl rfl rfl rfl rfl ?_
   refine b_U rfl rfl rfl rfl rfl ?_
   refine b_U rfl rfl rfl rfl rfl ?_
   refine b_U rfl rfl rfl rfl rfl ?_
   refine b_U rfl rfl rfl rfl rfl ?_
   refine b_F rfl rfl rfl rfl rfl rfl ?_
   refine bv rfl (v_pickT rfl rfl rfl) (mv rfl rfl ?_)
   refine b_F rfl rfl rfl rfl rfl rfl ?_
   refine b_F rfl rfl rfl rfl rfl rfl ?_
   refine b_F rfl rfl rfl rfl rfl rfl ?_
   refine b_F rfl rfl rfl rfl rfl rfl ?_
   refine bv rfl (v_pickT rfl rfl rfl) (mv rfl rfl ?_)
   refine b_nil (hK _ ?_)
   exact to_L ⟨true, (), h, rfl⟩
  have h := ifF hg6 h
  refine b_T rfl rfl rfl rfl (decide_eq_false hg6) (o_val rfl (v_fieldAddrF fo24_2 rfl) ?_)
  refine b_T rfl rfl rfl rfl rfl (o_val rfl (v_loadF ty22 rfl (l_lit rfl rfl)) ?_)
  refine b_T rfl rfl rfl rfl rfl (o_val rfl (v_lenF rfl rfl ty22 rfl) ?_)
  refine b_T rfl rfl rfl rfl rfl (o_val rfl (v_bin rfl rfl b_gtr) ?_)
  refine b_T rfl rfl rfl rfl rfl (o_val rfl (mv_val rfl rfl).2 ?_)
  by_cases hg5 : 30 < ((p0.2.2).length : Int)
  ·have h := ifT hg5 h
   refine b_T rfl rfl rfl rfl (decide_eq_true hg5) (o_val rfl (v_fieldAddrF fo24_2 rfl) ?_)
   refine b_T rfl rfl rfl rfl rfl (o_val rfl (v_loadF ty22 rfl (l_lit rfl rfl)) ?_)
   refine b_T rfl rfl rfl rfl rfl (o_val rfl (v_lenF rfl rfl ty22 rfl) ?_)
   refine b_T rfl rfl rfl rfl rfl (o_val rfl (v_bin rfl rfl b_leq) ?_)
   refine b_T rfl rfl rfl rfl rfl (o_val rfl (v_pickT rfl rfl rfl) ?_)
   refine bv rfl (v_pickF rfl rfl rfl) (mv rfl rfl ?_)
   by_cases hg4 : ((p0.2.2).length : Int) ≤ 1024
   ·have h := ifT hg4 h
    refine b_F rfl rfl rfl rfl rfl (decide_eq_true hg4) ?_
    refine b_F rfl rfl rfl rfl rfl rfl ?_
    refine b_F rfl rfl rfl rfl rfl rfl ?_
    refine b_F rfl rfl rfl rfl rfl rfl ?_
    refine bv rfl (v_pickT rfl rfl rfl) (mv rfl rfl ?_)
    refine b_nil (hK _ ?_)
    exact to_L ⟨true, (), h, rfl⟩
   have h := ifF hg4 h
   refine b_T rfl rfl rfl rfl (decide_eq_false hg4) (o_val rfl (v_fieldAddrF fo24_2 rfl) ?_)
   refine b_T rfl rfl rfl rfl rfl (o_val rfl (v_loadF ty22 rfl (l_lit rfl rfl)) ?_)
   refine b_T rfl rfl rfl rfl rfl (o_val rfl (v_lenF rfl rfl ty22 rfl) ?_)
   refine b_T rfl rfl rfl rfl rfl (o_val rfl (v_bin rfl rfl b_gtr) ?_)
   refine bv rfl (v_pickF rfl rfl rfl) (mv rfl rfl ?_)
   refine b_nil (hK _ ?_)
   exact to_L ⟨decide (1027 < ((p0.2.2).length : Int)), (), h, rfl⟩
  have h := ifF hg5 h
  refine b_F rfl rfl rfl rfl rfl (decide_eq_false hg5) ?_
  refine b_F rfl rfl rfl rfl rfl rfl ?_
  refine b_F rfl rfl rfl rfl rfl rfl ?_
  refine b_F rfl rfl rfl rfl rfl rfl ?_
  refine b_T rfl rfl rfl rfl rfl (o_val rfl (v_pickF rfl rfl rfl) ?_)
  refine bv rfl (v_pickF rfl rfl rfl) (mv rfl rfl ?_)
  refine b_T rfl rfl rfl rfl rfl (o_val rfl (v_fieldAddrF fo24_2 rfl) ?_)
  refine b_T rfl rfl rfl rfl rfl (o_val rfl (v_loadF ty22 rfl (l_lit rfl rfl)) ?_)
  refine b_T rfl rfl rfl rfl rfl (o_val rfl (v_lenF rfl rfl ty22 rfl) ?_)
  refine b_T rfl rfl rfl rfl rfl (o_val rfl (v_bin rfl rfl b_gtr) ?_)
  refine bv rfl (v_pickF rfl rfl rfl) (mv rfl rfl ?_)
  refine b_nil (hK _ ?_)
  exact to_L ⟨decide (1027 < ((p0.2.2).length : Int)), (), h, rfl⟩
 have h := ifF hg9 h
 refine b_F rfl rfl rfl rfl rfl (decide_eq_false hg9) ?_
 refine b_F rfl rfl rfl rfl rfl rfl ?_
 refine b_F rfl rfl rfl rfl rfl rfl ?_
 refine bv rfl (v_pickF rfl rfl rfl) (mv rfl rfl ?_)
 refine b_T rfl rfl rfl rfl rfl (o_val rfl (v_fieldAddrF fo24_2 rfl) ?_)
 refine b_T rfl rfl rfl rfl rfl (o_val rfl (v_loadF ty22 rfl (l_lit rfl rfl)) ?_)
 refine b_T rfl rfl rfl rfl rfl (o_val rfl (v_lenF rfl rfl ty22 rfl) ?_)
 refine b_T rfl rfl rfl rfl rfl (o_val rfl (v_bin rfl rfl b_gtr) ?_)
 refine b_T rfl rfl rfl rfl rfl (o_val rfl (mv_val rfl rfl).2 ?_)
 by_cases hg8 : 30 < ((p0.2.2).length : Int)
 ·have h := ifT hg8 h
  refine b_T rfl rfl rfl rfl (decide_eq_true hg8) (o_val rfl (v_fieldAddrF fo24_2 rfl) ?_)
  refine b_T rfl rfl rfl rfl rfl (o_val rfl (v_loadF ty22 rfl (l_lit rfl rfl)) ?_)
  refine b_T rfl rfl rfl rfl rfl (o_val rfl (v_lenF rfl rfl ty22 rfl) ?_)
  refine b_T rfl rfl rfl rfl rfl (o_val rfl (v_bin rfl rfl b_leq) ?_)
  refine b_T rfl rfl rfl rfl rfl (o_val rfl (v_pickT rfl rfl rfl) ?_)
  refine bv rfl (v_pickF rfl rfl rfl) (mv rfl rfl ?_)
  by_cases hg7 : ((p0.2.2).length : Int) ≤ 1024
  ·have h := ifT hg7 h
   refine b_F rfl rfl rfl rfl rfl (decide_eq_true hg7) ?_
   refine b_F rfl rfl rfl rfl rfl rfl ?_
   refine b_F rfl rfl rfl rfl rfl rfl ?_
   refine b_F rfl rfl rfl rfl rfl rfl ?_
   refine bv rfl (v_pickT rfl rfl rfl) (mv rfl rfl ?_)
   refine b_nil (hK _ ?_)
   exact to_L ⟨true, (), h, rfl⟩
  have h := ifF hg7 h
  refine b_T rfl rfl rfl rfl (decide_eq_false hg7) (o_val rfl (v_fieldAddrF fo24_2 rfl) ?_)
  refine b_T rfl rfl rfl rfl rfl (o_val rfl (v_loadF ty22 rfl (l_lit rfl rfl)) ?_)
  refine b_T rfl rfl rfl rfl rfl (o_val rfl (v_lenF rfl rfl ty22 rfl) ?_)
  refine b_T rfl rfl rfl rfl rfl (o_val rfl (v_bin rfl rfl b_gtr) ?_)
  refine bv rfl (v_pickF rfl rfl rfl) (mv rfl rfl ?_)
  refine b_nil (hK _ ?_)
  exact to_L ⟨decide (1027 < ((p0.2.2).length : Int)), (), h, rfl⟩
 have h := ifF hg8 h
 refine b_F rfl rfl rfl rfl rfl (decide_eq_false hg8) ?_
 refine b_F rfl rfl rfl rfl rfl rfl ?_
 refine b_F rfl rfl rfl rfl rfl rfl ?_
 refine b_F rfl rfl rfl rfl rfl rfl ?_
 refine b_T rfl rfl rfl rfl rfl (o_val rfl (v_pickF rfl rfl rfl) ?_)
 refine bv rfl (v_pickF rfl rfl rfl) (mv rfl rfl ?_)
 refine b_T rfl rfl rfl rfl rfl (o_val rfl (v_fieldAddrF fo24_2 rfl) ?_)
 refine b_T rfl rfl rfl rfl rfl (o_val rfl (v_loadF ty22 rfl (l_lit rfl rfl)) ?_)
 refine b_T rfl rfl rfl rfl rfl (o_val rfl (v_lenF rfl rfl ty22 rfl) ?_)
 refine b_T rfl rfl rfl rfl rfl (o_val rfl (v_bin rfl rfl b_gtr) ?_)
 refine bv rfl (v_pickF rfl rfl rfl) (mv rfl rfl ?_)
 refine b_nil (hK _ ?_)
 exact to_L ⟨decide (1027 < ((p0.2.2).length : Int)), (), h, rfl⟩
theorem w_law54_great {p0 : TLabelsStatesEdges} {r : Bool} (h : m_law54_great p0 = some r) : Pure Tryz.prog 21 [gA p0] (· = HV.bool r) := by
 unfold m_law54_great at h
 refine Pure.of_body Tryz.func21 rfl rfl (lb rfl) fun hf => ?_
 unfold Tryz.f21
 dsimp only [enumS, Nat.reduceAdd]
 refine AW.rgs rfl fun K hK => b_op rfl (o_box rfl rfl rfl ?_)
 refine mv rfl rfl ?_
 refine bf hK ⟨[(1, gF p0)], []⟩ ?_
 refine AW.seqJ h (S := Bool) (V := Unit) (fun a v => ⟨[(2, .bool a)], []⟩) (fun a1 w2 h => ?_) (fun k3 h => ?_)
 ·refine AW.ret ?_
  have h := Option.some.inj h
  subst h
  exact ret_pure (hs := [.bool a1]) (.inr rfl) (resT rfl rfl) rfl trivial
 refine AW.rg rfl fun K hK => bv rfl (v_loadF ty24 rfl (l_litA rfl (lb rfl) rfl)) ?_
 obtain ⟨x4, h5, h⟩ := bS h
 refine b_op rfl (o_call rfl rfl rfl rfl (ACallD.pure0 (w_ref10_Great h5)) ?_)
 refine mv rfl rfl ?_
 by_cases hg7 : x4 = true
 ·have h := ifT hg7 h
  refine b_F rfl rfl rfl rfl rfl hg7 ?_
  refine b_F rfl rfl rfl rfl rfl rfl ?_
  refine b_F rfl rfl rfl rfl rfl rfl ?_
  refine b_F rfl rfl rfl rfl rfl rfl ?_
  refine b_U rfl rfl rfl rfl rfl ?_
  refine b_U rfl rfl rfl rfl rfl ?_
  refine b_U rfl rfl rfl rfl rfl ?_
  refine b_F rfl rfl rfl rfl rfl rfl ?_
  refine bv rfl (v_pickT rfl rfl rfl) (mv rfl rfl ?_)
  refine b_nil (hK _ ?_)
  exact to_L ⟨true, (), h, rfl⟩
 have h := ifF hg7 h
 refine b_T rfl rfl rfl rfl (bF hg7) (o_val rfl (v_fieldAddrF fo24_0 rfl) ?_)
 refine b_T rfl rfl rfl rfl rfl (o_val rfl (v_loadF ty3 rfl (l_lit rfl rfl)) ?_)
 refine b_T rfl rfl rfl rfl rfl (o_val rfl (v_bin rfl rfl b_gtr) ?_)
 refine b_T rfl rfl rfl rfl rfl (o_val rfl (mv_val rfl rfl).2 ?_)
 by_cases hg6 : 3 < p0.1
 ·have h := ifT hg6 h
  refine b_T rfl rfl rfl rfl (decide_eq_true hg6) (o_val rfl (v_fieldAddrF fo24_0 rfl) ?_)
  refine b_T rfl rfl rfl rfl rfl (o_val rfl (v_loadF ty3 rfl (l_lit rfl rfl)) ?_)
  refine b_T rfl rfl rfl rfl rfl (o_val rfl (v_bin rfl rfl b_leq) ?_)
  refine b_T rfl rfl rfl rfl rfl (o_val rfl (v_pickT rfl rfl rfl) ?_)
  refine bv rfl (v_pickF rfl rfl rfl) (mv rfl rfl ?_)
  refine b_nil (hK _ ?_)
  exact to_L ⟨decide (p0.1 ≤ 16), (), h, rfl⟩
 have h := ifF hg6 h
 refine b_F rfl rfl rfl rfl rfl (decide_eq_false hg6) ?_
 refine b_F rfl rfl rfl rfl rfl rfl ?_
 refine b_F rfl rfl rfl rfl rfl rfl ?_
 refine b_T rfl rfl rfl rfl rfl (o_val rfl (v_pickF rfl rfl rfl) ?_)
 refine bv rfl (v_pickF rfl rfl rfl) (mv rfl rfl ?_)
 refine b_nil (hK _ ?_)
 exact to_L ⟨false, (), h, rfl⟩
theorem w_law54_long {p0 : List UInt8} {r : Bool} (h : m_law54_long p0 = some r) : Pure Tryz.prog 22 [.str p0] (· = HV.bool r) := by
 unfold m_law54_long at h
 refine Pure.of_body Tryz.func22 rfl rfl (lb rfl) fun hf => ?_
 unfold Tryz.f22
 dsimp only [enumS, Nat.reduceAdd]
 refine AW.rgs rfl fun K hK => mv rfl rfl ?_
 refine bf hK ⟨[(0, .str p0)], []⟩ ?_
 refine AW.seqJ h (S := Bool) (V := Unit) (fun a v => ⟨[(2, .bool a)], []⟩) (fun a1 w2 h => ?_) (fun k3 h => ?_)
 ·refine AW.ret ?_
  have h := Option.some.inj h
  subst h
  exact ret_pure (hs := [.bool a1]) (.inr rfl) (resT rfl rfl) rfl trivial
 refine AW.rg rfl fun K hK => mv rfl rfl (bv rfl (v_lenS rfl rfl ty9 rfl) (bv rfl (v_bin rfl rfl b_gtr) (mv rfl rfl ?_)))
 by_cases hg5 : 6 < ((p0).length : Int)
 ·have h := ifT hg5 h
  refine b_T rfl rfl rfl rfl (decide_eq_true hg5) (o_val rfl (mv_val rfl rfl).2 ?_)
  refine b_T rfl rfl rfl rfl rfl (o_val rfl (v_lenS rfl rfl ty9 rfl) ?_)
  refine b_T rfl rfl rfl rfl rfl (o_val rfl (v_bin rfl rfl b_leq) ?_)
  refine bv rfl (v_pickT rfl rfl rfl) (mv rfl rfl ?_)
  by_cases hg4 : ((p0).length : Int) ≤ 32
  ·have h := ifT hg4 h
   refine b_F rfl rfl rfl rfl rfl (decide_eq_true hg4) ?_
   refine b_F rfl rfl rfl rfl rfl rfl ?_
   refine b_F rfl rfl rfl rfl rfl rfl ?_
   refine bv rfl (v_pickT rfl rfl rfl) (mv rfl rfl ?_)
   refine b_nil (hK _ ?_)
   exact to_L ⟨true, (), h, rfl⟩
  have h := ifF hg4 h
  refine b_T rfl rfl rfl rfl (decide_eq_false hg4) (o_val rfl (mv_val rfl rfl).2 ?_)
  refine b_T rfl rfl rfl rfl rfl (o_val rfl (v_lenS rfl rfl ty9 rfl) ?_)
  refine b_T rfl rfl rfl rfl rfl (o_val rfl (v_bin rfl rfl b_gtr) ?_)
  refine bv rfl (v_pickF rfl rfl rfl) (mv rfl rfl ?_)
  refine b_nil (hK _ ?_)
  exact to_L ⟨decide (35 < ((p0).length : Int)), (), h, rfl⟩
 have h := ifF hg5 h
 refine b_F rfl rfl rfl rfl rfl (decide_eq_false hg5) ?_
 refine b_F rfl rfl rfl rfl rfl rfl ?_
 refine b_F rfl rfl rfl rfl rfl rfl ?_
 refine bv rfl (v_pickF rfl rfl rfl) (mv rfl rfl ?_)
 refine b_T rfl rfl rfl rfl rfl (o_val rfl (mv_val rfl rfl).2 ?_)
 refine b_T rfl rfl rfl rfl rfl (o_val rfl (v_lenS rfl rfl ty9 rfl) ?_)
 refine b_T rfl rfl rfl rfl rfl (o_val rfl (v_bin rfl rfl b_gtr) ?_)
 refine bv rfl (v_pickF rfl rfl rfl) (mv rfl rfl ?_)
 refine b_nil (hK _ ?_)
 exact to_L ⟨decide (35 < ((p0).length : Int)), (), h, rfl⟩
theorem w_syncmark_marks (p0 : Int) (p1 : Int) (p2 : Int) : Pure Tryz.prog 42 [hI p0, hI p1, hI p2] (· = HV.fn (.func 65) [] [.fptr [hI p1] 0, .fptr [hI p2] 0, .fptr [hI p0] 0]) := by
 refine Pure.of_body Tryz.func42 rfl rfl (lb rfl) fun hf => ?_
 unfold Tryz.f42
 dsimp only [enumS, Nat.reduceAdd]
 refine AW.rgs rfl fun K hK => b_op rfl (o_box rfl rfl rfl ?_)
 refine b_op rfl (o_box rfl rfl rfl ?_)
 refine b_op rfl (o_box rfl rfl rfl ?_)
 refine mv rfl rfl ?_
 refine bf hK ⟨[(3, .fptr [hI p0] 0), (4, .fptr [hI p1] 0), (5, .fptr [hI p2] 0)], []⟩ ?_
 refine AW.rgs rfl fun K hK => bv rfl (v_func rfl rfl) (mv rfl rfl ?_)
 refine bf hK ⟨[(6, .fn (.func 65) [] [.fptr [hI p1] 0, .fptr [hI p2] 0, .fptr [hI p0] 0])], []⟩ ?_
 refine AW.ret ?_
 exact ret_pure (hs := [.fn (.func 65) [] [.fptr [hI p1] 0, .fptr [hI p2] 0, .fptr [hI p0] 0]]) (.inr rfl) (resT rfl rfl) rfl ⟨trivial, ⟨⟨trivial, trivial⟩, ⟨trivial, trivial⟩, ⟨trivial, trivial⟩, trivial⟩⟩
end Go.AW
