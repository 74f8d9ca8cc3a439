/- TopResetParsers: for every input the law's function returns true, and the input reads as it did. The package-level variables that the row lists start as the program lays them; the card ties that to the text. -/
import Derived.Test.YtnfbggalhcceoaaDoorRe4
import Derived.ChangeMaps5
import Derived.Handy
import Derived.Lay
import Derived.Lib.LaidTab
import Derived.OpenShut
import Derived.ProofKit
import Derived.SevenTiedAt
import Derived.SliceStrings
import Derived.Test.YtnfbggalhcceoaaDoorCards
import Derived.Test.YtnfbggalhcceoaaDoorRows
import Derived.Test.YtnfbggalhcceoaaDoorTie
import Derived.WalkKit
import Derived.WideKeyArgs
namespace Go.AW
open Go Go.Proofs
set_option maxHeartbeats 1600000
set_option maxRecDepth 100000
set_option linter.unusedVariables false
theorem w_parser_Run {p0 : TLettersPrefixesNextEmit} {p1 : Int} {p2 : List UInt8} {r : (List (Int)) × Int × Int} (h : m_parser_Run p0 p1 p2 = some r) : Pure Tryd.prog 10 [.agg [hI p0.1, slE eStr p0.2.1, slE (eSl eInt) p0.2.2.1, slE (eSl eInt) p0.2.2.2], hI p1, .str p2] (· = HV.tup [slE eInt r.1, hI r.2.1, hI r.2.2]) := by
 unfold m_parser_Run at h
 refine Pure.of_body Tryd.func10 rfl rfl (lb rfl) fun hf => ?_
 unfold Tryd.f10
 dsimp only [enumS, Nat.reduceAdd]
 refine AW.rgs rfl fun K hK => b_op rfl (o_box rfl rfl rfl ?_)
 refine b_op rfl (o_boxM (fid := 10) 10004 rfl rfl rfl rfl (fun v1 => ?_))
 refine mv rfl rfl (mv rfl rfl (mv rfl rfl ?_))
 let E1 : Nat × HV := (3, .fptr [hI p0.1, slE eStr p0.2.1, slE (eSl eInt) p0.2.2.1, slE (eSl eInt) p0.2.2.2] 0)
 let O2 : Nat × Nat × AObj := (10004, v1, .arr 1 3 [hI p1])
 let P1 : ASf := fun t H => ⟨(2, .str p2) :: E1 :: (4, .ptr 10004 v1 0) :: t, O2 :: H⟩
 refine bf hK (P1 [] []) ?_
 refine AW.seq ?_
 refine AW.rgs rfl fun K hK => bv rfl (v_loadF ty27 rfl (l_litA rfl (lb rfl) rfl)) (mv rfl rfl ?_)
 obtain ⟨x2, h3, h⟩ := bS h
 refine b_op rfl (o_call rfl rfl rfl rfl (ACallD.pure0 (w_parser_reads h3)) ?_)
 refine mv rfl rfl ?_
 refine bf hK (P1 [(9, hI x2)] []) ?_
 refine AW.rgs rfl fun K hK => mv rfl rfl (bv rfl (v_bin rfl rfl b_neq) ?_)
 refine bf hK (P1 [(9, hI x2), (18, .bool (decide (x2 ≠ 0)))] []) ?_
 refine AW.cond rfl (fun hc => ?_) (fun hc => ?_)
 ·obtain ⟨hc, h⟩ := cT hc h
  refine AW.rgs rfl fun K hK => mv rfl rfl (mv rfl rfl (mv rfl rfl (mv rfl rfl ?_)))
  refine bf hK ⟨[(6, .v (.slice none 0 0)), (7, hI 0), (8, hI x2)], []⟩ ?_
  refine AW.to (to_weak ⟨[(6, slE eInt ([] : List Int)), (7, hI 0), (8, hI x2)], []⟩ ⟨⟨_, rfl, .nil _⟩, ⟨_, rfl, .refl _⟩, ⟨_, rfl, .refl _⟩, trivial⟩ trivial ?_)
  obtain rfl := oi h
  exact AW.ret (ret_pure (.inr rfl) (resT rfl (resT rfl (resT rfl rfl))) rfl ⟨(clean_slE fun _ _ => ⟨trivial, trivial⟩), trivial, trivial, trivial⟩)
 obtain ⟨hc, h⟩ := cF hc h
 refine AW.skip ?_
 refine AW.seq ?_
 refine AW.seqJ h (S := Bool) (V := Unit) (fun a v => (P1 [(28, .bool a)] [])) (fun a4 w5 h => ?_) (fun k6 h => ?_)
 ·refine AW.cond rfl (fun hc => ?_) (fun hc => ?_)
  ·have h := ifT hc h
   refine AW.rgs rfl fun K hK => mv rfl rfl (mv rfl rfl (mv rfl rfl ?_))
   refine bf hK ⟨[(6, .v (.slice none 0 0)), (7, hI 0), (8, hI 25)], []⟩ ?_
   refine AW.to (to_weak ⟨[(6, slE eInt ([] : List Int)), (7, hI 0), (8, hI 25)], []⟩ ⟨⟨_, rfl, .nil _⟩, ⟨_, rfl, .refl _⟩, ⟨_, rfl, .refl _⟩, trivial⟩ trivial ?_)
   obtain rfl := oi h
   exact AW.ret (ret_pure (.inr rfl) (resT rfl (resT rfl (resT rfl rfl))) rfl ⟨(clean_slE fun _ _ => ⟨trivial, trivial⟩), trivial, trivial, trivial⟩)
  have h := ifF (bF' hc) h
  refine AW.skip ?_
  refine AW.rgs rfl fun K hK => b_op rfl (o_alloc (fid := 10) (zs := [.v (.slice none 0 0)]) 10010 rfl rfl ty39 rfl (fun v7 => ?_))
  let O3 : Nat × Nat × AObj := (10010, v7, .arr 1 39 [.v (.slice none 0 0)])
  refine bf hK (P1 [(10, .ptr 10010 v7 0)] [O3]) ?_
  refine AW.rgs rfl fun K hK => b_op rfl (o_alloc (fid := 10) (zs := [hI 0]) 10011 rfl rfl ty3 rfl (fun v8 => ?_))
  refine b_op rfl (o_store (cs := [hI 0]) (zs := [hI 0]) rfl rfl rfl ty3 rfl rfl rfl rfl rfl ?_)
  let O4 : Nat × Nat × AObj := (10011, v8, .arr 1 3 [hI 0])
  refine bf hK (P1 [(10, .ptr 10010 v7 0), (11, .ptr 10011 v8 0)] [O3, O4]) ?_
  refine AW.seq ?_
  refine AW.rgs rfl fun K hK => bv rfl (v_loadF ty27 rfl (l_litA rfl (lb rfl) rfl)) (bv rfl (v_loadP ty3 rfl rfl (l_lit rfl rfl)) (mv rfl rfl ?_))
  let P2 : ASf := fun t H => ⟨(2, .str p2) :: (4, .ptr 10004 v1 0) :: (10, .ptr 10010 v7 0) :: (11, .ptr 10011 v8 0) :: t, H⟩
  refine b_op rfl (o_callJ h (S := Unit) (V := Nat) (fun a v => (P2 [(32, .fn (.func 39) [] [.fptr [.str p2] 0, .fptr [hI p0.1, slE eStr p0.2.1, slE (eSl eInt) p0.2.2.1, slE (eSl eInt) p0.2.2.2] 0, .ptr 20001004 v 0])] [O2, O3, O4, (20001004, v, .arr 1 3 [hI p1])])) rfl rfl rfl rfl (fun a9 w10 h => ?_) (fun k11 h => ?_) )
  ·let E5 : Nat × HV := (32, .fn (.func 39) [] [.fptr [.str p2] 0, .fptr [hI p0.1, slE eStr p0.2.1, slE (eSl eInt) p0.2.2.1, slE (eSl eInt) p0.2.2.2] 0, .ptr 20001004 w10 0])
   refine bf hK (P2 [E5] [O2, O3, O4, (20001004, w10, .arr 1 3 [hI p1])]) ?_
   refine AW.block ?_
   refine AW.to (to_ownC 10040 10010 v7 1 0 eInt.k 3 39 rfl rfl (by decide) fun v12 => ?_)
   refine AW.to (to_le (s' := (P2 [E5] [(20001004, w10, .arr 1 3 [hI p1]), O2, (10010, v7, .arr 1 39 [.ar 10040 v12 eInt.k 0 ((([] : List Int)).length)]), O4, (10040, v12, .arr eInt.k 3 (eInt.E ([] : List Int)))])) (le_q rfl rfl) ?_)
   obtain ⟨L14, h15, h⟩ := bS h
   refine AW.rangeYO (c := .ret) 10900 20001004 w10 (.arr 1 3 [hI p1]) (fun x => [hI x.1, hI x.2]) h (by first | exact up_then | exact up_to) rfl (iy_parser_steps 20001004 w10 h15) (S := Int × Int × (List Int)) (V := Nat) (fun a v => [(10004, v1, .arr 1 3 [hI a.1]), (10010, v7, .arr 1 39 [.ar 10040 v eInt.k 0 ((a.2.2).length)]), (10011, v8, .arr 1 3 [hI a.2.1]), (10040, v, .arr eInt.k 3 (eInt.E a.2.2))]) v12 (X := Unit) (W := Unit) (fun _ _ => []) (fun _ _ => rfl) (fun _ _ => rfl) (fun _ _ => rfl) (by decide) rfl (fun _ => rfl) (fun a27 w28 h => ?_) (fun a29 w30 h => ?_) (fun Lo l21 v19 ob13 a16 x18 w17 st20 h => ?_)
   ·refine AW.seq ?_
    refine AW.rgs rfl fun K hK => bv rfl (v_loadP ty3 rfl rfl (l_lit rfl rfl)) (mv rfl rfl (bv rfl (v_lenS rfl rfl ty9 rfl) (bv rfl (v_bin rfl rfl b_lss) ?_)))
    refine bf hK ⟨[(4, .ptr 10004 v1 0), (10, .ptr 10010 v7 0), (47, .bool (decide (a27.2.1 < ((p2).length : Int))))], [(10004, v1, .arr 1 3 [hI a27.1]), (10010, v7, .arr 1 39 [.ar 10040 w28 eInt.k 0 ((a27.2.2).length)]), (10040, w28, .arr eInt.k 3 (eInt.E a27.2.2))]⟩ ?_
    refine AW.cond rfl (fun hc => ?_) (fun hc => ?_)
    ·obtain ⟨hc, h⟩ := cT hc h
     refine AW.rgs rfl fun K hK => mv rfl rfl (mv rfl rfl (mv rfl rfl ?_))
     refine bf hK ⟨[(6, .v (.slice none 0 0)), (7, hI 0), (8, hI 13)], []⟩ ?_
     refine AW.to (to_weak ⟨[(6, slE eInt ([] : List Int)), (7, hI 0), (8, hI 13)], []⟩ ⟨⟨_, rfl, .nil _⟩, ⟨_, rfl, .refl _⟩, ⟨_, rfl, .refl _⟩, trivial⟩ trivial ?_)
     obtain rfl := oi h
     exact AW.ret (ret_pure (.inr rfl) (resT rfl (resT rfl (resT rfl rfl))) rfl ⟨(clean_slE fun _ _ => ⟨trivial, trivial⟩), trivial, trivial, trivial⟩)
    obtain ⟨hc, h⟩ := cF hc h
    refine AW.skip ?_
    refine AW.dgs 5 follows rfl rfl fun K hK => ?_
    refine sv rfl (v_loadP ty39 rfl rfl (l_lit rfl rfl)) ?_
    refine sv rfl (v_loadP ty3 rfl rfl (l_lit rfl rfl)) ?_
    iterate 3 refine sm rfl rfl ?_
    refine s_nil ?_
    refine bf hK ⟨[(6, .ar 10040 w28 eInt.k 0 ((a27.2.2).length)), (7, hI a27.1), (8, hI 0)], [(10040, w28, .arr eInt.k 3 (eInt.E a27.2.2))]⟩ ?_
    refine AW.to (to_frz 2 [(10040, w28, .arr eInt.k 3 (eInt.E a27.2.2))] ⟨[(6, slE eInt a27.2.2), (7, hI a27.1), (8, hI 0)], []⟩ ⟨⟨_, rfl, frz_slE eInt (l := a27.2.2) rfl fun _ _ => rfl⟩, ⟨_, rfl, rfl⟩, ⟨_, rfl, rfl⟩, trivial⟩ trivial ⟨rfl, trivial⟩ ⟨rfl, trivial⟩ ?_)
    obtain rfl := oi h
    exact AW.ret (ret_pure (.inr rfl) (resT rfl (resT rfl (resT rfl rfl))) rfl ⟨(clean_slE fun _ _ => ⟨trivial, trivial⟩), trivial, trivial, trivial⟩)
   ·cases h
   refine AW.rgs rfl fun K hK => mv rfl rfl ?_
   let O6 : Nat × Nat × AObj := (10010, v7, .arr 1 39 [.ar 10040 w17 eInt.k 0 ((a16.2.2).length)])
   let O7 : Nat × Nat × AObj := (10011, v8, .arr 1 3 [hI a16.2.1])
   refine bf hK (P2 [(12, hI x18.1), (33, hI x18.1), (34, hI x18.2)] [(10900, v19, Lo .ready none), (20001004, w10, ob13), (10004, v1, .arr 1 3 [hI a16.1]), O6, O7, (10040, w17, .arr eInt.k 3 (eInt.E a16.2.2))]) ?_
   refine AW.rg rfl fun K hK => mv rfl rfl ?_
   refine b_nil (hK _ ?_)
   refine ⟨rfl, rfl, ?_⟩
   refine AW.block ?_
   refine AW.seq ?_
   refine AW.rgs rfl fun K hK => mv rfl rfl (bv rfl (v_bin rfl rfl b_geq) ?_)
   refine bf hK (P2 [(12, hI x18.1), (13, hI x18.2), (33, hI x18.1), (34, hI x18.2), (36, .bool (decide (0 ≤ x18.1)))] [(10900, v19, Lo .busy none), (20001004, w10, ob13), (10004, v1, .arr 1 3 [hI a16.1]), O6, O7, (10040, w17, .arr eInt.k 3 (eInt.E a16.2.2))]) ?_
   refine AW.lastJ h (by first | exact up_then | exact up_to) (S := (List Int)) (V := Nat) (fun a v => (P2 [(13, hI x18.2), (33, hI x18.1), (34, hI x18.2)] [(10004, v1, .arr 1 3 [hI a16.1]), (10010, v7, .arr 1 39 [.ar 10040 v eInt.k 0 ((a).length)]), O7, (10040, v, .arr eInt.k 3 (eInt.E a)), (10900, v19, Lo .busy none), (20001004, w10, ob13)])) (fun a22 w23 h => ?_) (fun k24 h => ?_)
   ·refine AW.rg rfl fun K hK => bv rfl (v_loadP ty3 rfl rfl (l_lit rfl rfl)) (bv rfl (v_bin rfl rfl b_add) (mv rfl rfl ?_))
    refine b_op rfl (o_store (cs := [hI (IntKind.wrap .i64 (a16.2.1 + 1))]) (zs := [hI (IntKind.wrap .i64 (a16.2.1 + 1))]) rfl rfl rfl ty3 rfl rfl rfl rfl rfl ?_)
    refine b_op rfl (o_store (cs := [hI x18.2]) (zs := [hI x18.2]) rfl rfl rfl ty3 rfl rfl rfl rfl rfl ?_)
    refine b_nil (hK _ ?_)
    exact ⟨(x18.2, IntKind.wrap .i64 (a16.2.1 + 1), a22), w23, h, (AS.le_of trivial ⟨rfl, rfl, rfl, rfl, rfl, rfl, trivial⟩)⟩
   refine AW.cond rfl (fun hc => ?_) (fun hc => ?_)
   ·obtain ⟨hc, h⟩ := cT hc h
    refine AW.rg rfl fun K hK => bv rfl (v_loadP ty39 rfl rfl (l_lit rfl rfl)) (mv rfl rfl ?_)
    refine b_op rfl (o_bsl rfl rfl (as_of (cs := [hI x18.1]) ty39 ty3 rfl rfl rfl rfl rfl) ?_)
    obtain ⟨h26, h⟩ := ifN h
    refine b_op rfl (o_appE eInt (l := a16.2.2) (m := [x18.1]) rfl rfl ty39 ty39 ty3 rfl rfl rfl rfl rfl h26 (fun v25 => ?_))
    refine b_op rfl (o_store (cs := [.ar 10040 v25 eInt.k 0 ((a16.2.2 ++ [x18.1]).length)]) (zs := [.ar 10040 v25 eInt.k 0 ((a16.2.2 ++ [x18.1]).length)]) rfl rfl rfl ty39 rfl rfl rfl rfl rfl ?_)
    refine b_nil (hK _ ?_)
    exact to_L ⟨a16.2.2 ++ [x18.1], v25, h, rfl⟩
   obtain ⟨hc, h⟩ := cF hc h
   refine AW.skip ?_
   exact to_L ⟨a16.2.2, w17, h, rfl⟩
  refine ACall.of_body Tryd.func24 rfl rfl (lb rfl) ?_
  unfold Tryd.f24
  dsimp only [enumS, Nat.reduceAdd]
  refine AW.fin ?_
  refine AW.rgs rfl fun K hK => b_op rfl (o_box rfl rfl rfl ?_)
  refine b_op rfl (o_boxM (fid := 20001) 20001004 rfl rfl rfl rfl (fun v31 => ?_))
  refine b_op rfl (o_box rfl rfl rfl ?_)
  refine mv rfl rfl ?_
  refine bf hK ⟨[E1, (4, .ptr 20001004 v31 0), (5, .fptr [.str p2] 0)], [O2, O3, O4, (20001004, v31, .arr 1 3 [hI p1])]⟩ ?_
  refine AW.rgs rfl fun K hK => bv rfl (v_func rfl rfl) (mv rfl rfl ?_)
  refine bf hK ⟨[(6, .fn (.func 39) [] [.fptr [.str p2] 0, .fptr [hI p0.1, slE eStr p0.2.1, slE (eSl eInt) p0.2.2.1, slE (eSl eInt) p0.2.2.2] 0, .ptr 20001004 v31 0])], [O2, O3, O4, (20001004, v31, .arr 1 3 [hI p1])]⟩ ?_
  refine AW.ret ?_
  refine ret_to (hs := [.fn (.func 39) [] [.fptr [.str p2] 0, .fptr [hI p0.1, slE eStr p0.2.1, slE (eSl eInt) p0.2.2.1, slE (eSl eInt) p0.2.2.2] 0, .ptr 20001004 v31 0]]) (q := HV.fn (.func 39) [] [.fptr [.str p2] 0, .fptr [hI p0.1, slE eStr p0.2.1, slE (eSl eInt) p0.2.2.1, slE (eSl eInt) p0.2.2.2] 0, .ptr 20001004 v31 0]) (.inr rfl) (resT rfl rfl) rfl ?_
  exact to_L ⟨(), v31, h, rfl⟩
 refine AW.rg rfl fun K hK => bv rfl (v_loadP ty3 rfl rfl (l_lit rfl rfl)) (bv rfl (v_bin rfl rfl b_lss) (mv rfl rfl ?_))
 by_cases hg32 : p1 < 0
 ·have h := ifT hg32 h
  refine b_F rfl rfl rfl rfl rfl (decide_eq_true hg32) ?_
  iterate 4 refine b_F rfl rfl rfl rfl rfl rfl ?_
  refine bv rfl (v_pickT rfl rfl rfl) ?_
  refine b_nil (hK _ ?_)
  exact to_L ⟨true, (), h, rfl⟩
 have h := ifF hg32 h
 refine b_T rfl rfl rfl rfl (decide_eq_false hg32) (o_val rfl (v_loadP ty3 rfl rfl (l_lit rfl rfl)) ?_)
 refine b_T rfl rfl rfl rfl rfl (o_val rfl (v_fieldAddrF fo27_1 rfl) ?_)
 refine b_T rfl rfl rfl rfl rfl (o_val rfl (v_loadF ty22 rfl (l_lit rfl rfl)) ?_)
 refine b_T rfl rfl rfl rfl rfl (o_val rfl (v_lenF rfl rfl ty22 rfl) ?_)
 refine b_T rfl rfl rfl rfl rfl (o_val rfl (v_bin rfl rfl b_geq) ?_)
 refine bv rfl (v_pickF rfl rfl rfl) ?_
 refine b_nil (hK _ ?_)
 exact to_L ⟨decide (((p0.2.1).length : Int) ≤ p1), (), h, rfl⟩
theorem w_top_TopResetParsers {p0 : TLettersWords} {p1 : List UInt8} {p2 : List UInt8} {r : Bool} (h : m_top_TopResetParsers p0 p1 p2 = some r) : Pure Tryd.prog 3 [.agg [hI p0.1, slE eStr p0.2], .str p1, .str p2] (· = HV.bool r) := by
 unfold m_top_TopResetParsers at h
 refine Pure.of_body Tryd.func3 rfl rfl (lb rfl) fun hf => ?_
 unfold Tryd.f3
 dsimp only [enumS, Nat.reduceAdd]
 refine AW.rgs rfl fun K hK => b_op rfl (o_box rfl rfl rfl ?_)
 refine mv rfl rfl ?_
 let E8 : Nat × HV := (3, .fptr [hI p0.1, slE eStr p0.2] 0)
 let P3 : ASf := fun t H => ⟨(1, .str p1) :: (2, .str p2) :: t, H⟩
 refine bf hK (P3 [E8] []) ?_
 refine AW.rgs rfl fun K hK => bv rfl (v_loadF ty24 rfl (l_litA rfl (lb rfl) rfl)) ?_
 obtain ⟨x1, h2, h⟩ := bS h
 refine b_op rfl (o_call rfl rfl rfl rfl (ACallD.pure0 (w_top_top45Machine h2)) ?_)
 refine mv rfl rfl (bv rfl (v_extract rfl rfl) (bv rfl (v_extract rfl rfl) (bv rfl (v_extract rfl rfl) ?_)))
 refine b_op rfl (o_alloc (fid := 3) (zs := [hI 0, .v (.slice none 0 0), .v (.slice none 0 0), .v (.slice none 0 0)]) 3007 rfl rfl ty27 rfl (fun v3 => ?_))
 refine b_op rfl (o_alloc (fid := 3) (zs := [hI 0, .v (.slice none 0 0)]) 3008 rfl rfl ty29 rfl (fun v4 => ?_))
 refine b_op rfl (o_store (cs := [hI x1.1.1, slE eStr x1.1.2.1, slE (eSl eInt) x1.1.2.2.1, slE (eSl eInt) x1.1.2.2.2]) (zs := [hI x1.1.1, slE eStr x1.1.2.1, slE (eSl eInt) x1.1.2.2.1, slE (eSl eInt) x1.1.2.2.2]) rfl rfl rfl ty27 rfl rfl rfl rfl rfl ?_)
 refine b_op rfl (o_store (cs := [hI x1.2.1.1, slE (eSl eInt) x1.2.1.2]) (zs := [hI x1.2.1.1, slE (eSl eInt) x1.2.1.2]) rfl rfl rfl ty29 rfl rfl rfl rfl rfl ?_)
 refine mv rfl rfl ?_
 let O9 : Nat × Nat × AObj := (3007, v3, .arr 4 27 [hI x1.1.1, slE eStr x1.1.2.1, slE (eSl eInt) x1.1.2.2.1, slE (eSl eInt) x1.1.2.2.2])
 let O10 : Nat × Nat × AObj := (3008, v4, .arr 2 29 [hI x1.2.1.1, slE (eSl eInt) x1.2.1.2])
 refine bf hK (P3 [E8, (7, .ptr 3007 v3 0), (8, .ptr 3008 v4 0), (9, .bool x1.2.2)] [O9, O10]) ?_
 refine AW.seq ?_
 refine AW.seqJ h (S := Bool) (V := Unit) (fun a v => (P3 [E8, (7, .ptr 3007 v3 0), (8, .ptr 3008 v4 0), (51, .bool a)] [O9, O10])) (fun a5 w6 h => ?_) (fun k7 h => ?_)
 ·refine AW.cond rfl (fun hc => ?_) (fun hc => ?_)
  ·have h := ifT hc h
   refine AW.rgs rfl fun K hK => ?_
   obtain ⟨x8, h9, h⟩ := bS h
   refine b_op rfl (o_call rfl rfl rfl rfl (ACallD.pure0 (w_top_top45Awake h9)) ?_)
   refine mv rfl rfl ?_
   refine bf hK ⟨[(6, .bool x8)], []⟩ ?_
   obtain rfl := oi h
   exact AW.ret (ret_pure (.inr rfl) (resT rfl rfl) rfl trivial)
  have h := ifF (bF' hc) h
  refine AW.skip ?_
  refine AW.rgs rfl fun K hK => bv rfl (v_loadP ty29 rfl rfl (l_litA rfl (lb rfl) rfl)) ?_
  obtain ⟨x10, h11, h⟩ := bS h
  refine b_op rfl (o_call rfl rfl rfl rfl (ACallD.pure0 (w_reset_Shortest h11)) ?_)
  refine mv rfl rfl (bv rfl (v_extract rfl rfl) (bv rfl (v_extract rfl rfl) (bv rfl (v_extract rfl rfl) (mv rfl rfl (mv rfl rfl ?_)))))
  refine mv rfl rfl ?_
  refine bf hK (P3 [E8, (7, .ptr 3007 v3 0), (8, .ptr 3008 v4 0), (10, .str x10.1), (11, .bool x10.2.1), (12, hI x10.2.2)] [O9, O10]) ?_
  refine AW.rgs rfl fun K hK => bv rfl (v_loadF ty24 rfl (l_litA rfl (lb rfl) rfl)) ?_
  obtain ⟨x12, h13, h⟩ := bS h
  refine b_op rfl (o_call rfl rfl rfl rfl (ACallD.pure0 (w_resync_Synchronizing h13)) ?_)
  refine mv rfl rfl (bv rfl (v_extract rfl rfl) (bv rfl (v_extract rfl rfl) (bv rfl (v_extract rfl rfl) (mv rfl rfl (mv rfl rfl ?_)))))
  refine mv rfl rfl ?_
  refine bf hK (P3 [(7, .ptr 3007 v3 0), (8, .ptr 3008 v4 0), (10, .str x10.1), (11, .bool x10.2.1), (12, hI x10.2.2), (13, .str x12.1), (14, .bool x12.2.1), (15, hI x12.2.2)] [O9, O10]) ?_
  refine AW.seq ?_
  refine AW.seqJ h (S := Bool) (V := Unit) (fun a v => (P3 [(7, .ptr 3007 v3 0), (8, .ptr 3008 v4 0), (10, .str x10.1), (11, .bool x10.2.1), (13, .str x12.1), (14, .bool x12.2.1), (77, .bool a)] [O9, O10])) (fun a14 w15 h => ?_) (fun k16 h => ?_)
  ·refine AW.cond rfl (fun hc => ?_) (fun hc => ?_)
   ·have h := ifT hc h
    refine AW.rgs rfl fun K hK => mv rfl rfl ?_
    refine bf hK ⟨[(6, .bool false)], []⟩ ?_
    obtain rfl := oi h
    exact AW.ret (ret_pure (.inr rfl) (resT rfl rfl) rfl trivial)
   have h := ifF (bF' hc) h
   refine AW.skip ?_
   refine AW.seq ?_
   refine AW.seqJ h (S := Bool) (V := Unit) (fun a v => (P3 [(7, .ptr 3007 v3 0), (10, .str x10.1), (11, .bool x10.2.1), (91, .bool a)] [O9])) (fun a17 w18 h => ?_) (fun k19 h => ?_)
   ·refine AW.cond rfl (fun hc => ?_) (fun hc => ?_)
    ·have h := ifT hc h
     refine AW.rgs rfl fun K hK => mv rfl rfl ?_
     refine bf hK ⟨[(6, .bool false)], []⟩ ?_
     obtain rfl := oi h
     exact AW.ret (ret_pure (.inr rfl) (resT rfl rfl) rfl trivial)
    have h := ifF (bF' hc) h
    refine AW.skip ?_
    refine AW.seq ?_
    refine AW.rgs rfl fun K hK => mv rfl rfl (bv rfl (v_not rfl) ?_)
    refine bf hK (P3 [(7, .ptr 3007 v3 0), (10, .str x10.1), (93, .bool (!x10.2.1))] [O9]) ?_
    refine AW.cond rfl (fun hc => ?_) (fun hc => ?_)
    ·have h := ifT hc h
     refine AW.rgs rfl fun K hK => ?_
     obtain ⟨x20, h21, h⟩ := bS h
     refine b_op rfl (o_call rfl rfl rfl rfl (ACallD.pure0 (w_top_top45Awake h21)) ?_)
     refine mv rfl rfl ?_
     refine bf hK ⟨[(6, .bool x20)], []⟩ ?_
     obtain rfl := oi h
     exact AW.ret (ret_pure (.inr rfl) (resT rfl rfl) rfl trivial)
    have h := ifF (bF' hc) h
    refine AW.skip ?_
    refine AW.rgs rfl fun K hK => bv rfl (v_loadP ty27 rfl rfl (l_litA rfl (lb rfl) rfl)) (mv rfl rfl (mv rfl rfl ?_))
    obtain ⟨h22, h⟩ := ifN h
    refine bv rfl (v_bin rfl rfl (b_sadd h22)) ?_
    obtain ⟨x23, h24, h⟩ := bS h
    refine b_op rfl (o_call rfl rfl rfl rfl (ACallD.pure0 (w_parser_Run h24)) ?_)
    refine mv rfl rfl (bv rfl (v_extract rfl rfl) (bv rfl (v_extract rfl rfl) (bv rfl (v_extract rfl rfl) (mv rfl rfl (mv rfl rfl ?_)))))
    refine mv rfl rfl ?_
    refine bf hK ⟨[(2, .str p2), (7, .ptr 3007 v3 0), (10, .str x10.1), (12, hI x23.2.2), (17, hI x23.2.1)], [O9]⟩ ?_
    refine AW.rgs rfl fun K hK => bv rfl (v_loadP ty27 rfl rfl (l_litA rfl (lb rfl) rfl)) (mv rfl rfl (mv rfl rfl ?_))
    obtain ⟨h25, h⟩ := ifN h
    refine bv rfl (v_bin rfl rfl (b_sadd h25)) ?_
    obtain ⟨x26, h27, h⟩ := bS h
    refine b_op rfl (o_call rfl rfl rfl rfl (ACallD.pure0 (w_parser_Run h27)) ?_)
    refine mv rfl rfl (bv rfl (v_extract rfl rfl) (bv rfl (v_extract rfl rfl) (bv rfl (v_extract rfl rfl) (mv rfl rfl (mv rfl rfl ?_)))))
    refine mv rfl rfl ?_
    refine bf hK ⟨[(12, hI x23.2.2), (15, hI x26.2.2), (17, hI x23.2.1), (19, hI x26.2.1)], []⟩ ?_
    refine AW.seqJ h (S := Bool) (V := Unit) (fun a v => ⟨[(6, .bool a)], []⟩) (fun a28 w29 h => ?_) (fun k30 h => ?_)
    ·obtain rfl := oi h
     exact AW.ret (ret_pure (.inr rfl) (resT rfl rfl) rfl trivial)
    refine AW.rg rfl fun K hK => mv rfl rfl (bv rfl (v_bin rfl rfl b_eql) (mv rfl rfl ?_))
    by_cases hg35 : x23.2.2 = 0
    ·have h := ifT hg35 h
     refine b_T rfl rfl rfl rfl (decide_eq_true hg35) (o_val rfl (mv_val rfl rfl).2 ?_)
     refine b_T rfl rfl rfl rfl rfl (o_val rfl (v_bin rfl rfl b_eql) ?_)
     refine bv rfl (v_pickT rfl rfl rfl) (mv rfl rfl ?_)
     by_cases hg34 : x26.2.2 = 0
     ·have h := ifT hg34 h
      refine b_T rfl rfl rfl rfl (decide_eq_true hg34) (o_val rfl (mv_val rfl rfl).2 ?_)
      refine b_T rfl rfl rfl rfl rfl (o_val rfl (mv_val rfl rfl).2 ?_)
      refine b_T rfl rfl rfl rfl rfl (o_val rfl (v_bin rfl rfl b_eql) ?_)
      refine bv rfl (v_pickT rfl rfl rfl) (mv rfl rfl ?_)
      by_cases hg33 : x23.2.1 = x26.2.1
      ·have h := ifT hg33 h
       obtain ⟨x31, h32, h⟩ := bS h
       refine b_T rfl rfl rfl rfl (decide_eq_true hg33) (o_call rfl rfl rfl rfl (ACallD.pure0 (w_top_top45Awake h32)) ?_)
       refine bv rfl (v_pickT rfl rfl rfl) (mv rfl rfl ?_)
       refine b_nil (hK _ ?_)
       exact to_L ⟨x31, (), h, rfl⟩
      have h := ifF hg33 h
      refine b_F rfl rfl rfl rfl rfl (decide_eq_false hg33) ?_
      refine bv rfl (v_pickF rfl rfl rfl) (mv rfl rfl ?_)
      refine b_nil (hK _ ?_)
      exact to_L ⟨false, (), h, rfl⟩
     have h := ifF hg34 h
     refine b_F rfl rfl rfl rfl rfl (decide_eq_false hg34) ?_
     iterate 2 refine b_F rfl rfl rfl rfl rfl rfl ?_
     refine bv rfl (v_pickF rfl rfl rfl) (mv rfl rfl ?_)
     refine b_F rfl rfl rfl rfl rfl rfl ?_
     refine bv rfl (v_pickF rfl rfl rfl) (mv rfl rfl ?_)
     refine b_nil (hK _ ?_)
     exact to_L ⟨false, (), h, rfl⟩
    have h := ifF hg35 h
    refine b_F rfl rfl rfl rfl rfl (decide_eq_false hg35) ?_
    refine b_F rfl rfl rfl rfl rfl rfl ?_
    refine bv rfl (v_pickF rfl rfl rfl) (mv rfl rfl ?_)
    iterate 3 refine b_F rfl rfl rfl rfl rfl rfl ?_
    refine bv rfl (v_pickF rfl rfl rfl) (mv rfl rfl ?_)
    refine b_F rfl rfl rfl rfl rfl rfl ?_
    refine bv rfl (v_pickF rfl rfl rfl) (mv rfl rfl ?_)
    refine b_nil (hK _ ?_)
    exact to_L ⟨false, (), h, rfl⟩
   refine AW.rg rfl fun K hK => mv rfl rfl (mv rfl rfl ?_)
   by_cases hg39 : x12.2.1 = true
   ·have h := ifT hg39 h
    refine b_T rfl rfl rfl rfl hg39 (o_val rfl (v_loadP ty29 rfl rfl (l_litA rfl (lb rfl) rfl)) ?_)
    refine b_T rfl rfl rfl rfl rfl (o_val rfl (mv_val rfl rfl).2 ?_)
    obtain ⟨x36, h37, h⟩ := bS h
    refine b_T rfl rfl rfl rfl rfl (o_call rfl rfl rfl rfl (ACallD.pure0 (w_reset_Verify h37)) ?_)
    refine b_T rfl rfl rfl rfl rfl (o_val rfl (v_bin rfl rfl b_neq) ?_)
    refine b_T rfl rfl rfl rfl rfl (o_val rfl (mv_val rfl rfl).2 ?_)
    by_cases hg38 : x36 ≠ 0
    ·have h := ifT hg38 h
     refine b_F rfl rfl rfl rfl rfl (decide_eq_true hg38) ?_
     iterate 4 refine b_F rfl rfl rfl rfl rfl rfl ?_
     refine b_T rfl rfl rfl rfl rfl (o_val rfl (v_pickT rfl rfl rfl) ?_)
     refine bv rfl (v_pickT rfl rfl rfl) ?_
     refine b_nil (hK _ ?_)
     exact to_L ⟨true, (), h, rfl⟩
    have h := ifF hg38 h
    refine b_T rfl rfl rfl rfl (decide_eq_false hg38) (o_val rfl (mv_val rfl rfl).2 ?_)
    refine b_T rfl rfl rfl rfl rfl (o_val rfl (v_lenS rfl rfl ty9 rfl) ?_)
    refine b_T rfl rfl rfl rfl rfl (o_val rfl (mv_val rfl rfl).2 ?_)
    refine b_T rfl rfl rfl rfl rfl (o_val rfl (v_lenS rfl rfl ty9 rfl) ?_)
    refine b_T rfl rfl rfl rfl rfl (o_val rfl (v_bin rfl rfl b_lss) ?_)
    refine b_T rfl rfl rfl rfl rfl (o_val rfl (v_pickF rfl rfl rfl) ?_)
    refine bv rfl (v_pickT rfl rfl rfl) ?_
    refine b_nil (hK _ ?_)
    exact to_L ⟨decide (((x12.1).length : Int) < ((x10.1).length : Int)), (), h, rfl⟩
   have h := ifF hg39 h
   refine b_F rfl rfl rfl rfl rfl (bF hg39) ?_
   iterate 4 refine b_F rfl rfl rfl rfl rfl rfl ?_
   refine b_U rfl rfl rfl rfl rfl ?_
   refine b_U rfl rfl rfl rfl rfl ?_
   refine b_U rfl rfl rfl rfl rfl ?_
   refine b_U rfl rfl rfl rfl rfl ?_
   refine b_U rfl rfl rfl rfl rfl ?_
   refine b_F rfl rfl rfl rfl rfl rfl ?_
   refine bv rfl (v_pickF rfl rfl rfl) ?_
   refine b_nil (hK _ ?_)
   exact to_L ⟨false, (), h, rfl⟩
  refine AW.rg rfl fun K hK => mv rfl rfl (bv rfl (v_bin rfl rfl b_neq) (mv rfl rfl ?_))
  by_cases hg42 : x10.2.2 ≠ 0
  ·have h := ifT hg42 h
   refine b_F rfl rfl rfl rfl rfl (decide_eq_true hg42) ?_
   refine b_F rfl rfl rfl rfl rfl rfl ?_
   refine bv rfl (v_pickT rfl rfl rfl) (mv rfl rfl ?_)
   iterate 2 refine b_F rfl rfl rfl rfl rfl rfl ?_
   refine b_U rfl rfl rfl rfl rfl ?_
   refine b_U rfl rfl rfl rfl rfl ?_
   refine b_F rfl rfl rfl rfl rfl rfl ?_
   refine bv rfl (v_pickT rfl rfl rfl) ?_
   refine b_nil (hK _ ?_)
   exact to_L ⟨true, (), h, rfl⟩
  have h := ifF hg42 h
  refine b_T rfl rfl rfl rfl (decide_eq_false hg42) (o_val rfl (mv_val rfl rfl).2 ?_)
  refine b_T rfl rfl rfl rfl rfl (o_val rfl (v_bin rfl rfl b_neq) ?_)
  refine bv rfl (v_pickF rfl rfl rfl) (mv rfl rfl ?_)
  by_cases hg41 : x12.2.2 ≠ 0
  ·have h := ifT hg41 h
   refine b_F rfl rfl rfl rfl rfl (decide_eq_true hg41) ?_
   refine b_F rfl rfl rfl rfl rfl rfl ?_
   refine b_U rfl rfl rfl rfl rfl ?_
   refine b_U rfl rfl rfl rfl rfl ?_
   refine b_F rfl rfl rfl rfl rfl rfl ?_
   refine bv rfl (v_pickT rfl rfl rfl) ?_
   refine b_nil (hK _ ?_)
   exact to_L ⟨true, (), h, rfl⟩
  have h := ifF hg41 h
  refine b_T rfl rfl rfl rfl (decide_eq_false hg41) (o_val rfl (mv_val rfl rfl).2 ?_)
  refine b_T rfl rfl rfl rfl rfl (o_val rfl (mv_val rfl rfl).2 ?_)
  by_cases hg40 : x12.2.1 = true
  ·have h := ifT hg40 h
   refine b_T rfl rfl rfl rfl hg40 (o_val rfl (mv_val rfl rfl).2 ?_)
   refine b_T rfl rfl rfl rfl rfl (o_val rfl (v_not rfl) ?_)
   refine b_T rfl rfl rfl rfl rfl (o_val rfl (v_pickT rfl rfl rfl) ?_)
   refine bv rfl (v_pickF rfl rfl rfl) ?_
   refine b_nil (hK _ ?_)
   exact to_L ⟨!x10.2.1, (), h, rfl⟩
  have h := ifF hg40 h
  refine b_F rfl rfl rfl rfl rfl (bF hg40) ?_
  refine b_F rfl rfl rfl rfl rfl rfl ?_
  refine b_T rfl rfl rfl rfl rfl (o_val rfl (v_pickF rfl rfl rfl) ?_)
  refine bv rfl (v_pickF rfl rfl rfl) ?_
  refine b_nil (hK _ ?_)
  exact to_L ⟨false, (), h, rfl⟩
 refine AW.rg rfl fun K hK => mv rfl rfl (bv rfl (v_not rfl) (mv rfl rfl ?_))
 by_cases hg50 : (!x1.2.2) = true
 ·have h := ifT hg50 h
  refine b_F rfl rfl rfl rfl rfl hg50 ?_
  iterate 2 refine b_F rfl rfl rfl rfl rfl rfl ?_
  refine bv rfl (v_pickT rfl rfl rfl) (mv rfl rfl ?_)
  iterate 3 refine b_F rfl rfl rfl rfl rfl rfl ?_
  refine bv rfl (v_pickT rfl rfl rfl) (mv rfl rfl ?_)
  iterate 5 refine b_F rfl rfl rfl rfl rfl rfl ?_
  refine bv rfl (v_pickT rfl rfl rfl) (mv rfl rfl ?_)
  iterate 5 refine b_F rfl rfl rfl rfl rfl rfl ?_
  refine bv rfl (v_pickT rfl rfl rfl) ?_
  refine b_nil (hK _ ?_)
  exact to_L ⟨true, (), h, rfl⟩
 have h := ifF hg50 h
 refine b_T rfl rfl rfl rfl (bF hg50) (o_val rfl (mv_val rfl rfl).2 ?_)
 refine b_T rfl rfl rfl rfl rfl (o_val rfl (v_lenS rfl rfl ty9 rfl) ?_)
 refine b_T rfl rfl rfl rfl rfl (o_val rfl (v_bin rfl rfl b_gtr) ?_)
 refine bv rfl (v_pickF rfl rfl rfl) (mv rfl rfl ?_)
 by_cases hg49 : 20 < ((p1).length : Int)
 ·have h := ifT hg49 h
  refine b_F rfl rfl rfl rfl rfl (decide_eq_true hg49) ?_
  iterate 2 refine b_F rfl rfl rfl rfl rfl rfl ?_
  refine bv rfl (v_pickT rfl rfl rfl) (mv rfl rfl ?_)
  iterate 5 refine b_F rfl rfl rfl rfl rfl rfl ?_
  refine bv rfl (v_pickT rfl rfl rfl) (mv rfl rfl ?_)
  iterate 5 refine b_F rfl rfl rfl rfl rfl rfl ?_
  refine bv rfl (v_pickT rfl rfl rfl) ?_
  refine b_nil (hK _ ?_)
  exact to_L ⟨true, (), h, rfl⟩
 have h := ifF hg49 h
 refine b_T rfl rfl rfl rfl (decide_eq_false hg49) (o_val rfl (mv_val rfl rfl).2 ?_)
 refine b_T rfl rfl rfl rfl rfl (o_val rfl (v_lenS rfl rfl ty9 rfl) ?_)
 refine b_T rfl rfl rfl rfl rfl (o_val rfl (v_bin rfl rfl b_gtr) ?_)
 refine bv rfl (v_pickF rfl rfl rfl) (mv rfl rfl ?_)
 by_cases hg48 : 20 < ((p2).length : Int)
 ·have h := ifT hg48 h
  refine b_F rfl rfl rfl rfl rfl (decide_eq_true hg48) ?_
  iterate 4 refine b_F rfl rfl rfl rfl rfl rfl ?_
  refine bv rfl (v_pickT rfl rfl rfl) (mv rfl rfl ?_)
  iterate 5 refine b_F rfl rfl rfl rfl rfl rfl ?_
  refine bv rfl (v_pickT rfl rfl rfl) ?_
  refine b_nil (hK _ ?_)
  exact to_L ⟨true, (), h, rfl⟩
 have h := ifF hg48 h
 refine b_T rfl rfl rfl rfl (decide_eq_false hg48) (o_val rfl (v_fieldAddrF fo24_0 rfl) ?_)
 refine b_T rfl rfl rfl rfl rfl (o_val rfl (v_loadF ty3 rfl (l_lit rfl rfl)) ?_)
 refine b_T rfl rfl rfl rfl rfl (o_val rfl (mv_val rfl rfl).2 ?_)
 obtain ⟨x43, h44, h⟩ := bS h
 refine b_T rfl rfl rfl rfl rfl (o_call rfl rfl rfl rfl (ACallD.pure0 (w_word_Check h44)) ?_)
 refine b_T rfl rfl rfl rfl rfl (o_val rfl (v_bin rfl rfl b_neq) ?_)
 refine bv rfl (v_pickF rfl rfl rfl) (mv rfl rfl ?_)
 by_cases hg47 : x43 ≠ 0
 ·have h := ifT hg47 h
  refine b_F rfl rfl rfl rfl rfl (decide_eq_true hg47) ?_
  iterate 4 refine b_F rfl rfl rfl rfl rfl rfl ?_
  refine bv rfl (v_pickT rfl rfl rfl) ?_
  refine b_nil (hK _ ?_)
  exact to_L ⟨true, (), h, rfl⟩
 have h := ifF hg47 h
 refine b_T rfl rfl rfl rfl (decide_eq_false hg47) (o_val rfl (v_fieldAddrF fo24_0 rfl) ?_)
 refine b_T rfl rfl rfl rfl rfl (o_val rfl (v_loadF ty3 rfl (l_lit rfl rfl)) ?_)
 refine b_T rfl rfl rfl rfl rfl (o_val rfl (mv_val rfl rfl).2 ?_)
 obtain ⟨x45, h46, h⟩ := bS h
 refine b_T rfl rfl rfl rfl rfl (o_call rfl rfl rfl rfl (ACallD.pure0 (w_word_Check h46)) ?_)
 refine b_T rfl rfl rfl rfl rfl (o_val rfl (v_bin rfl rfl b_neq) ?_)
 refine bv rfl (v_pickF rfl rfl rfl) ?_
 refine b_nil (hK _ ?_)
 exact to_L ⟨decide (x45 ≠ 0), (), h, rfl⟩
end Go.AW

namespace Go.AW
open Go
set_option linter.unusedSimpArgs false
set_option linter.unusedVariables false
abbrev Gr := TLabelsStatesEdges
abbrev Ed := TFromLabelTo
def cmp3 (x y : Ed) : Int := if x.1 < y.1 then -1 else if y.1 < x.1 then 1 else if x.2.1 < y.2.1 then -1 else if y.2.1 < x.2.1 then 1 else if x.2.2 < y.2.2 then -1 else if y.2.2 < x.2.2 then 1 else 0
structure VG (g : Gr) : Prop where
 l1 : 1 ≤ g.1
 l2 : g.1 ≤ 256
 s0 : 0 ≤ g.2.1
 s1 : g.2.1 ≤ 64
 el : g.2.2.length ≤ 1024
 ed : ∀ x ∈ g.2.2, 0 ≤ x.1 ∧ x.1 < g.2.1 ∧ 0 ≤ x.2.2 ∧ x.2.2 < g.2.1 ∧ 0 ≤ x.2.1 ∧ x.2.1 < g.1
 ord : ∀ (i : Nat) (h : i + 1 < g.2.2.length), cmp3 (g.2.2[i]'(by omega)) g.2.2[i + 1] < 0
def upto (n : Int) : List Int := (List.range n.toNat).map Int.ofNat
def stepL (g : Gr) (a : List Int) (c : Int) : List Int := (upto g.2.1).filter fun t => g.2.2.any fun e => decide (e.2.2 = t ∧ e.2.1 = c ∧ e.1 ∈ a)
theorem byte_back (c : UInt8) : ((c.toNat : Int).toNat.toUInt8) = c := by simp
def lets (g : Gr) : List UInt8 := letters.take g.1.toNat
section
variable {g : Gr}
end
def lab (c : UInt8) : Int := Lib.indexByte letters c
theorem idxB_neg : ∀ {l : List UInt8} {c : UInt8}, Lib.indexByte l c < 0 ↔ c ∉ l
 | [], c => by simp [Lib.indexByte]
 | b :: l, c => by
  have h := @idxB_neg l c
  have hg := Lib.indexByte_ge l c
  simp only [Lib.indexByte, List.mem_cons, not_or]
  by_cases e : b = c
  ·subst e; simp
  have e1 : (b == c) = false := by simpa using e
  simp only [e1, Bool.false_eq_true, if_false]
  by_cases e2 : Lib.indexByte l c = -1
  ·have := h.1 (by omega)
   simp only [e2, beq_self_eq_true, if_true]
   exact ⟨fun _ => ⟨fun e' => e e'.symm, this⟩, fun _ => by decide⟩
  have e3 : (Lib.indexByte l c == -1) = false := by simpa using e2
  simp only [e3, Bool.false_eq_true, if_false]
  exact ⟨fun h' => by omega, fun h' => by have := h.2 h'.2; omega⟩
theorem known_eq (L : Int) : m_word_known L = some (decide (1 ≤ L ∧ L ≤ 16)) := by
 unfold m_word_known
 simp only [jp]
 by_cases h1 : 1 ≤ L
 ·rw [if_pos h1]; simp [h1]
 rw [if_neg h1]; simp [h1]
theorem wcheck (L : Int) (w : List UInt8) : ∃ e, m_word_Check L w = some e ∧ (e = 0 ↔ (1 ≤ L ∧ L ≤ 16) ∧ w.length ≤ 65536 ∧ ∀ c ∈ w, c ∈ letters.take L.toNat) := by
  unfold m_word_Check
  rw [known_eq]
  simp only [Option.bind_some]
  by_cases h1 : 1 ≤ L ∧ L ≤ 16
  case neg =>
    rw [if_pos (by rw [decide_eq_false h1]; rfl)]
    exact ⟨12, rfl, by simp [h1]⟩
  rw [if_neg (by rw [decide_eq_true h1]; decide)]
  by_cases h2 : 65536 < (w.length : Int)
  · rw [if_pos h2]
    exact ⟨4, rfl, by simp; omega⟩
  rw [if_neg h2]
  have hx : ∀ c : UInt8, m_strings_IndexByte ((([48, 49, 50, 51, 52, 53, 54, 55, 56, 57, 97, 98, 99, 100, 101, 102] : List UInt8).take L.toNat).drop (0 : Int).toNat) (c.toNat : Int) = some (Lib.indexByte (letters.take L.toNat) c) := fun c => by
    unfold m_strings_IndexByte
    rw [byte_back]
    rfl
  have hl := loop_any (body := fun a3 => if a3 < ((w).length : Int) then
            if 0 ≤ (0 : Int) ∧ (0 : Int) ≤ L ∧ L ≤ (([48, 49, 50, 51, 52, 53, 54, 55, 56, 57, 97, 98, 99, 100, 101, 102] : List UInt8).length : Int) then
              (idx w a3).bind fun x8 =>
              (m_strings_IndexByte ((([48, 49, 50, 51, 52, 53, 54, 55, 56, 57, 97, 98, 99, 100, 101, 102] : List UInt8).take (L).toNat).drop (0 : Int).toNat) (x8.toNat : Int)).bind fun x10 =>
              if x10 < 0 then
                some (Stp.exit (Ou.ret 13))
              else
                some (Stp.next (IntKind.wrap .i64 (a3 + 1)))
            else none
          else
            some (Stp.exit (Ou.go ()))) (fun i => (i : Int)) w.length (fun i => decide (Lib.indexByte (letters.take L.toNat) (w.getD i 0) < 0)) (Ou.ret (13 : Int)) (Ou.go ()) (fun i hi => by
      have e1 : w.getD i 0 = w[i] := by simp [List.getD, hi]
      rw [if_pos (lt_int hi), if_pos ⟨by decide, by omega, by show L ≤ (16 : Int); omega⟩, ix hi]
      simp only [Option.bind_some, hx, nx (by omega : w.length ≤ _) hi, e1, decide_eq_true_eq]) (by rw [if_neg (not_lt_int _)]) (s0 := (0 : Int)) rfl
  rw [hl]
  by_cases hw : ∀ c ∈ w, c ∈ letters.take L.toNat
  · rw [if_neg]
    · exact ⟨0, rfl, by simp only [true_iff]; exact ⟨h1, by omega, hw⟩⟩
    intro ha
    obtain ⟨i, hi, hp⟩ := List.any_eq_true.1 ha
    have hi := List.mem_range.1 hi
    have e1 : w.getD i 0 = w[i] := by simp [List.getD, hi]
    rw [e1] at hp
    exact idxB_neg.1 (of_decide_eq_true hp) (hw _ (List.getElem_mem hi))
  rw [if_pos]
  · exact ⟨13, rfl, by simp only [show ¬ (13 : Int) = 0 by decide, false_iff]; exact fun h => hw h.2.2⟩
  apply Classical.byContradiction
  intro hno
  refine hw fun c hc => ?_
  obtain ⟨i, hi, rfl⟩ := List.getElem_of_mem hc
  apply Classical.byContradiction
  intro hn
  refine hno (List.any_eq_true.2 ⟨i, List.mem_range.2 hi, ?_⟩)
  have e1 : w.getD i 0 = w[i] := by simp [List.getD, hi]
  rw [e1]
  exact decide_eq_true (idxB_neg.2 hn)
def WOk (g : Gr) (w : List UInt8) : Prop := w.length ≤ 65536 ∧ ∀ c ∈ w, c ∈ lets g
section
variable {g : Gr}
def endsL (g : Gr) (a : List Int) (w : List UInt8) : List Int := w.foldl (fun a c => stepL g a (lab c)) a
end
theorem EqI_eq {a b : List Int} (hm : a.length ≤ 9223372036854775807) : m_slices_Equal_Lint_int a b = some (decide (a = b)) := by
 unfold m_slices_Equal_Lint_int
 by_cases hl : a.length = b.length
 ·rw [if_neg (by omega)]
  refine lpL (loop_any (fun i => (i : Int)) a.length (fun i => decide (a.getD i 0 ≠ b.getD i 0)) (Ou.ret false) (Ou.go ()) (fun i hi => ?_) (by rw [if_neg (not_lt_int _)]) rfl) ?_
  ·have hi' : i < b.length := by omega
   have e1 : a.getD i 0 = a[i] := by simp [List.getD, hi]
   have e2 : b.getD i 0 = b[i] := by simp [List.getD, hi']
   rw [if_pos (lt_int hi), ix hi, ix hi']
   simp only [Option.bind_some, nx hm hi, e1, e2, decide_eq_true_eq]
  by_cases he : a = b
  ·subst he
   rw [if_neg]
   ·simp [lpO]
   simp
  rw [if_pos]
  ·simp [lpO, he]
  refine List.any_eq_true.2 ?_
  apply Classical.byContradiction
  intro hno
  refine he (List.ext_getElem hl fun i h1 h2 => ?_)
  apply Classical.byContradiction
  intro hne
  refine hno ⟨i, List.mem_range.2 h1, decide_eq_true ?_⟩
  rwa [show a.getD i 0 = a[i] by simp [List.getD, h1], show b.getD i 0 = b[i] by simp [List.getD, h2]]
 rw [if_pos (by omega)]
 have : ¬ a = b := fun e => hl (by rw [e])
 simp [this]
theorem WOk.sub {g : Gr} {w u : List UInt8} (h : WOk g w) (hl : u.length ≤ w.length) (hs : ∀ c ∈ u, c ∈ w) : WOk g u := ⟨Nat.le_trans hl h.1, fun c hc => h.2 c (hs c hc)⟩
section
variable {g : Gr}
def canB (g : Gr) : List UInt8 → List Bool
 | [] => List.replicate g.2.1.toNat true
 | c :: w => (upto g.2.1).map fun s => g.2.2.any fun x => decide (x.1 = s ∧ x.2.1 = lab c) && (canB g w).getD x.2.2.toNat false
def okE (g : Gr) (w : List UInt8) (c : UInt8) (prev : Option Int) (x : Ed) : Bool := decide (x.2.1 = lab c) && (canB g w).getD x.2.2.toNat false && (match prev with
 | none => true
 | some s => decide (x.1 = s))
def pick (g : Gr) (w : List UInt8) (c : UInt8) (prev : Option Int) : Nat := g.2.2.findIdx (okE g w c prev)
end
section
variable {g : Gr}
end
section
variable {g : Gr}
end
section
variable {g : Gr}
end
section
variable {β : Type}
theorem mlook_put (k q : List UInt8) (v : β) : ∀ l : List (List UInt8 × β), mlook q (mputN k v l) = if q = k then some v else mlook q l
 | [] => by simp only [mputN, mlook]
 | (p, x) :: l => by
  simp only [mputN]
  by_cases h : k = p
  ·rw [if_pos h]
   simp only [mlook]
   by_cases e : q = p
   ·rw [if_pos e, if_pos (e.trans h.symm)]
   rw [if_neg e, if_neg (fun e' => e (e'.trans h)), if_neg e]
  rw [if_neg h]
  simp only [mlook]
  by_cases e : q = p
  ·rw [if_pos e, if_neg (fun e' => h (e'.symm.trans e)), if_pos e]
  rw [if_neg e, mlook_put k q v l, if_neg e]
end
section
variable {g : Gr}
end
section
variable {g : Gr}
end
theorem EqS_eq {a b : List (List UInt8)} (hm : a.length ≤ 9223372036854775807) : m_slices_Equal_Lstring_string a b = some (decide (a = b)) := by
 unfold m_slices_Equal_Lstring_string
 by_cases hl : a.length = b.length
 ·rw [if_neg (by omega)]
  refine lpL (loop_any (fun i => (i : Int)) a.length (fun i => decide (a.getD i [] ≠ b.getD i [])) (Ou.ret false) (Ou.go ()) (fun i hi => ?_) (by rw [if_neg (not_lt_int _)]) rfl) ?_
  ·have hi' : i < b.length := by omega
   have e1 : a.getD i [] = a[i] := by simp [List.getD, hi]
   have e2 : b.getD i [] = b[i] := by simp [List.getD, hi']
   rw [if_pos (lt_int hi), ix hi, ix hi']
   simp only [Option.bind_some, nx hm hi, e1, e2, decide_eq_true_eq]
  by_cases he : a = b
  ·subst he
   rw [if_neg]
   ·simp [lpO]
   simp
  rw [if_pos]
  ·simp [lpO, he]
  refine List.any_eq_true.2 ?_
  apply Classical.byContradiction
  intro hno
  refine he (List.ext_getElem hl fun i h1 h2 => ?_)
  apply Classical.byContradiction
  intro hne
  refine hno ⟨i, List.mem_range.2 h1, decide_eq_true ?_⟩
  rwa [show a.getD i [] = a[i] by simp [List.getD, h1], show b.getD i [] = b[i] by simp [List.getD, h2]]
 rw [if_pos (by omega)]
 have : ¬ a = b := fun e => hl (by rw [e])
 simp [this]
section
variable {g : Gr}
end
section
variable {g : Gr}
end
section
variable {g : Gr}
end
section
variable {g : Gr}
end
section
variable {g : Gr}
end
section
variable {g : Gr}
theorem IndexI_eq {l : List Int} {x : Int} (hm : l.length ≤ 9223372036854775807) : ∃ r, m_slices_Index_Lint_int l x = some r ∧ (0 ≤ r ↔ x ∈ l) := by
 unfold m_slices_Index_Lint_int
 have hx : ∃ y, loopW (S := Int) (X := Ou (Unit) (Int)) (fun a1 =>
   if a1 < ((l).length : Int) then
    (idx l a1).bind fun x5 =>
    if x = x5 then
     some (Stp.exit (Ou.ret a1))
    else
     some (Stp.next (IntKind.wrap .i64 (a1 + 1)))
   else
    some (Stp.exit (Ou.go ()))) 0 = some y ∧ ((y = .go () ∧ x ∉ l) ∨ ∃ r, y = .ret r ∧ 0 ≤ r ∧ x ∈ l) := by
  refine loopN l.length (fun i s => s = (i : Int) ∧ ∀ j (_ : j < i) (h : j < l.length), l[j] ≠ x) ?_ ?_ 0 _ (Nat.zero_le _) ⟨rfl, fun j hj => by omega⟩
  ·rintro i s hi ⟨rfl, hne⟩
   rw [if_pos (lt_int hi), ix hi]
   simp only [Option.bind_some]
   by_cases e : x = l[i]
   ·rw [if_pos e]
    exact .inr ⟨_, rfl, .inr ⟨_, rfl, by omega, by rw [e]; exact List.getElem_mem hi⟩⟩
   rw [if_neg e]
   refine .inl ⟨_, rfl, nx hm hi, fun j hj h => ?_⟩
   by_cases hji : j = i
   ·subst hji; exact fun e' => e e'.symm
   exact hne j (by omega) h
  rintro s ⟨rfl, hne⟩
  rw [if_neg (not_lt_int _)]
  refine ⟨_, rfl, .inl ⟨rfl, fun hx => ?_⟩⟩
  obtain ⟨j, hj, e⟩ := List.getElem_of_mem hx
  exact hne j hj hj e
 obtain ⟨y, hy, ⟨rfl, hn⟩ | ⟨r, rfl, h0, hm⟩⟩ := hx
 ·rw [hy]
  exact ⟨-1, rfl, by simp [hn]⟩
 rw [hy]
 exact ⟨r, rfl, by simp [h0, hm]⟩
theorem ContainsI_eq {l : List Int} {x : Int} (hm : l.length ≤ 9223372036854775807) : m_slices_Contains_Lint_int l x = some (decide (x ∈ l)) := by
 obtain ⟨r, hr, h⟩ := IndexI_eq (x := x) hm
 unfold m_slices_Contains_Lint_int
 rw [hr]
 simp only [Option.bind_some, h]
end
abbrev Jn := TWordsMerges
def fstN {X : Type} (p : Nat → Bool) (xr : Nat → X) (xf : X) : Nat → Nat → X
 | 0, _ => xf
 | d + 1, i => if p i = true then xr i else fstN p xr xf d (i + 1)
theorem loop_fst {S X : Type} {body : S → Option (Stp S X)} (st : Nat → S) (n : Nat) (p : Nat → Bool) (xr : Nat → X) (xf : X) (h : ∀ i, i < n → body (st i) = if p i = true then some (.exit (xr i)) else some (.next (st (i + 1)))) (hf : body (st n) = some (.exit xf)) {s0 : S} (hs0 : s0 = st 0) :
  loopW body s0 = some (fstN p xr xf n 0) := by
 subst hs0
 have : ∀ d i, i + d = n → loopW body (st i) = some (fstN p xr xf d i) := by
  intro d
  induction d with
  | zero =>
   intro i hi
   have e : i = n := by omega
   subst e
   rw [loopW_exit hf]
   rfl
  | succ d ih =>
   intro i hi
   have hb := h i (by omega)
   unfold fstN
   by_cases hp : p i = true
   ·rw [if_pos hp] at hb ⊢
    rw [loopW_exit hb]
   rw [if_neg hp] at hb ⊢
   rw [loopW_next hb]
   exact ih (i + 1) (by omega)
 exact this n 0 (by omega)
theorem fstN_cases {X : Type} (p : Nat → Bool) (xr : Nat → X) (xf : X) : ∀ d i, (∃ j, i ≤ j ∧ j < i + d ∧ p j = true ∧ (∀ k, i ≤ k → k < j → p k = false) ∧ fstN p xr xf d i = xr j) ∨ ((∀ j, i ≤ j → j < i + d → p j = false) ∧ fstN p xr xf d i = xf)
 | 0, i => .inr ⟨fun j h1 h2 => by omega, rfl⟩
 | d + 1, i => by
  unfold fstN
  by_cases hp : p i = true
  ·rw [if_pos hp]
   exact .inl ⟨i, by omega, by omega, hp, fun k h1 h2 => by omega, rfl⟩
  rw [if_neg hp]
  have hp' : p i = false := by simpa using hp
  rcases fstN_cases p xr xf d (i + 1) with ⟨j, h1, h2, h3, h4, h5⟩ | ⟨h1, h2⟩
  ·refine .inl ⟨j, by omega, by omega, h3, fun k hk1 hk2 => ?_, h5⟩
   by_cases hk : k = i
   ·subst hk; exact hp'
   exact h4 k (by omega) hk2
  refine .inr ⟨fun j hj1 hj2 => ?_, h2⟩
  by_cases hj : j = i
  ·subst hj; exact hp'
  exact h1 j (by omega) (by omega)
theorem fstN_find {α X : Type} (l : List α) (P : α → Bool) {p : Nat → Bool} (hp : ∀ i (h : i < l.length), p i = P l[i]) (xr : Nat → X) (xf : X) : fstN p xr xf l.length 0 = if l.any P = true then xr (l.findIdx P) else xf := by
 rcases fstN_cases p xr xf l.length 0 with ⟨j, h1, h2, h3, h4, h5⟩ | ⟨h1, h2⟩
 ·have hj : j < l.length := by omega
  have hf : l.findIdx P = j := by
   rw [List.findIdx_eq hj]
   exact ⟨by rw [← hp j hj]; exact h3, fun k hk => by rw [← hp k (by omega)]; exact h4 k (by omega) hk⟩
  rw [h5, if_pos, hf]
  rw [List.any_eq_true]
  exact ⟨l[j], List.getElem_mem hj, by rw [← hp j hj]; exact h3⟩
 rw [h2, if_neg]
 rw [List.any_eq_true]
 rintro ⟨x, hx, hP⟩
 obtain ⟨j, hj, rfl⟩ := List.getElem_of_mem hx
 rw [← hp j hj, h1 j (by omega) (by omega)] at hP
 cases hP
theorem loop_findL {α S X : Type} {body : S → Option (Stp S X)} (st : Nat → S) (l : List α) (P : α → Bool) (xr : Nat → X) (xf : X) (h : ∀ i (hi : i < l.length), body (st i) = if P l[i] = true then some (.exit (xr i)) else some (.next (st (i + 1)))) (hf : body (st l.length) = some (.exit xf)) {s0 : S} (hs0 : s0 = st 0) :
  loopW body s0 = some (if l.any P = true then xr (l.findIdx P) else xf) := by
 rw [← fstN_find l P (p := fun i => if h : i < l.length then P l[i] else false) (fun i hi => by rw [dif_pos hi]) xr xf]
 exact loop_fst st l.length _ _ xf (fun i hi => by rw [h i hi, dif_pos hi]) hf hs0
theorem lpE {V R Y : Type} {o : Option (Ou V R)} {x : Ou V R} {M : V → Option Y} {Rt : R → Option Y} {r : Option Y} (h : o = some x) (hr : lpO (some x) M Rt = r) : lpO o M Rt = r := by rw [h]; exact hr
def firstI {α : Type} (l : List α) (P : α → Bool) : Int := if l.any P = true then (l.findIdx P : Nat) else -1
theorem firstI_nn {α : Type} {l : List α} {P : α → Bool} : 0 ≤ firstI l P ↔ l.any P = true := by
 unfold firstI
 split <;> simp_all
def fstLen (l : List (List UInt8)) : Nat := (l.headD []).length
def bitB (c : UInt8) : Bool := c == 48 || c == 49
theorem hdl (l : List (List UInt8)) : (l.headD []).length = fstLen l := rfl
def Sm (l : List (List UInt8)) : Prop := l.length ≤ 9223372036854775807 ∧ ∀ w ∈ l, w.length ≤ 4611686018427387904
theorem nodup_iff {α : Type} {l : List α} : l.Nodup ↔ ∀ i (h : i < l.length), l[i] ∉ l.take i := by
 rw [List.nodup_iff_pairwise_ne, List.pairwise_iff_getElem]
 constructor
 ·intro h i hi hm
  obtain ⟨j, hj, e⟩ := List.getElem_of_mem hm
  rw [List.length_take] at hj
  rw [List.getElem_take] at e
  exact h j i (by omega) hi (by omega) e
 intro h i j hi hj hij e
 refine h j hj ?_
 rw [← e]
 have hq : i < (l.take j).length := by rw [List.length_take]; omega
 have := List.getElem_mem hq
 rwa [List.getElem_take] at this
def SmJ (j : Jn) : Prop := Sm j.1 ∧ Sm j.2
def inW (g : Gr) (w : List UInt8) : Bool := decide (endsL g (upto g.2.1) w ≠ [])
def bitW (w : List UInt8) : Prop := ∀ c ∈ w, bitB c = true
section
variable {g : Gr}
structure FormOk (j : Jn) : Prop where
 ne1 : j.1 ≠ []
 ne2 : j.2 ≠ []
 l1 : j.1.length ≤ 256
 l2 : j.2.length ≤ 256
 n : ∀ w ∈ j.1, w.length = fstLen j.1
 r : ∀ w ∈ j.2, w.length = fstLen j.2
 n1 : 1 ≤ fstLen j.1
 n16 : fstLen j.1 ≤ 16
 r16 : fstLen j.2 ≤ 16
 b1 : ∀ w ∈ j.1, bitW w
 b2 : ∀ w ∈ j.2, bitW w
 d1 : j.1.Nodup
 d2 : j.2.Nodup
theorem FormOk.sm {j : Jn} (h : FormOk j) : SmJ j := by
 have := h.l1; have := h.l2; have := h.n16; have := h.r16
 exact ⟨⟨by omega, fun w hw => by rw [h.n w hw]; omega⟩, ⟨by omega, fun w hw => by rw [h.r w hw]; omega⟩⟩
def joinsB (g : Gr) (ms : List (List UInt8)) (a b : List UInt8) : Bool := ms.any fun m => inW g (a ++ m ++ b)
structure VJ (j : Jn) (g : Gr) : Prop where
 hv : VG g
 h2 : g.1 = 2
 f : FormOk j
 w : ∀ x ∈ j.1, inW g x = true
 p : ∀ a ∈ j.1, ∀ b ∈ j.1, joinsB g j.2 a b = true
structure JSize (j : Jn) : Prop where
 sm : SmJ j
 w : j.1.length ≤ 6 ∨ 256 < j.1.length
 m : j.2.length ≤ 8 ∨ 256 < j.2.length
 lw : ∀ w ∈ j.1, w.length ≤ 8 ∨ 16 < w.length
 lm : ∀ w ∈ j.2, w.length ≤ 8 ∨ 16 < w.length
structure VS (j : Jn) (g : Gr) : Prop extends VJ j g where
 w6 : j.1.length ≤ 6
 m8 : j.2.length ≤ 8
 n8 : fstLen j.1 ≤ 8
 r8 : fstLen j.2 ≤ 8
 g8 : g.2.1 ≤ 8
 e30 : g.2.2.length ≤ 30
theorem fst_mem {l : List (List UInt8)} (h : l ≠ []) : l.headD [] ∈ l := by
 cases l with
 | nil => exact absurd rfl h
 | cons a l => exact List.mem_cons_self ..
theorem FormOk.small {j : Jn} (h : FormOk j) (hs : JSize j) : j.1.length ≤ 6 ∧ j.2.length ≤ 8 ∧ fstLen j.1 ≤ 8 ∧ fstLen j.2 ≤ 8 := by
 have := h.l1; have := h.l2; have := h.n16; have := h.r16
 have h1 := hs.w
 have h2 := hs.m
 have h3 := hs.lw _ (fst_mem h.ne1)
 have h4 := hs.lm _ (fst_mem h.ne2)
 rw [hdl] at h3 h4
 omega
end
theorem IndexFuncI {l : List Int} {p : Int → Option Bool} (P : Int → Bool) (hm : l.length ≤ 9223372036854775807) (hp : ∀ x ∈ l, p x = some (P x)) : m_slices_IndexFunc_Lint_int l p = some (firstI l P) := by
 unfold m_slices_IndexFunc_Lint_int
 refine lpE (loop_findL (fun i => (i : Int)) l P (fun i => Ou.ret (i : Int)) (Ou.go ()) (fun i hi => ?_) (by rw [if_neg (not_lt_int _)]) rfl) ?_
 ·rw [if_pos (lt_int hi), ix hi]
  simp only [Option.bind_some, hp _ (List.getElem_mem hi), nx hm hi]
 unfold firstI
 split <;> rfl
theorem ContainsFuncI {l : List Int} {p : Int → Option Bool} (P : Int → Bool) (hm : l.length ≤ 9223372036854775807) (hp : ∀ x ∈ l, p x = some (P x)) : m_slices_ContainsFunc_Lint_int l p = some (l.any P) := by
 unfold m_slices_ContainsFunc_Lint_int
 rw [IndexFuncI P hm hp]
 simp only [Option.bind_some, firstI_nn, Bool.decide_eq_true]
section
variable {g : Gr}
end
theorem IndexS31 {l : List (List UInt8)} {x : List UInt8} (hm : l.length ≤ 9223372036854775807) : m_slices_Index_Lstring_string l x = some (firstI l fun y => decide (x = y)) := by
 unfold m_slices_Index_Lstring_string
 refine lpE (loop_findL (fun i => (i : Int)) l (fun y => decide (x = y)) (fun i => Ou.ret (i : Int)) (Ou.go ()) (fun i hi => ?_) (by rw [if_neg (not_lt_int _)]) rfl) ?_
 ·rw [if_pos (lt_int hi), ix hi]
  simp only [Option.bind_some, nx hm hi, decide_eq_true_eq]
 unfold firstI
 split <;> rfl
def sub (w : List UInt8) (a l : Nat) : List UInt8 := (w.drop a).take l
abbrev Au := TLettersNext
def bitsL (x : Nat) : List Nat := (List.range 12).filter fun k => x.testBit k
theorem bits_mem {x k : Nat} : k ∈ bitsL x ↔ k < 12 ∧ x.testBit k = true := by
 unfold bitsL; rw [List.mem_filter, List.mem_range]
theorem bits_next {x : Nat} (h0 : 0 < x) (h1 : x < 4096) : bitsL x = tzN x :: bitsL (x &&& (x - 1)) ∧ (x &&& (x - 1)) < x := by
 have h : tzAll (fun n => n == 0 || (bitsL n == tzN n :: bitsL (n &&& (n - 1)) && decide ((n &&& (n - 1)) < n))) 12 0 = true := by decide +kernel
 have := tzAll_spec 12 0 h x (by omega) (by omega)
 simp only [Bool.or_eq_true, beq_iff_eq, Bool.and_eq_true, decide_eq_true_eq] at this
 rcases this with h | h
 ·omega
 exact h
theorem bits_zero : bitsL 0 = [] := by decide
theorem bits_nil {x : Nat} (h1 : x < 4096) (h : bitsL x = []) : x = 0 := by
 rcases Nat.eq_zero_or_pos x with h0 | h0
 ·exact h0
 rw [(bits_next h0 h1).1] at h; cases h
def nxA (a : Au) (s l : Nat) : Nat := ((a.2.getD s []).getD l 0).toNat
def orF (a : Au) (l : Nat) (o s : Nat) : Nat := o ||| 2 ^ nxA a s l
def img (a : Au) (S l : Nat) : Nat := (bitsL S).foldl (orF a l) 0
structure OkA (a : Au) : Prop where
 q1 : 1 ≤ a.1
 q8 : a.1 ≤ 8
 n1 : 1 ≤ a.2.length
 n12 : a.2.length ≤ 12
 row : ∀ r ∈ a.2, (r.length : Int) = a.1 ∧ ∀ t ∈ r, 0 ≤ t ∧ t < (a.2.length : Int)
theorem OkA.at {a : Au} (h : OkA a) {s l : Nat} (hs : s < a.2.length) (hl : (l : Int) < a.1) : ∃ r, idx a.2 (s : Int) = some r ∧ idx r (l : Int) = some (nxA a s l : Int) ∧ nxA a s l < a.2.length := by
 obtain ⟨h1, h2⟩ := h.row _ (List.getElem_mem hs)
 have hl2 : l < a.2[s].length := by omega
 have h3 := h2 _ (List.getElem_mem hl2)
 have e : nxA a s l = (a.2[s][l]).toNat := by
  simp only [nxA, List.getD_eq_getElem?_getD, List.getElem?_eq_getElem hs, Option.getD_some, List.getElem?_eq_getElem hl2]
 refine ⟨a.2[s], by rw [idx_nat, List.getElem?_eq_getElem hs], ?_, by omega⟩
 rw [idx_nat, List.getElem?_eq_getElem hl2]
 congr 1
 omega
theorem wu {n : Int} (h1 : 0 ≤ n) (h2 : n < 18446744073709551616) : IntKind.wrap .u64 n = n := by
 simp only [IntKind.wrap, IntKind.signed, IntKind.bits, Bool.false_and, Bool.false_eq_true, if_false]
 omega
theorem ofI {n : Nat} (h : n < 2 ^ 63) : (BitVec.ofInt 64 (n : Int)).toNat = n := by rw [BitVec.toNat_ofInt]; omega
theorem pow12 {t : Nat} (h : t < 12) : 2 ^ t < 4096 := Nat.pow_lt_pow_right (a := 2) (by decide) h
theorem bor_eq {o t : Nat} (ho : o < 4096) (ht : t < 12) : IntKind.wrap .i64 (BitVec.ofInt (IntKind.bits .i64) (o : Int) ||| BitVec.ofInt (IntKind.bits .i64) (IntKind.wrap .i64 (1 * 2 ^ (min (t : Int).toNat (IntKind.bits .i64))))).toNat = ((o ||| 2 ^ t : Nat) : Int) := by
 have hp := pow12 ht
 have e1 : IntKind.wrap .i64 (1 * 2 ^ (min (t : Int).toNat (IntKind.bits .i64))) = ((2 ^ t : Nat) : Int) := by
  rw [Int.toNat_natCast, Int.one_mul]
  have : min t (IntKind.bits .i64) = t := Nat.min_eq_left (by show t ≤ 64; omega)
  rw [this]
  have e : ((2 ^ t : Nat) : Int) = (2 : Int) ^ t := by rw [Int.natCast_pow]; rfl
  rw [← e]
  generalize 2 ^ t = P at hp
  rw [w64 (by omega) (by omega)]
 rw [e1]
 generalize 2 ^ t = P at hp
 show IntKind.wrap .i64 (((BitVec.ofInt 64 (o : Int) ||| BitVec.ofInt 64 (P : Int)).toNat : Nat) : Int) = _
 rw [BitVec.toNat_or, ofI (by omega), ofI (by omega)]
 have : (o ||| P) < 2 ^ 12 := Nat.or_lt_two_pow (by omega) (by omega)
 rw [w64 (by omega) (by omega)]
theorem band_eq {x : Nat} (h0 : 0 < x) (h : x < 4096) : IntKind.wrap .u64 (BitVec.ofInt (IntKind.bits .u64) (x : Int) &&& BitVec.ofInt (IntKind.bits .u64) (IntKind.wrap .u64 ((x : Int) - 1))).toNat = ((x &&& (x - 1) : Nat) : Int) := by
 have e1 : IntKind.wrap .u64 ((x : Int) - 1) = ((x - 1 : Nat) : Int) := by rw [wu (by omega) (by omega)]; omega
 rw [e1]
 show IntKind.wrap .u64 (((BitVec.ofInt 64 (x : Int) &&& BitVec.ofInt 64 ((x - 1 : Nat) : Int)).toNat : Nat) : Int) = _
 rw [BitVec.toNat_and, ofI (by omega), ofI (by omega)]
 have := (bits_next h0 h).2
 rw [wu (by omega) (by omega)]
theorem or_lt {a : Au} {l n : Nat} (hn : n ≤ 12) : ∀ {L : List Nat} {o : Nat}, o < 2 ^ n → (∀ s ∈ L, nxA a s l < n) → L.foldl (orF a l) o < 2 ^ n
 | [], o, h, _ => h
 | s :: L, o, h, hL => or_lt hn (L := L) (Nat.or_lt_two_pow h (Nat.pow_lt_pow_right (by decide) (hL s (.head _)))) fun s hs => hL s (.tail _ hs)
theorem or_bit {a : Au} {l t : Nat} : ∀ {L : List Nat} {o : Nat}, (L.foldl (orF a l) o).testBit t = true ↔ o.testBit t = true ∨ ∃ s ∈ L, nxA a s l = t
 | [], o => by simp
 | s :: L, o => by
  rw [List.foldl_cons, or_bit (L := L)]
  unfold orF
  rw [Nat.testBit_or, Nat.testBit_two_pow]
  simp only [Bool.or_eq_true, decide_eq_true_eq, List.mem_cons, exists_eq_or_imp]
  exact or_assoc
theorem lt12 {n x : Nat} (hn : n ≤ 12) (h : x < 2 ^ n) : x < 4096 := Nat.lt_of_lt_of_le h (show 2 ^ n ≤ 2 ^ 12 from Nat.pow_le_pow_right (by decide) hn)
theorem bits_lt {n x k : Nat} (h : x < 2 ^ n) (hk : k ∈ bitsL x) : k < n := by
 have h2 := (bits_mem.1 hk).2
 refine Classical.byContradiction fun hc => ?_
 rw [Nat.testBit_lt_two_pow (Nat.lt_of_lt_of_le h (Nat.pow_le_pow_right (by decide) (by omega)))] at h2
 cases h2
theorem step_eq45 {a : Au} (h : OkA a) {S l : Nat} (hS : S < 2 ^ a.2.length) (hl : (l : Int) < a.1) : m_reset_step a (S : Int) (l : Int) = some (img a S l : Int) := by
  have hn := h.n12
  have hS12 := lt12 hn hS
  unfold m_reset_step
  rw [wu (by omega) (by omega)]
  have key : ∀ (k x o : Nat), (bitsL x).length = k → x < 2 ^ a.2.length → o < 2 ^ a.2.length → loopW (S := Int × Int) (X := Int) (fun a1 =>
      if 0 < a1.2 then
       (m_math_bits_TrailingZeros a1.2).bind fun x5 =>
       (idx a.2 x5).bind fun x7 =>
       (idx x7 (l : Int)).bind fun x9 =>
       if 0 ≤ x9 then
        some (Stp.next (IntKind.wrap .i64 (BitVec.ofInt (IntKind.bits .i64) a1.1 ||| BitVec.ofInt (IntKind.bits .i64) (IntKind.wrap .i64 (1 * 2 ^ (min (x9).toNat (IntKind.bits .i64))))).toNat, IntKind.wrap .u64 (BitVec.ofInt (IntKind.bits .u64) a1.2 &&& BitVec.ofInt (IntKind.bits .u64) (IntKind.wrap .u64 (a1.2 - 1))).toNat))
       else none
      else
       some (Stp.exit a1.1)) ((o : Int), (x : Int)) = some ((((bitsL x).foldl (orF a l) o : Nat)) : Int) := by
    intro k
    induction k with
    | zero =>
      intro x o hk hx ho
      have hx0 := bits_nil (lt12 hn hx) (List.eq_nil_of_length_eq_zero hk)
      subst hx0
      refine loopW_exit ?_
      dsimp only
      rw [if_neg (by omega), bits_zero]
      rfl
    | succ k ih =>
      intro x o hk hx ho
      have hx12 := lt12 hn hx
      have hx0 : 0 < x := by
        rcases Nat.eq_zero_or_pos x with h0 | h0
        · subst h0; rw [bits_zero] at hk; cases hk
        exact h0
      obtain ⟨b1, b2⟩ := bits_next hx0 hx12
      have hz : tzN x < a.2.length := bits_lt hx (by rw [b1]; exact .head _)
      obtain ⟨r, r1, r2, r3⟩ := h.at hz hl
      have htz : m_math_bits_TrailingZeros (x : Int) = some (tzN x : Int) := by
        unfold m_math_bits_TrailingZeros m_math_bits_TrailingZeros64
        rw [if_pos (by omega)]
        rfl
      refine (loopW_next (s' := (((orF a l o (tzN x) : Nat) : Int), ((x &&& (x - 1) : Nat) : Int))) ?_).trans ?_
      · dsimp only
        rw [if_pos (by omega), htz, Option.bind_some, r1, Option.bind_some, r2, Option.bind_some, if_pos (by omega), bor_eq (lt12 hn ho) (by omega), band_eq hx0 hx12]
        rfl
      rw [b1] at hk ⊢
      rw [List.foldl_cons]
      refine ih _ _ (by simpa using hk) (by omega) ?_
      exact Nat.or_lt_two_pow ho (Nat.pow_lt_pow_right (by decide) r3)
  have := key _ S 0 rfl hS (Nat.pow_pos (by decide))
  rw [show ((0 : Nat) : Int) = 0 from rfl] at this
  rw [this, Option.bind_some]
  rfl
theorem img_lt {a : Au} (h : OkA a) {S l : Nat} (hS : S < 2 ^ a.2.length) (hl : (l : Int) < a.1) : img a S l < 2 ^ a.2.length :=
 or_lt h.n12 (Nat.pow_pos (by decide)) fun s hs => (h.at (bits_lt hS hs) hl).choose_spec.2.2
theorem img_mem {a : Au} (h : OkA a) {S l t : Nat} (hS : S < 2 ^ a.2.length) (hl : (l : Int) < a.1) : t ∈ bitsL (img a S l) ↔ ∃ s ∈ bitsL S, nxA a s l = t := by
 rw [bits_mem]
 unfold img
 rw [or_bit]
 constructor
 ·rintro ⟨_, h1 | h1⟩
  ·simp at h1
  exact h1
 rintro ⟨s, hs, rfl⟩
 exact ⟨by have := (h.at (bits_lt hS hs) hl).choose_spec.2.2; have := h.n12; omega, .inr ⟨s, hs, rfl⟩⟩
theorem single_eq {S : Nat} (h : S < 4096) : m_reset_single (S : Int) = some (decide ((bitsL S).length = 1)) := by
 unfold m_reset_single m_math_bits_OnesCount m_math_bits_OnesCount64
 rw [wu (by omega) (by omega), if_pos (by omega)]
 simp only [Option.bind_some, Int.toNat_natCast]
 congr 1
 refine decide_eq_decide.2 ?_
 show ((bitsL S).length : Int) = 1 ↔ _
 omega
theorem all_eq {a : Au} (h : OkA a) : m_reset_all a = some ((2 ^ a.2.length - 1 : Nat) : Int) := by
 unfold m_reset_all
 have hn := h.n12
 have hp : 2 ^ a.2.length ≤ 4096 := show 2 ^ a.2.length ≤ 2 ^ 12 from Nat.pow_le_pow_right (by decide) hn
 have hp1 : 0 < 2 ^ a.2.length := Nat.pow_pos (by decide)
 rw [if_pos (by omega), Int.toNat_natCast, Int.one_mul]
 have : min a.2.length (IntKind.bits .i64) = a.2.length := Nat.min_eq_left (by show _ ≤ 64; omega)
 rw [this]
 have e : ((2 ^ a.2.length : Nat) : Int) = (2 : Int) ^ a.2.length := by rw [Int.natCast_pow]; rfl
 rw [← e]
 generalize 2 ^ a.2.length = P at hp hp1
 have e2 : IntKind.wrap .i64 (P : Int) = P := w64 (by omega) (by omega)
 rw [e2, w64 (by omega) (by omega)]
 congr 1
 omega
theorem all_mem {n k : Nat} (hn : n ≤ 12) : k ∈ bitsL (2 ^ n - 1) ↔ k < n := by
 rw [bits_mem, Nat.testBit_two_pow_sub_one]
 simp only [decide_eq_true_eq]
 omega
theorem all_lt (n : Nat) : 2 ^ n - 1 < 2 ^ n := Nat.sub_lt (Nat.pow_pos (by decide)) (by decide)
def letN (i : Nat) : UInt8 := letters.getD i 0
def wN (v : List Nat) : List UInt8 := v.map letN
def leadN (a : Au) : Nat → List Nat → Nat
 | S, [] => S
 | S, l :: v => leadN a (img a S l) v
def dl (a : Au) : Nat → List Nat → Nat
 | s, [] => s
 | s, l :: v => dl a (nxA a s l) v
def OkW (a : Au) (v : List Nat) : Prop := ∀ l ∈ v, (l : Int) < a.1
theorem OkW.tail {a : Au} {l : Nat} {v : List Nat} (h : OkW a (l :: v)) : (l : Int) < a.1 ∧ OkW a v := ⟨h l (.head _), fun x hx => h x (.tail _ hx)⟩
theorem lead_snoc (a : Au) (l : Nat) : ∀ (v : List Nat) (S : Nat), leadN a S (v ++ [l]) = img a (leadN a S v) l
 | [], S => rfl
 | x :: v, S => lead_snoc a l v (img a S x)
theorem lead_lt {a : Au} (h : OkA a) : ∀ {v : List Nat} {S : Nat}, OkW a v → S < 2 ^ a.2.length → leadN a S v < 2 ^ a.2.length
 | [], S, _, hS => hS
 | l :: v, S, hv, hS => lead_lt h (v := v) hv.tail.2 (img_lt h hS hv.tail.1)
theorem lead_mem {a : Au} (h : OkA a) {t : Nat} : ∀ {v : List Nat} {S : Nat}, OkW a v → S < 2 ^ a.2.length → (t ∈ bitsL (leadN a S v) ↔ ∃ s ∈ bitsL S, dl a s v = t)
 | [], S, _, hS => by simp [leadN, dl]
 | l :: v, S, hv, hS => by
  show t ∈ bitsL (leadN a (img a S l) v) ↔ _
  rw [lead_mem h (v := v) hv.tail.2 (img_lt h hS hv.tail.1)]
  constructor
  ·rintro ⟨s, hs, rfl⟩
   obtain ⟨s0, h0, rfl⟩ := (img_mem h hS hv.tail.1).1 hs
   exact ⟨s0, h0, rfl⟩
  rintro ⟨s0, h0, rfl⟩
  exact ⟨_, (img_mem h hS hv.tail.1).2 ⟨s0, h0, rfl⟩, rfl⟩
def one (S : Nat) : Prop := (bitsL S).length = 1
instance (S : Nat) : Decidable (one S) := inferInstanceAs (Decidable (_ = _))
theorem nodup_sub45 {α : Type} [DecidableEq α] : ∀ {l m : List α}, l.Nodup → (∀ x ∈ l, x ∈ m) → l.length ≤ m.length
 | [], _, _, _ => Nat.zero_le _
 | x :: l, m, hn, hs => by
  have hx := hs x (.head _)
  rw [List.nodup_cons] at hn
  have := nodup_sub45 (l := l) (m := m.erase x) hn.2 fun y hy => (List.mem_erase_of_ne (by rintro rfl; exact hn.1 hy)).2 (hs y (.tail _ hy))
  rw [List.length_erase_of_mem hx] at this
  have := List.length_pos_of_mem hx
  rw [List.length_cons]
  omega
theorem nodup_le : ∀ (N : Nat) (l : List Nat), l.Nodup → (∀ x ∈ l, x < N) → l.length ≤ N := by
 intro N l hn hl
 have : l.length ≤ (List.range N).length := nodup_sub45 hn fun x hx => List.mem_range.2 (hl x hx)
 simpa using this
def seenE (s : List Nat) : List (Int × Bool) := s.map fun (x : Nat) => ((x : Int), true)
def queE (q : List (Nat × List Nat)) : List TSetWord := q.map fun x => ((x.1 : Int), wN x.2)
theorem wfI {n : Nat} (h : n < 4096) : wfInt (n : Int) = true := by
 simp [wfInt, Lit.wf, IntKind.min, IntKind.max, IntKind.signed, IntKind.bits]; omega
theorem seen_wf {s : List Nat} (h : ∀ x ∈ s, x < 4096) : ∀ x ∈ seenE s, wfInt x.1 = true := fun x hx => by
 obtain ⟨y, hy, rfl⟩ := List.mem_map.1 hx
 exact wfI (h y hy)
theorem kgetI {s : List Nat} (h : ∀ x ∈ s, x < 4096) {k : Nat} (hk : k < 4096) : kget wfInt (k : Int) false (seenE s) = some (decide (k ∈ s)) := by
 unfold kget
 rw [if_pos ⟨wfI hk, seen_wf h⟩]
 have hall : ∀ y ∈ (seenE s).filter (fun x => decide (x.1 = (k : Int))), y.2 = true ∧ k ∈ s := fun y hy => by
  obtain ⟨h1, h2⟩ := List.mem_filter.1 hy
  obtain ⟨z, hz, rfl⟩ := List.mem_map.1 h1
  have h2 : (z : Int) = (k : Int) := of_decide_eq_true h2
  have : z = k := by omega
  exact ⟨rfl, this ▸ hz⟩
 cases hf : (seenE s).filter (fun x => decide (x.1 = (k : Int))) with
 | nil =>
  have : k ∉ s := fun hks => by
   have : ((k : Int), true) ∈ (seenE s).filter (fun x => decide (x.1 = (k : Int))) := List.mem_filter.2 ⟨List.mem_map.2 ⟨k, hks, rfl⟩, by simp⟩
   rw [hf] at this
   cases this
  simp [this]
 | cons y l =>
  rw [hf] at hall
  have hy := hall y (.head _)
  show (if ∀ x ∈ l, x.2 = y.2 then some y.2 else none) = _
  rw [if_pos (fun x hx => by rw [(hall x (.tail _ hx)).1, hy.1]), hy.1]
  simp [hy.2]
theorem ksetI {s : List Nat} (h : ∀ x ∈ s, x < 4096) {k : Nat} (hk : k < 4096) : kset wfInt (k : Int) true (seenE s) = some (seenE (s ++ [k])) := by
 unfold kset
 rw [if_pos ⟨wfI hk, seen_wf h, fun x hx _ => by obtain ⟨y, hy, rfl⟩ := List.mem_map.1 hx; rfl⟩]
 simp [seenE]
theorem tk1 : ∀ l, l < 16 → ((([48, 49, 50, 51, 52, 53, 54, 55, 56, 57, 97, 98, 99, 100, 101, 102] : List UInt8).take (l + 1)).drop l) = [letN l] := by decide
def sF (a : Au) (x : Nat × List Nat) (A : List (Nat × List Nat) × List Nat) (l : Nat) : List (Nat × List Nat) × List Nat :=
 if img a x.1 l ∈ A.2 then A else (A.1 ++ [(img a x.1 l, x.2 ++ [l])], A.2 ++ [img a x.1 l])
theorem sF_new (a : Au) (x : Nat × List Nat) (A : List (Nat × List Nat) × List Nat) : ∀ L : List Nat, ∃ new : List (Nat × List Nat), L.foldl (sF a x) A = (A.1 ++ new, A.2 ++ new.map (·.1)) ∧ (∀ y ∈ new, ∃ l ∈ L, y = (img a x.1 l, x.2 ++ [l])) ∧ (∀ l ∈ L, img a x.1 l ∈ A.2 ++ new.map (·.1)) := by
 intro L
 induction L generalizing A with
 | nil => exact ⟨[], by simp, by simp, by simp⟩
 | cons l L ih =>
  rw [List.foldl_cons]
  by_cases hm : img a x.1 l ∈ A.2
  ·have e : sF a x A l = A := if_pos hm
   rw [e]
   obtain ⟨new, h1, h2, h3⟩ := ih A
   refine ⟨new, h1, fun y hy => ?_, fun l' hl' => ?_⟩
   ·obtain ⟨l', hl', e⟩ := h2 y hy; exact ⟨l', .tail _ hl', e⟩
   rcases List.mem_cons.1 hl' with rfl | hl'
   ·exact List.mem_append_left _ hm
   exact h3 l' hl'
  have e : sF a x A l = (A.1 ++ [(img a x.1 l, x.2 ++ [l])], A.2 ++ [img a x.1 l]) := if_neg hm
  rw [e]
  obtain ⟨new, h1, h2, h3⟩ := ih (A.1 ++ [(img a x.1 l, x.2 ++ [l])], A.2 ++ [img a x.1 l])
  refine ⟨(img a x.1 l, x.2 ++ [l]) :: new, by rw [h1]; simp, fun y hy => ?_, fun l' hl' => ?_⟩
  ·rcases List.mem_cons.1 hy with rfl | hy
   ·exact ⟨l, .head _, rfl⟩
   obtain ⟨l', hl', e⟩ := h2 y hy; exact ⟨l', .tail _ hl', e⟩
  rcases List.mem_cons.1 hl' with rfl | hl'
  ·simp
  have := h3 l' hl'
  simp only [List.append_assoc, List.mem_append, List.map_cons, List.mem_cons] at this ⊢
  simpa [or_assoc] using this
theorem sF_ok {a : Au} {x : Nat × List Nat} {N : Nat} {L : List Nat} (hi : ∀ l ∈ L, img a x.1 l < N) : ∀ {A : List (Nat × List Nat) × List Nat}, A.2.Nodup → (∀ S ∈ A.2, S < N) → A.1.length ≤ A.2.length →
  (L.foldl (sF a x) A).2.Nodup ∧ (∀ S ∈ (L.foldl (sF a x) A).2, S < N) ∧ (L.foldl (sF a x) A).1.length ≤ (L.foldl (sF a x) A).2.length := by
 induction L with
 | nil => exact fun h1 h2 h3 => ⟨h1, h2, h3⟩
 | cons l L ih =>
  intro A h1 h2 h3
  rw [List.foldl_cons]
  have hi' : ∀ l ∈ L, img a x.1 l < N := fun l hl => hi l (.tail _ hl)
  by_cases hm : img a x.1 l ∈ A.2
  ·have e : sF a x A l = A := if_pos hm
   rw [e]
   exact ih hi' h1 h2 h3
  have e : sF a x A l = (A.1 ++ [(img a x.1 l, x.2 ++ [l])], A.2 ++ [img a x.1 l]) := if_neg hm
  rw [e]
  refine ih hi' ?_ ?_ (by simpa using h3)
  ·rw [List.nodup_append]
   refine ⟨h1, by simp, fun p hp q hq => ?_⟩
   rw [List.mem_singleton] at hq
   subst hq
   exact fun e => hm (e ▸ hp)
  intro S hS
  rcases List.mem_append.1 hS with hS | hS
  ·exact h2 S hS
  rw [List.mem_singleton] at hS
  subst hS
  exact hi l (.head _)
structure Inv (a : Au) (Q : List (Nat × List Nat)) (seen : List Nat) : Prop where
 nd : seen.Nodup
 lt : ∀ S ∈ seen, S < 2 ^ a.2.length
 len : Q.length ≤ seen.length
 all : 2 ^ a.2.length - 1 ∈ seen
 q : ∀ x ∈ Q, x.1 ∈ seen ∧ OkW a x.2 ∧ leadN a (2 ^ a.2.length - 1) x.2 = x.1 ∧ x.2.length < seen.length
 ex : ∃ (k : Nat) (Q1 Q2 : List (Nat × List Nat)) (D : Nat → Prop), Q = Q1 ++ Q2 ∧ (∀ x ∈ Q1, x.2.length = k) ∧ (∀ x ∈ Q2, x.2.length = k + 1) ∧
  (∀ S, S ∈ seen ↔ D S ∨ S ∈ Q.map (·.1)) ∧ (∀ S, D S → ¬ one S ∧ ∀ l : Nat, (l : Int) < a.1 → img a S l ∈ seen) ∧
  (∀ v, OkW a v → v.length < k → D (leadN a (2 ^ a.2.length - 1) v)) ∧ (∀ v, OkW a v → v.length = k → D (leadN a (2 ^ a.2.length - 1) v) ∨ leadN a (2 ^ a.2.length - 1) v ∈ Q1.map (·.1))
theorem snoc_of {v : List Nat} {k : Nat} (h : v.length = k + 1) : ∃ u l, v = u ++ [l] ∧ u.length = k := by
 have hne : v ≠ [] := fun e => by subst e; cases h
 refine ⟨v.dropLast, v.getLast hne, (List.dropLast_concat_getLast hne).symm, by rw [List.length_dropLast]; omega⟩
theorem Inv.front {a : Au} {x : Nat × List Nat} {R : List (Nat × List Nat)} {seen : List Nat} (h : Inv a (x :: R) seen) : ∃ (k : Nat) (Q1 Q2 : List (Nat × List Nat)) (D : Nat → Prop), R = Q1 ++ Q2 ∧ (∀ y ∈ x :: Q1, y.2.length = k) ∧ (∀ y ∈ Q2, y.2.length = k + 1) ∧
  (∀ S, S ∈ seen ↔ D S ∨ S ∈ (x :: R).map (·.1)) ∧ (∀ S, D S → ¬ one S ∧ ∀ l : Nat, (l : Int) < a.1 → img a S l ∈ seen) ∧
  (∀ v, OkW a v → v.length < k → D (leadN a (2 ^ a.2.length - 1) v)) ∧ (∀ v, OkW a v → v.length = k → D (leadN a (2 ^ a.2.length - 1) v) ∨ leadN a (2 ^ a.2.length - 1) v ∈ (x :: Q1).map (·.1)) := by
 obtain ⟨k, Q1, Q2, D, hQ, h1, h2, h3, h4, h5, h6⟩ := h.ex
 cases Q1 with
 | cons y Q1 =>
  simp only [List.cons_append, List.cons.injEq] at hQ
  obtain ⟨rfl, rfl⟩ := hQ
  exact ⟨k, Q1, Q2, D, rfl, h1, h2, h3, h4, h5, h6⟩
 | nil =>
  rw [List.nil_append] at hQ
  subst hQ
  refine ⟨k + 1, R, [], D, by simp, h2, by simp, h3, h4, fun v hv hl => ?_, fun v hv hl => ?_⟩
  ·rcases Nat.lt_or_ge v.length k with hk | hk
   ·exact h5 v hv hk
   rcases h6 v hv (by omega) with h | h
   ·exact h
   simp at h
  obtain ⟨u, l, rfl, hu⟩ := snoc_of hl
  have hou : OkW a u := fun y hy => hv y (List.mem_append_left _ hy)
  have hl2 : (l : Int) < a.1 := hv l (by simp)
  rcases h6 u hou hu with h | h
  ·rw [lead_snoc]
   exact (h3 _).1 ((h4 _ h).2 l hl2)
  simp at h
theorem Inv.step {a : Au} (hA : OkA a) {x : Nat × List Nat} {R : List (Nat × List Nat)} {seen : List Nat} (h : Inv a (x :: R) seen) (hx : ¬ one x.1) {A : List (Nat × List Nat) × List Nat} (hAe : A = (List.range a.1.toNat).foldl (sF a x) (R, seen)) : Inv a A.1 A.2 ∧ ∃ d, A.1.length = R.length + d ∧ A.2.length = seen.length + d ∧ A.2.length ≤ 2 ^ a.2.length := by
 obtain ⟨k, Q1, Q2, D, rfl, h1, h2, h3, h4, h5, h6⟩ := h.front
 obtain ⟨new, n1, n2, n3⟩ := sF_new a x (Q1 ++ Q2, seen) (List.range a.1.toNat)
 have hq := hA.q1
 obtain ⟨x1, x2, x3, x4⟩ := h.q x (.head _)
 have hxl : x.1 < 2 ^ a.2.length := h.lt _ x1
 have hlt : ∀ l ∈ List.range a.1.toNat, (l : Int) < a.1 := fun l hl => by have := List.mem_range.1 hl; omega
 have hok := sF_ok (a := a) (x := x) (N := 2 ^ a.2.length) (L := List.range a.1.toNat) (fun l hl => img_lt hA hxl (hlt l hl)) (A := (Q1 ++ Q2, seen)) h.nd h.lt (by have := h.len; simp at this ⊢; omega)
 rw [← hAe] at n1 hok
 rw [n1] at hok ⊢
 obtain ⟨o1, o2, o3⟩ := hok
 dsimp only at o1 o2 o3 ⊢
 refine ⟨⟨o1, o2, o3, List.mem_append_left _ h.all, fun y hy => ?_, k, Q1, Q2 ++ new, (fun S => D S ∨ S = x.1), by simp, fun y hy => h1 y (.tail _ hy), fun y hy => ?_, fun S => ?_, fun S hS => ?_, fun v hv hl => .inl (h5 v hv hl), fun v hv hl => ?_⟩, new.length, by simp; omega, by simp, nodup_le _ _ o1 o2⟩
 ·rcases List.mem_append.1 hy with hy | hy
  ·obtain ⟨q1, q2, q3, q4⟩ := h.q y (.tail _ hy)
   exact ⟨List.mem_append_left _ q1, q2, q3, by simp; omega⟩
  obtain ⟨l, hl, rfl⟩ := n2 y hy
  refine ⟨List.mem_append_right _ (List.mem_map.2 ⟨_, hy, rfl⟩), fun z hz => ?_, ?_, ?_⟩
  ·rcases List.mem_append.1 hz with hz | hz
   ·exact x2 z hz
   rw [List.mem_singleton] at hz; subst hz; exact hlt _ hl
  ·rw [lead_snoc, x3]
  have : 0 < new.length := List.length_pos_of_mem hy
  simp only [List.length_append, List.length_map, List.length_singleton]
  omega
 ·rcases List.mem_append.1 hy with hy | hy
  ·exact h2 y hy
  obtain ⟨l, hl, rfl⟩ := n2 y hy
  have := h1 x (.head _)
  simp [this]
 ·have e3 := h3 S
  simp only [List.mem_append, List.map_append, List.map_cons, List.mem_cons] at e3 ⊢
  rw [e3]
  constructor
  ·rintro ((h | h | h) | h)
   ·exact .inl (.inl h)
   ·exact .inl (.inr h)
   ·exact .inr (.inl h)
   exact .inr (.inr h)
  rintro ((h | h) | h | h)
  ·exact .inl (.inl h)
  ·exact .inl (.inr (.inl h))
  ·exact .inl (.inr (.inr h))
  exact .inr h
 ·rcases hS with hS | rfl
  ·exact ⟨(h4 S hS).1, fun l hl => List.mem_append_left _ ((h4 S hS).2 l hl)⟩
  exact ⟨hx, fun l hl => n3 l (List.mem_range.2 (by omega))⟩
 rcases h6 v hv hl with h | h
 ·exact .inl (.inl h)
 rw [List.map_cons] at h
 rcases List.mem_cons.1 h with h | h
 ·exact .inl (.inr h)
 exact .inr h
theorem Inv.start {a : Au} : Inv a [(2 ^ a.2.length - 1, [])] [2 ^ a.2.length - 1] where
 nd := by simp
 lt := fun S hS => by rw [List.mem_singleton] at hS; subst hS; exact all_lt _
 len := Nat.le_refl _
 all := .head _
 q := fun x hx => by
  rw [List.mem_singleton] at hx
  subst hx
  refine ⟨.head _, ?_, rfl, by simp⟩
  intro l hl
  cases hl
 ex := ⟨0, [(2 ^ a.2.length - 1, [])], [], fun _ => False, rfl, by simp, by simp, by simp, fun S h => h.elim, fun v _ h => by omega, fun v hv hl => .inr (by
  have := List.eq_nil_of_length_eq_zero hl
  subst this
  simp [leadN])⟩
def Sres (a : Au) (r : List UInt8 × Bool) : Prop :=
 (r.2 = true ∧ ∃ v, OkW a v ∧ r.1 = wN v ∧ v.length < 4096 ∧ one (leadN a (2 ^ a.2.length - 1) v) ∧ ∀ u, OkW a u → one (leadN a (2 ^ a.2.length - 1) u) → v.length ≤ u.length) ∨
 (r.2 = false ∧ ∀ u, OkW a u → ¬ one (leadN a (2 ^ a.2.length - 1) u))
theorem Inv.done {a : Au} {seen : List Nat} (h : Inv a [] seen) : ∀ u, OkW a u → ¬ one (leadN a (2 ^ a.2.length - 1) u) := by
 obtain ⟨k, Q1, Q2, D, hQ, h1, h2, h3, h4, h5, h6⟩ := h.ex
 have hs : ∀ S, S ∈ seen ↔ D S := fun S => by rw [h3]; simp
 have key : ∀ (u : List Nat) (S : Nat), OkW a u → D S → D (leadN a S u) := by
  intro u
  induction u with
  | nil => exact fun S _ h => h
  | cons l u ih => exact fun S hu hS => ih _ hu.tail.2 ((hs _).1 ((h4 S hS).2 l hu.tail.1))
 exact fun u hu => (h4 _ (key u _ hu ((hs _).1 h.all))).1
theorem Inv.found {a : Au} (hA : OkA a) {x : Nat × List Nat} {R : List (Nat × List Nat)} {seen : List Nat} (h : Inv a (x :: R) seen) (hx : one x.1) : Sres a (wN x.2, true) := by
 obtain ⟨k, Q1, Q2, D, rfl, h1, h2, h3, h4, h5, h6⟩ := h.front
 obtain ⟨x1, x2, x3, x4⟩ := h.q x (.head _)
 have hp : seen.length ≤ 2 ^ a.2.length := nodup_le _ _ h.nd h.lt
 have hp2 : 2 ^ a.2.length ≤ 4096 := show _ ≤ 2 ^ 12 from Nat.pow_le_pow_right (by decide) hA.n12
 refine .inl ⟨rfl, x.2, x2, rfl, by omega, by rw [x3]; exact hx, fun u hu ho => ?_⟩
 rw [h1 x (.head _)]
 refine Classical.byContradiction fun hc => ?_
 exact (h4 _ (h5 u hu (by omega))).1 ho
theorem search_eq {a : Au} (hA : OkA a) : ∃ r, m_reset_search a ((2 ^ a.2.length - 1 : Nat) : Int) = some r ∧ Sres a r := by
 have hp2 : 2 ^ a.2.length ≤ 4096 := show _ ≤ 2 ^ 12 from Nat.pow_le_pow_right (by decide) hA.n12
 have hq1 := hA.q1
 have hq8 := hA.q8
 obtain ⟨q, hq⟩ := Int.eq_ofNat_of_zero_le (show 0 ≤ a.1 by omega)
 have hall := all_lt a.2.length
 unfold m_reset_search
 rw [show ([] : List (Int × Bool)) = seenE [] from rfl, ksetI (fun x hx => by cases hx) (by omega)]
 simp only [Option.bind_some]
 generalize hb : (fun (a8 : (List TSetWord) × (List (Int × Bool))) => _) = body
 have hround : ∀ s : (List TSetWord) × (List (Int × Bool)), (∃ Q seen, s = (queE Q, seenE seen) ∧ Inv a Q seen) →
   (∃ s', body s = some (.next s') ∧ (∃ Q seen, s' = (queE Q, seenE seen) ∧ Inv a Q seen) ∧ 2 * (4096 - s'.2.length) + s'.1.length < 2 * (4096 - s.2.length) + s.1.length) ∨
   (∃ x, body s = some (.exit x) ∧ (match x with | .go _ => Sres a ([], false) | .ret r => Sres a r)) := by
  rintro s ⟨Q, seen, rfl, hI⟩
  have hs12 : ∀ x ∈ seen, x < 4096 := fun x hx => Nat.lt_of_lt_of_le (hI.lt x hx) hp2
  have hsl : seen.length ≤ 4096 := nodup_le _ _ hI.nd hs12
  cases Q with
  | nil =>
   refine .inr ⟨.go (), ?_, .inr ⟨rfl, hI.done⟩⟩
   subst hb
   dsimp only [queE, List.map_nil]
   rfl
  | cons x R =>
   obtain ⟨x1, x2, x3, x4⟩ := hI.q x (.head _)
   have hx12 := hs12 _ x1
   have hidx : idx (queE (x :: R)) 0 = some ((x.1 : Int), wN x.2) := rfl
   by_cases h1 : one x.1
   ·refine .inr ⟨.ret (wN x.2, true), ?_, hI.found hA h1⟩
    subst hb
    dsimp only
    rw [if_pos (by simp [queE]), hidx, Option.bind_some, Option.bind_some, if_pos (by simp [queE]), single_eq hx12]
    simp only [Option.bind_some]
    rw [if_pos (show decide ((bitsL x.1).length = 1) = true from decide_eq_true h1)]
   obtain ⟨st1, d, st2, st3, st4⟩ := hI.step hA h1 rfl
   generalize hAe : (List.range a.1.toNat).foldl (sF a x) (R, seen) = A at st1 st2 st3 st4
   refine .inl ⟨(queE A.1, seenE A.2), ?_, ⟨A.1, A.2, rfl, st1⟩, ?_⟩
   ·subst hb
    dsimp only
    rw [if_pos (by simp [queE]), hidx, Option.bind_some, Option.bind_some, if_pos (by simp [queE]), single_eq hx12]
    simp only [Option.bind_some]
    rw [if_neg (show ¬ decide ((bitsL x.1).length = 1) = true from fun e => h1 (of_decide_eq_true e))]
    unfold jp
    refine (congrArg (fun o : Option _ => o.bind _) (loop_fold (fun i (A : List (Nat × List Nat) × List Nat) => ((i : Int), queE A.1, seenE A.2)) q (sF a x) (fun A => (queE A.1, seenE A.2)) (fun A => A.2.Nodup ∧ (∀ S ∈ A.2, S < 2 ^ a.2.length) ∧ A.1.length ≤ A.2.length) ?_ ?_ ?_ (R, seen) ⟨hI.nd, hI.lt, by have := hI.len; simp at this ⊢; omega⟩ ?_)).trans ?_
    ·intro i A hi hAi
     have := sF_ok (a := a) (x := x) (N := 2 ^ a.2.length) (L := [i]) (fun l hl => by rw [List.mem_singleton] at hl; subst hl; exact img_lt hA (hI.lt _ x1) (by omega)) (A := A) hAi.1 hAi.2.1 hAi.2.2
     exact this
    ·rintro i A hi ⟨hA1, hA2, hA3⟩
     have hil : (i : Int) < a.1 := by omega
     have hA12 : ∀ y ∈ A.2, y < 4096 := fun y hy => Nat.lt_of_lt_of_le (hA2 y hy) hp2
     have hAl : A.2.length ≤ 4096 := nodup_le _ _ hA1 hA12
     have himg := img_lt hA (hI.lt _ x1) hil
     have hw1 : IntKind.wrap .i64 ((i : Int) + 1) = ((i + 1 : Nat) : Int) := by rw [w64 (by omega) (by omega)]; omega
     dsimp only
     rw [if_pos (by omega), step_eq45 hA (hI.lt _ x1) hil, Option.bind_some, kgetI hA12 (by omega), Option.bind_some]
     by_cases hm : img a x.1 i ∈ A.2
     ·rw [if_neg (by simpa using hm), hw1, show sF a x A i = A from if_pos hm]
     rw [if_pos (by simpa using hm), ksetI hA12 (by omega), Option.bind_some, hw1, if_pos ⟨by omega, by omega, by show _ ≤ (16 : Int); omega⟩, Int.toNat_natCast, Int.toNat_natCast, tk1 i (by omega), if_pos (by simp [wN, maxLen]; omega), if_pos ⟨by simp [queE]; omega, by simp [queE, maxLen]; omega⟩, show sF a x A i = (A.1 ++ [(img a x.1 i, x.2 ++ [i])], A.2 ++ [img a x.1 i]) from if_neg hm]
     simp [queE, seenE, wN]
    ·rintro A _
     dsimp only
     rw [if_neg (by omega)]
    ·simp [queE]
    rw [← hAe]
    simp only [Option.bind_some]
    rw [hq]
    rfl
   simp only [queE, seenE, List.length_map, List.length_cons]
   omega
 obtain ⟨x, hx, hQ⟩ := loopW_inv (body := body) (fun s => ∃ Q seen, s = (queE Q, seenE seen) ∧ Inv a Q seen) (fun s => 2 * (4096 - s.2.length) + s.1.length) (fun x => match x with | .go _ => Sres a ([], false) | .ret r => Sres a r) hround (queE [(2 ^ a.2.length - 1, [])], seenE [2 ^ a.2.length - 1]) ⟨_, _, rfl, Inv.start⟩
 have hst : ([(((2 ^ a.2.length - 1 : Nat) : Int), ([] : List UInt8))], seenE ([] ++ [2 ^ a.2.length - 1])) = (queE [(2 ^ a.2.length - 1, [])], seenE [2 ^ a.2.length - 1]) := rfl
 rw [hst]
 cases x with
 | go u => exact ⟨([], false), by rw [hx]; rfl, hQ⟩
 | ret r => exact ⟨r, by rw [hx]; rfl, hQ⟩
abbrev Cd := TLettersWords
structure VC (c : Cd) : Prop where
 q2 : 2 ≤ c.1
 q16 : c.1 ≤ 16
 ne : c.2 ≠ []
 l64 : c.2.length ≤ 64
 w : ∀ w ∈ c.2, w ≠ [] ∧ w.length ≤ 32 ∧ ∀ x ∈ w, x ∈ letters.take c.1.toNat
 asc : c.2.Pairwise fun a b => wle b a = false
theorem cmpI_eq (x y : Int) : m_cmp_Compare_int x y = some (Lib.compareInt x y) := by
 unfold m_cmp_Compare_int m_cmp_isNaN_int Lib.compareInt
 simp only [Option.bind_some, ne_eq, not_true_eq_false, decide_false, Bool.false_eq_true, if_false]
 by_cases h : x < y
 ·simp [h]
 by_cases h2 : y < x <;> simp [h, h2]
theorem or_eq2 (x y : Int) : m_cmp_Or_int [x, y] = some (orI x y) := by
 unfold m_cmp_Or_int orI
 by_cases hx : x ≠ 0
 ·refine lpE (x := Ou.ret x) (loopW_exit ?_) ?_
  ·simp [idx, hx]
  rw [if_pos hx]; rfl
 rw [if_neg hx]
 by_cases hy : y ≠ 0
 ·refine lpE (x := Ou.ret y) ((loopW_next (s' := 1) ?_).trans (loopW_exit ?_)) rfl
  ·have : x = 0 := by simpa using hx
   simp [idx, this, IntKind.wrap, IntKind.bits, IntKind.signed]
  simp [idx, hy]
 have hy : y = 0 := by simpa using hy
 have hx : x = 0 := by simpa using hx
 subst hx hy
 refine lpE (x := Ou.go ()) ((loopW_next (s' := 1) ?_).trans ((loopW_next (s' := 2) ?_).trans (loopW_exit ?_))) rfl
 ·simp [idx, IntKind.wrap, IntKind.bits, IntKind.signed]
 ·simp [idx, IntKind.wrap, IntKind.bits, IntKind.signed]
 simp [idx]
theorem before_eq (a b : List UInt8) : ∃ z, m_code_before a b = some z ∧ (z < 0 ↔ wle b a = false) := by
 unfold m_code_before m_strings_Compare m_internal_bytealg_CompareString
 simp only [Option.bind_some, cmpI_eq, or_eq2]
 exact ⟨_, rfl, or_neg a b (cmpB_neg a b)⟩
def okAt (c : Cd) (i : Nat) : Prop := ∀ h : i < c.2.length, (c.2[i] ≠ [] ∧ c.2[i].length ≤ 32 ∧ ∀ x ∈ c.2[i], x ∈ letters.take c.1.toNat) ∧ ∀ h0 : 0 < i, wle c.2[i] c.2[i - 1] = false
theorem wle_strict {a b c : List UInt8} (h1 : wle b a = false) (h2 : wle c b = false) : wle c a = false := by
 refine Bool.eq_false_iff.2 fun h => ?_
 have h3 : wle b c = true := by have := wle_total b c; rw [h2, Bool.or_false] at this; exact this
 rw [wle_trans b c a h3 h] at h1
 cases h1
theorem asc_of {l : List (List UInt8)} (h : ∀ i (hi : i < l.length) (h0 : 0 < i), wle l[i] l[i - 1] = false) : l.Pairwise fun a b => wle b a = false := by
 rw [List.pairwise_iff_getElem]
 have key : ∀ d i (hi : i < l.length) (hj : i + (d + 1) < l.length), wle l[i + (d + 1)] l[i] = false := by
  intro d
  induction d with
  | zero => exact fun i hi hj => h (i + 1) hj (by omega)
  | succ d ih =>
   intro i hi hj
   exact wle_strict (ih i hi (by omega)) (h (i + (d + 1) + 1) hj (by omega))
 intro i j hi hj hij
 obtain ⟨d, rfl⟩ : ∃ d, j = i + (d + 1) := ⟨j - i - 1, by omega⟩
 exact key d i hi hj
theorem Check45 (c : Cd) : ∃ e, m_code_Check c = some e ∧ (e = 0 ↔ VC c) := by
 unfold m_code_Check
 unfold jp
 dsimp only
 by_cases hq1 : c.1 < 2
 ·rw [if_pos hq1]
  exact ⟨12, rfl, by simp, fun h => by have := h.q2; omega⟩
 rw [if_neg hq1]
 by_cases hq2 : 16 < c.1
 ·rw [if_pos (by simpa using hq2)]
  exact ⟨12, rfl, by simp, fun h => by have := h.q16; omega⟩
 rw [if_neg (by simpa using hq2)]
 by_cases hne : (c.2.length : Int) = 0
 ·rw [if_pos hne]
  exact ⟨5, rfl, by simp, fun h => absurd (List.eq_nil_of_length_eq_zero (by omega)) h.ne⟩
 rw [if_neg hne]
 by_cases hl : 64 < (c.2.length : Int)
 ·rw [if_pos hl]
  exact ⟨4, rfl, by simp, fun h => by have := h.l64; omega⟩
 rw [if_neg hl]
 generalize hb : (fun (a4 : Int) => (_ : Option (Stp Int (Ou Unit Int)))) = body
 have hrun := loopN (body := body) (Q := fun x : Ou Unit Int => match x with | .ret e => e ≠ 0 ∧ ∃ j, j < c.2.length ∧ ¬ okAt c j | .go _ => ∀ j, j < c.2.length → okAt c j) c.2.length (fun i s => s = (i : Int) ∧ ∀ j, j < i → okAt c j) (fun i s hi ⟨hs, hI⟩ => by
  subst hs hb
  dsimp only
  rw [if_pos (by omega), idx_nat, List.getElem?_eq_getElem hi, Option.bind_some]
  by_cases h1 : c.2[i] = []
  ·rw [if_pos h1]
   exact .inr ⟨_, rfl, by simp, i, hi, fun h => (h hi).1.1 h1⟩
  rw [if_neg h1]
  by_cases h2 : 32 < (c.2[i].length : Int)
  ·rw [if_pos h2]
   exact .inr ⟨_, rfl, by simp, i, hi, fun h => by have := (h hi).1.2.1; omega⟩
  rw [if_neg h2]
  obtain ⟨e, he, hz⟩ := wcheck c.1 c.2[i]
  rw [he, Option.bind_some]
  by_cases h3 : e ≠ 0
  ·rw [if_pos h3]
   exact .inr ⟨_, rfl, by simp, i, hi, fun h => h3 (hz.2 ⟨by omega, by omega, (h hi).1.2.2⟩)⟩
  rw [if_neg h3]
  have h3 := hz.1 (by simpa using h3)
  have hw1 : IntKind.wrap .i64 ((i : Int) + 1) = ((i + 1 : Nat) : Int) := by rw [w64 (by omega) (by omega)]; omega
  by_cases h0 : 0 < (i : Int)
  ·rw [if_pos h0]
   have hw2 : IntKind.wrap .i64 ((i : Int) - 1) = ((i - 1 : Nat) : Int) := by rw [w64 (by omega) (by omega)]; omega
   obtain ⟨z, hz1, hz2⟩ := before_eq c.2[i - 1] c.2[i]
   rw [hw2, idx_nat, List.getElem?_eq_getElem (by omega), Option.bind_some, hz1, Option.bind_some]
   by_cases h4 : 0 ≤ z
   ·rw [if_pos (by simpa using h4)]
    refine .inr ⟨_, rfl, by simp, i, hi, fun h => ?_⟩
    have := hz2.2 ((h hi).2 (by omega))
    omega
   rw [if_neg (by simpa using h4), hw1]
   refine .inl ⟨_, rfl, rfl, fun j hj => ?_⟩
   rcases Nat.lt_or_ge j i with h | h
   ·exact hI j h
   have : j = i := by omega
   subst this
   exact fun hh => ⟨⟨h1, by omega, h3.2.2⟩, fun _ => hz2.1 (by omega)⟩
  ·rw [if_neg h0, if_neg (by decide), hw1]
   refine .inl ⟨_, rfl, rfl, fun j hj => ?_⟩
   have : j = i := by omega
   subst this
   exact fun hh => ⟨⟨h1, by omega, h3.2.2⟩, fun h => by omega⟩) (fun s ⟨hs, hI⟩ => by
  subst hs hb
  dsimp only
  rw [if_neg (by omega)]
  exact ⟨_, rfl, hI⟩) 0 0 (Nat.zero_le _) ⟨rfl, fun j hj => by omega⟩
 obtain ⟨x, hx, hQ⟩ := hrun
 rw [hx]
 cases x with
 | ret e =>
  obtain ⟨h1, j, hj, h2⟩ := hQ
  refine ⟨e, rfl, fun h => absurd h h1, fun h => absurd ?_ h2⟩
  exact fun hh => ⟨h.w _ (List.getElem_mem hh), fun h0 => List.pairwise_iff_getElem.1 h.asc (j - 1) j (by omega) hh (by omega)⟩
 | go u =>
  refine ⟨0, rfl, fun _ => ?_, fun _ => rfl⟩
  refine ⟨by omega, by omega, fun h => hne (by rw [h]; rfl), by omega, fun w hw => ?_, asc_of fun i hi h0 => (hQ i hi hi).2 h0⟩
  obtain ⟨i, hi, rfl⟩ := List.getElem_of_mem hw
  exact (hQ i hi hi).1
theorem HasPre {a b : List UInt8} : m_strings_HasPrefix a b = some (decide (b <+: a)) := by
 unfold m_strings_HasPrefix m_internal_stringslite_HasPrefix
 unfold jp
 dsimp only
 by_cases h : (b.length : Int) ≤ a.length
 ·rw [if_pos h, if_pos ⟨by omega, by omega, h⟩]
  simp only [Option.bind_some, Int.toNat_natCast, Int.toNat_zero, List.drop_zero]
  congr 1
  refine decide_eq_decide.2 ?_
  rw [List.prefix_iff_eq_take]
  exact eq_comm
 rw [if_neg h]
 simp only [Option.bind_some]
 congr 1
 symm
 refine decide_eq_false fun hp => ?_
 have := hp.length_le
 omega
def PF (W : List (List UInt8)) : Prop := ∀ i k (hi : i < W.length) (hk : k < W.length), i ≠ k → ¬ W[k] <+: W[i]
theorem prefix_eq (c : Cd) : ∃ b, m_parser_prefix c = some b ∧ (b = true ↔ VC c ∧ PF c.2) := by
  obtain ⟨e, he, hz⟩ := Check45 c
  unfold m_parser_prefix m_code_Prefix m_code_alone
  rw [he, Option.bind_some]
  by_cases h1 : e ≠ 0
  · rw [if_pos h1]
    exact ⟨false, by simp [jp], by simp, fun h => absurd (hz.2 h.1) h1⟩
  rw [if_neg h1]
  have hv := hz.1 (by simpa using h1)
  have hl := hv.l64
  let bad : Nat → Nat → Bool := fun i k => decide (∃ (hi : i < c.2.length) (hk : k < c.2.length), i ≠ k ∧ c.2[k] <+: c.2[i])
  have hin : ∀ (i : Nat) (hi : i < c.2.length), loopW (S := Int) (X := Ou (Unit) (Bool × Int)) (fun a9 =>
           if a9 < ((c.2).length : Int) then
            (idx c.2 a9).bind fun x13 =>
            jp (fun (a15 : Bool) =>
              if a15 = true then
               some (Stp.exit (Ou.ret (false, 0)))
              else
               some (Stp.next (IntKind.wrap .i64 (a9 + 1))))
              fun k17 =>
             if (i : Int) ≠ a9 then
              (m_strings_HasPrefix c.2[i] x13).bind fun x18 =>
              k17 x18
             else
              k17 false
           else
            some (Stp.exit (Ou.go ()))) 0 = some (if (List.range c.2.length).any (bad i) = true then Ou.ret (false, 0) else Ou.go ()) := by
    intro i hi
    refine loop_any (fun k => (k : Int)) c.2.length (bad i) _ _ (fun k hk => ?_) ?_ rfl
    · have hw1 : IntKind.wrap .i64 ((k : Int) + 1) = ((k + 1 : Nat) : Int) := by rw [w64 (by omega) (by omega)]; omega
      unfold jp
      dsimp only
      rw [if_pos (by omega), idx_nat, List.getElem?_eq_getElem hk, Option.bind_some, hw1]
      by_cases h2 : (i : Int) ≠ k
      · rw [if_pos h2, HasPre, Option.bind_some]
        have e : bad i k = decide (c.2[k] <+: c.2[i]) := decide_eq_decide.2 ⟨fun ⟨_, _, _, h⟩ => h, fun h => ⟨hi, hk, by omega, h⟩⟩
        rw [e]
      rw [if_neg h2]
      have e : bad i k = false := decide_eq_false fun ⟨_, _, h, _⟩ => h (by omega)
      rw [e]
    rw [if_neg (by omega)]
  have hout : loopW (S := Int) (X := Ou (Unit) (Bool × Int)) (fun a3 =>
      if a3 < ((c.2).length : Int) then
       (idx c.2 a3).bind fun x7 =>
       lpO (loopW (S := Int) (X := Ou (Unit) (Bool × Int)) (fun a9 =>
           if a9 < ((c.2).length : Int) then
            (idx c.2 a9).bind fun x13 =>
            jp (fun (a15 : Bool) =>
              if a15 = true then
               some (Stp.exit (Ou.ret (false, 0)))
              else
               some (Stp.next (IntKind.wrap .i64 (a9 + 1))))
              fun k17 =>
             if a3 ≠ a9 then
              (m_strings_HasPrefix x7 x13).bind fun x18 =>
              k17 x18
             else
              k17 false
           else
            some (Stp.exit (Ou.go ()))) 0) (fun a21 =>
           some (Stp.next (IntKind.wrap .i64 (a3 + 1)))) (fun r => some (Stp.exit (Ou.ret r)))
      else
       some (Stp.exit (Ou.go ()))) 0 = some (if (List.range c.2.length).any (fun i => (List.range c.2.length).any (bad i)) = true then Ou.ret (false, 0) else Ou.go ()) := by
    refine loop_any (fun k => (k : Int)) c.2.length (fun i => (List.range c.2.length).any (bad i)) _ _ (fun i hi => ?_) ?_ rfl
    · have hw1 : IntKind.wrap .i64 ((i : Int) + 1) = ((i + 1 : Nat) : Int) := by rw [w64 (by omega) (by omega)]; omega
      rw [if_pos (by omega), idx_nat, List.getElem?_eq_getElem hi, Option.bind_some, hin i hi, hw1]
      by_cases h : (List.range c.2.length).any (bad i) = true
      · rw [if_pos h, if_pos h]; rfl
      rw [if_neg h, if_neg h]; rfl
    rw [if_neg (by omega)]
  rw [hout]
  by_cases h : (List.range c.2.length).any (fun i => (List.range c.2.length).any (bad i)) = true
  · rw [if_pos h]
    refine ⟨false, by simp [jp, lpO], by simp, fun ⟨_, hp⟩ => ?_⟩
    simp only [List.any_eq_true, List.mem_range] at h
    obtain ⟨i, hi, k, hk, hb⟩ := h
    obtain ⟨_, _, h2, h3⟩ := of_decide_eq_true hb
    exact absurd h3 (hp i k hi hk h2)
  rw [if_neg h]
  refine ⟨true, by simp [jp, lpO], fun _ => ⟨hv, fun i k hi hk h2 h3 => h ?_⟩, fun _ => rfl⟩
  simp only [List.any_eq_true, List.mem_range]
  exact ⟨i, hi, k, hk, decide_eq_true ⟨hi, hk, h2, h3⟩⟩
abbrev Wd := List UInt8
def addP (P : List Wd) (x : Wd) : List Wd := if x ∈ P then P else P ++ [x]
def addW (P : List Wd) (w : Wd) : List Wd := (List.range w.length).foldl (fun P n => addP P (w.take n)) P
def preL (W : List Wd) : List Wd := W.foldl addW []
def SP (W : List Wd) : List Wd := sortW (preL W)
def ixW (l : List Wd) (w : Wd) : Int := firstI l fun y => decide (w = y)
def emF (W : List Wd) (x : Wd) (a : Nat) : Int := ixW W (x ++ [letN a])
def nxF (W : List Wd) (x : Wd) (a : Nat) : Int := if x ++ [letN a] ∈ W then 0 else ixW (SP W) (x ++ [letN a])
def rowE (W : List Wd) (q : Nat) (x : Wd) : List Int := (List.range q).map (emF W x)
def rowN (W : List Wd) (q : Nat) (x : Wd) : List Int := (List.range q).map (nxF W x)
def bldP (c : Cd) : TLettersPrefixesNextEmit := (c.1, SP c.2, (SP c.2).map (rowN c.2 c.1.toNat), (SP c.2).map (rowE c.2 c.1.toNat))
theorem ixW_nn {l : List Wd} {w : Wd} : 0 ≤ ixW l w ↔ w ∈ l := by
 unfold ixW
 rw [firstI_nn, List.any_eq_true]
 constructor
 ·rintro ⟨y, hy, e⟩
  have := of_decide_eq_true e
  subst this; exact hy
 exact fun h => ⟨w, h, by simp⟩
theorem ixW_get {l : List Wd} {w : Wd} (h : w ∈ l) : ∃ i : Nat, ∃ hi : i < l.length, ixW l w = (i : Int) ∧ l[i] = w := by
 have ha : (l.any fun y => decide (w = y)) = true := List.any_eq_true.2 ⟨w, h, by simp⟩
 have hi : l.findIdx (fun y => decide (w = y)) < l.length := List.findIdx_lt_length.2 (List.any_eq_true.1 ha)
 refine ⟨_, hi, by unfold ixW firstI; rw [if_pos ha], ?_⟩
 exact (of_decide_eq_true (List.findIdx_getElem (w := hi))).symm
theorem ixW_at {l : List Wd} (hn : l.Nodup) {i : Nat} (hi : i < l.length) : ixW l l[i] = (i : Int) := by
 obtain ⟨j, hj, h1, h2⟩ := ixW_get (List.getElem_mem hi)
 have : j = i := by
  have hp := List.pairwise_iff_getElem.1 hn
  rcases Nat.lt_trichotomy j i with h | h | h
  ·exact absurd h2 (hp j i hj hi h)
  ·exact h
  exact absurd h2.symm (hp i j hi hj h)
 rw [h1, this]
theorem ixW_neg {l : List Wd} {w : Wd} (h : w ∉ l) : ixW l w = -1 := by
 unfold ixW firstI
 rw [if_neg]
 rw [List.any_eq_true]
 rintro ⟨y, hy, e⟩
 exact h (by have := of_decide_eq_true e; subst this; exact hy)
theorem addP_mem {P : List Wd} {x y : Wd} : y ∈ addP P x ↔ y ∈ P ∨ y = x := by
 unfold addP
 split
 ·rename_i h
  exact ⟨.inl, fun h2 => h2.elim id fun e => e ▸ h⟩
 simp
theorem addP_nodup {P : List Wd} {x : Wd} (h : P.Nodup) : (addP P x).Nodup := by
 unfold addP
 split
 ·exact h
 rename_i hx
 rw [List.nodup_append]
 refine ⟨h, by simp, fun p hp q hq => ?_⟩
 rw [List.mem_singleton] at hq
 subst hq
 exact fun e => hx (e ▸ hp)
theorem fold_mem {w : Wd} {y : Wd} : ∀ {L : List Nat} {P : List Wd}, y ∈ L.foldl (fun P n => addP P (w.take n)) P ↔ y ∈ P ∨ ∃ n ∈ L, y = w.take n
 | [], P => by simp
 | n :: L, P => by
  rw [List.foldl_cons, fold_mem (L := L), addP_mem]
  simp only [List.mem_cons, exists_eq_or_imp]
  exact or_assoc
theorem fold_nodup {w : Wd} : ∀ {L : List Nat} {P : List Wd}, P.Nodup → (L.foldl (fun P n => addP P (w.take n)) P).Nodup
 | [], P, h => h
 | n :: L, P, h => fold_nodup (L := L) (addP_nodup h)
theorem addW_mem {P : List Wd} {w y : Wd} : y ∈ addW P w ↔ y ∈ P ∨ ∃ n, n < w.length ∧ y = w.take n := by
 unfold addW
 rw [fold_mem]
 simp only [List.mem_range]
theorem preF_mem {y : Wd} : ∀ {W P : List Wd}, y ∈ W.foldl addW P ↔ y ∈ P ∨ ∃ w ∈ W, ∃ n, n < w.length ∧ y = w.take n
 | [], P => by simp
 | w :: W, P => by
  rw [List.foldl_cons, preF_mem (W := W), addW_mem]
  simp only [List.mem_cons, exists_eq_or_imp]
  exact or_assoc
theorem preF_nodup : ∀ {W P : List Wd}, P.Nodup → (W.foldl addW P).Nodup
 | [], P, h => h
 | w :: W, P, h => preF_nodup (W := W) (fold_nodup h)
theorem preL_nodup (W : List Wd) : (preL W).Nodup := preF_nodup List.nodup_nil
theorem SP_nodup (W : List Wd) : (SP W).Nodup := ((sortW_perm (preL W)).nodup_iff).2 (preL_nodup W)
theorem SP_mem {W : List Wd} {y : Wd} : y ∈ SP W ↔ ∃ w ∈ W, ∃ n, n < w.length ∧ y = w.take n := by
 unfold SP
 rw [(sortW_perm (preL W)).mem_iff]
 unfold preL
 rw [preF_mem]
 simp
theorem SP_len {c : Cd} (h : VC c) : (SP c.2).length ≤ 2048 ∧ (preL c.2).length ≤ 2048 := by
 have h1 : (preL c.2).length ≤ (c.2.flatMap fun w => (List.range w.length).map fun n => w.take n).length := by
  refine nodup_sub45 (preL_nodup _) fun x hx => ?_
  unfold preL at hx
  rw [preF_mem] at hx
  rcases hx with hx | ⟨w, hw, n, hn, rfl⟩
  ·cases hx
  exact List.mem_flatMap.2 ⟨w, hw, List.mem_map.2 ⟨n, List.mem_range.2 hn, rfl⟩⟩
 have h2 : ∀ W : List Wd, (∀ w ∈ W, w.length ≤ 32) → (W.flatMap fun w => (List.range w.length).map fun n => w.take n).length ≤ W.length * 32 := by
  intro W
  induction W with
  | nil => simp
  | cons w W ih =>
   intro hW
   rw [List.flatMap_cons, List.length_append, List.length_map, List.length_range, List.length_cons]
   have := ih fun x hx => hW x (.tail _ hx)
   have := hW w (.head _)
   omega
 have h3 := Nat.le_trans h1 (h2 c.2 fun w hw => (h.w w hw).2.1)
 have := h.l64
 have e : (SP c.2).length = (preL c.2).length := sortW_len _
 omega
theorem SP_short {c : Cd} (h : VC c) {y : Wd} (hy : y ∈ SP c.2) : y.length ≤ 31 := by
 obtain ⟨w, hw, n, hn, rfl⟩ := SP_mem.1 hy
 have := (h.w w hw).2.1
 rw [List.length_take]; omega
theorem wle_nil (x : Wd) : wle [] x = true := by
 unfold wle
 cases x with
 | nil => simp
 | cons a l => simp
theorem SP_zero {c : Cd} (h : VC c) : ∃ hi : 0 < (SP c.2).length, (SP c.2)[0] = [] := by
 obtain ⟨w, hw⟩ : ∃ w, w ∈ c.2 := by
  cases hc : c.2 with
  | nil => exact absurd hc h.ne
  | cons w l => exact ⟨w, .head _⟩
 have hl : 0 < w.length := List.length_pos_iff.2 (h.w w hw).1
 have hm : [] ∈ SP c.2 := SP_mem.2 ⟨w, hw, 0, hl, rfl⟩
 obtain ⟨i, hi, he⟩ := List.getElem_of_mem hm
 refine ⟨by omega, ?_⟩
 rcases Nat.eq_zero_or_pos i with h0 | h0
 ·subst h0; exact he
 have hs := List.pairwise_iff_getElem.1 (sortW_sorted (preL c.2)) 0 i (show 0 < (SP c.2).length by omega) hi h0
 have hs : wle (SP c.2)[0] (SP c.2)[i] = true := hs
 rw [he] at hs
 exact wle_antisymm hs (wle_nil _)
theorem foldl_get {α σ : Type} (f : σ → α → σ) (d : α) : ∀ (l : List α) (s : σ), (List.range l.length).foldl (fun s i => f s (l.getD i d)) s = l.foldl f s := by
 intro l s
 have key : ∀ k, k ≤ l.length → (List.range k).foldl (fun s i => f s (l.getD i d)) s = (l.take k).foldl f s := by
  intro k
  induction k with
  | zero => intro _; rfl
  | succ k ih =>
   intro hk
   rw [List.range_succ, List.foldl_append, ih (by omega), ← List.take_append_getElem (show k < l.length by omega), List.foldl_append]
   simp only [List.foldl_cons, List.foldl_nil]
   rw [List.getD_eq_getElem?_getD, List.getElem?_eq_getElem (by omega)]
   rfl
 rw [key _ (Nat.le_refl _), List.take_length]
theorem mlook0 {P : List Wd} {x : Wd} : mlook x (P.map fun y => (y, (0 : Int))) = if x ∈ P then some 0 else none := by
 induction P with
 | nil => rfl
 | cons y P ih =>
  simp only [List.map_cons, mlook]
  by_cases h : y = x
  ·subst h; simp
  have h' : ¬ x = y := fun e => h e.symm
  simp [h, h', ih]
theorem mput0 {P : List Wd} {x : Wd} (h : x ∉ P) : mputN x 0 (P.map fun y => (y, (0 : Int))) = (P ++ [x]).map fun y => (y, (0 : Int)) := by
 induction P with
 | nil => rfl
 | cons y P ih =>
  simp only [List.mem_cons, not_or] at h
  simp only [List.map_cons, List.cons_append, mputN]
  rw [if_neg (fun e => h.1 e), ih h.2]
theorem mlookS {SPl : List Wd} (hn : SPl.Nodup) (M0 : List (Wd × Int)) (x : Wd) : ∀ k, k ≤ SPl.length → mlook x ((List.range k).foldl (fun M i => mputN (SPl.getD i []) (i : Int) M) M0) = if x ∈ SPl.take k then some (ixW SPl x) else mlook x M0 := by
 intro k
 induction k with
 | zero => intro _; simp
 | succ k ih =>
  intro hk
  have hk' : k < SPl.length := by omega
  rw [List.range_succ, List.foldl_append]
  simp only [List.foldl_cons, List.foldl_nil]
  rw [mlook_put, ih (by omega)]
  have e : SPl.getD k [] = SPl[k] := by rw [List.getD_eq_getElem?_getD, List.getElem?_eq_getElem hk']; rfl
  rw [e, ← List.take_append_getElem hk']
  by_cases h : x = SPl[k]
  ·subst h
   rw [if_pos rfl, if_pos (List.mem_append_right _ (List.mem_singleton.2 rfl)), ixW_at hn hk']
  rw [if_neg h]
  by_cases h2 : x ∈ SPl.take k
  ·rw [if_pos h2, if_pos (List.mem_append_left _ h2)]
  rw [if_neg h2, if_neg (fun hm => (List.mem_append.1 hm).elim h2 fun hm => h (List.mem_singleton.1 hm))]
def partR (f : Nat → Int) (q k : Nat) : List Int := (List.range q).map fun a => if a < k then f a else 0
theorem partR_len (f : Nat → Int) (q k : Nat) : (partR f q k).length = q := by simp [partR]
theorem partR_zero (f : Nat → Int) (q : Nat) : partR f q 0 = List.replicate q 0 := by
 unfold partR
 simp only [Nat.not_lt_zero, if_false]
 exact List.ext_getElem (by simp) fun i h1 h2 => by simp
theorem partR_full (f : Nat → Int) (q : Nat) : partR f q q = (List.range q).map f := by
 unfold partR
 refine List.map_congr_left fun a ha => ?_
 rw [if_pos (List.mem_range.1 ha)]
theorem partR_set (f : Nat → Int) {q k : Nat} (hk : k < q) : (partR f q k).set k (f k) = partR f q (k + 1) := by
 unfold partR
 refine List.ext_getElem (by simp) fun i h1 h2 => ?_
 rw [List.getElem_set]
 simp only [List.getElem_map, List.getElem_range]
 by_cases h : k = i
 ·subst h; simp
 rw [if_neg h]
 by_cases h3 : i < k
 ·rw [if_pos h3, if_pos (by omega)]
 rw [if_neg h3, if_neg (by omega)]
theorem set2 {l : List Int} {k : Nat} {x y : Int} : (l.set k x).set k y = l.set k y := by simp
theorem idx_set {l : List Int} {k : Nat} {x : Int} (h : k < l.length) : idx (l.set k x) (k : Int) = some x := by
 rw [idx_nat, List.getElem?_set_self h]
theorem idx_lt' {l : List Int} {k : Nat} (h : k < l.length) : ∃ x, idx l (k : Int) = some x := ⟨l[k], by rw [idx_nat, List.getElem?_eq_getElem h]⟩
set_option maxHeartbeats 1000000 in
theorem build_eq {c : Cd} (h : VC c) : m_parser_build c = some (bldP c) := by
  have hq2 := h.q2
  have hq16 := h.q16
  have hl64 := h.l64
  obtain ⟨q, hq⟩ := Int.eq_ofNat_of_zero_le (show 0 ≤ c.1 by omega)
  obtain ⟨hs1, hs2⟩ := SP_len h
  unfold m_parser_build
  have hU : ∀ P : List Wd, P.Nodup → (∀ x ∈ P, x ∈ preL c.2) → P.length ≤ 2048 := fun P h1 h2 => Nat.le_trans (nodup_sub45 h1 h2) hs2
  -- the beginnings
  have e1 : ∀ (w : Wd), w ∈ c.2 → ∀ P : List Wd, P.Nodup → (∀ x ∈ P, x ∈ preL c.2) → loopW (S := Int × (List (List UInt8 × Int)) × (List (List UInt8))) (X := (List (List UInt8 × Int)) × (List (List UInt8))) (fun a10 =>
          if a10.1 < ((w).length : Int) then
           jp (fun (a14 : (List (List UInt8 × Int)) × (List (List UInt8))) =>
             some (Stp.next (IntKind.wrap .i64 (a10.1 + 1), a14.1, a14.2)))
             fun k16 =>
            if 0 ≤ (0 : Int) ∧ (0 : Int) ≤ a10.1 ∧ a10.1 ≤ (w.length : Int) then
             if (!((mlook ((w.take (a10.1).toNat).drop (0 : Int).toNat) a10.2.1).isSome)) = true then
              if 0 ≤ (0 : Int) ∧ (0 : Int) ≤ a10.1 ∧ a10.1 ≤ (w.length : Int) then
               if 0 ≤ (0 : Int) ∧ (0 : Int) ≤ a10.1 ∧ a10.1 ≤ (w.length : Int) then
                if fits 16 ((a10.2.2 : List (List UInt8)).length + ([(w.take (a10.1).toNat).drop (0 : Int).toNat]).length) then
                 k16 (mputN ((w.take (a10.1).toNat).drop (0 : Int).toNat) 0 a10.2.1, a10.2.2 ++ [(w.take (a10.1).toNat).drop (0 : Int).toNat])
                else none
               else none
              else none
             else
              k16 (a10.2.1, a10.2.2)
            else none
          else
           some (Stp.exit (a10.2.1, a10.2.2))) (0, P.map (fun y => (y, (0 : Int))), P) = some ((addW P w).map (fun y => (y, (0 : Int))), addW P w) := by
    intro w hw P hP1 hP2
    have hwl := (h.w w hw).2.1
    refine loop_fold (fun i P => ((i : Int), P.map (fun y => (y, (0 : Int))), P)) w.length (fun P n => addP P (w.take n)) (fun P => (P.map (fun y => (y, (0 : Int))), P)) (fun P => P.Nodup ∧ ∀ x ∈ P, x ∈ preL c.2) ?_ ?_ ?_ P ⟨hP1, hP2⟩ rfl
    · rintro n P hn ⟨h1, h2⟩
      refine ⟨addP_nodup h1, fun x hx => ?_⟩
      rcases addP_mem.1 hx with hx | rfl
      · exact h2 x hx
      unfold preL
      rw [preF_mem]
      exact .inr ⟨w, hw, n, hn, rfl⟩
    · rintro n P hn ⟨h1, h2⟩
      have hPl := hU P h1 h2
      have hw1 : IntKind.wrap .i64 ((n : Int) + 1) = ((n + 1 : Nat) : Int) := by rw [w64 (by omega) (by omega)]; omega
      unfold jp
      dsimp only
      simp only [Int.toNat_natCast, Int.toNat_zero, List.drop_zero]
      rw [if_pos (by omega), if_pos ⟨by omega, by omega, by omega⟩, mlook0, hw1]
      by_cases hm : w.take n ∈ P
      · rw [if_pos hm, if_neg (by simp), show addP P (w.take n) = P from if_pos hm]
      rw [if_neg hm, if_pos (by simp), if_pos ⟨by omega, by omega, by omega⟩, if_pos ⟨by omega, by omega, by omega⟩, if_pos ⟨by simp; omega, by simp [maxLen]; omega⟩, mput0 hm, show addP P (w.take n) = P ++ [w.take n] from if_neg hm]
    rintro P _
    dsimp only
    rw [if_neg (by omega)]
  refine (congrArg (fun o : Option _ => o.bind _) (loop_fold (fun i (P : List Wd) => ((i : Int), P.map (fun y => (y, (0 : Int))), P)) c.2.length (fun P i => addW P (c.2.getD i [])) (fun P => (P.map (fun y => (y, (0 : Int))), P)) (fun P => P.Nodup ∧ ∀ x ∈ P, x ∈ preL c.2) ?_ ?_ ?_ [] ⟨List.nodup_nil, fun x hx => by cases hx⟩ rfl)).trans ?_
  · rintro i P hi ⟨h1, h2⟩
    refine ⟨fold_nodup h1, fun x hx => ?_⟩
    rw [addW_mem] at hx
    rcases hx with hx | ⟨n, hn, rfl⟩
    · exact h2 x hx
    unfold preL
    rw [preF_mem]
    have e : c.2.getD i [] = c.2[i] := by rw [List.getD_eq_getElem?_getD, List.getElem?_eq_getElem hi]; rfl
    rw [e] at hn ⊢
    exact .inr ⟨_, List.getElem_mem hi, n, hn, rfl⟩
  · rintro i P hi ⟨h1, h2⟩
    have hw1 : IntKind.wrap .i64 ((i : Int) + 1) = ((i + 1 : Nat) : Int) := by rw [w64 (by omega) (by omega)]; omega
    have e : c.2.getD i [] = c.2[i] := by rw [List.getD_eq_getElem?_getD, List.getElem?_eq_getElem hi]; rfl
    dsimp only
    rw [if_pos (by omega), idx_nat, List.getElem?_eq_getElem hi, Option.bind_some, e1 _ (List.getElem_mem hi) P h1 h2, Option.bind_some, hw1, e]
  · rintro P _
    dsimp only
    rw [if_neg (by omega)]
  rw [foldl_get addW []]
  simp only [Option.bind_some]
  rw [if_pos (show (c.2.foldl addW []).length < _ by show (preL c.2).length < _; omega)]
  -- the numbers
  have hSn := SP_nodup c.2
  have hSl : (SP c.2).length ≤ 2048 := hs1
  refine (congrArg (fun o : Option _ => o.bind _) (loop_fold (fun i (M : List (Wd × Int)) => ((i : Int), M)) (SP c.2).length (fun M i => mputN ((SP c.2).getD i []) (i : Int) M) (fun M => M) (fun _ => True) (fun _ _ _ _ => trivial) ?_ ?_ ((preL c.2).map (fun y => (y, (0 : Int)))) trivial rfl)).trans ?_
  · rintro i M hi _
    have hw1 : IntKind.wrap .i64 ((i : Int) + 1) = ((i + 1 : Nat) : Int) := by rw [w64 (by omega) (by omega)]; omega
    have e : (SP c.2).getD i [] = (SP c.2)[i] := by rw [List.getD_eq_getElem?_getD, List.getElem?_eq_getElem hi]; rfl
    dsimp only
    show (if (i : Int) < ((SP c.2).length : Int) then (idx (SP c.2) (i : Int)).bind _ else _) = _
    rw [if_pos (by omega), idx_nat, List.getElem?_eq_getElem hi]
    simp only [Option.bind_some]
    show ((idx (SP c.2) (i : Int)).bind _) = _
    rw [idx_nat, List.getElem?_eq_getElem hi]
    simp only [Option.bind_some, hw1, e]
  · rintro M _
    dsimp only
    show (if ((SP c.2).length : Int) < ((SP c.2).length : Int) then _ else _) = _
    rw [if_neg (by omega)]
  simp only [Option.bind_some]
  have hM : ∀ x, mlook x ((List.range (SP c.2).length).foldl (fun M i => mputN ((SP c.2).getD i []) (i : Int) M) ((preL c.2).map (fun y => (y, (0 : Int))))) = if x ∈ SP c.2 then some (ixW (SP c.2) x) else none := fun x => by
    rw [mlookS hSn _ x _ (Nat.le_refl _), List.take_length]
    by_cases hx : x ∈ SP c.2
    · rw [if_pos hx, if_pos hx]
    rw [if_neg hx, if_neg hx, mlook0, if_neg]
    exact fun h2 => hx ((sortW_perm (preL c.2)).mem_iff.2 h2)
  generalize (List.range (SP c.2).length).foldl (fun M i => mputN ((SP c.2).getD i []) (i : Int) M) ((preL c.2).map (fun y => (y, (0 : Int)))) = M at hM
  -- the rows
  have e3 : ∀ x : Wd, x.length ≤ 31 → loopW (S := Int × (List Int) × (List Int)) (X := (List Int) × (List Int)) (fun a47 =>
             if a47.1 < c.1 then
              jp (fun (a51 : (List Int) × (List Int)) =>
                some (Stp.next (IntKind.wrap .i64 (a47.1 + 1), a51.1, a51.2)))
                fun k53 =>
               if 0 ≤ (a47.1 : Int) ∧ (a47.1 : Int) ≤ IntKind.wrap .i64 (a47.1 + 1) ∧ IntKind.wrap .i64 (a47.1 + 1) ≤ (([48, 49, 50, 51, 52, 53, 54, 55, 56, 57, 97, 98, 99, 100, 101, 102] : List UInt8).length : Int) then
                if x.length + ((([48, 49, 50, 51, 52, 53, 54, 55, 56, 57, 97, 98, 99, 100, 101, 102] : List UInt8).take (IntKind.wrap .i64 (a47.1 + 1)).toNat).drop (a47.1).toNat).length ≤ maxLen then
                 (m_slices_Index_Lstring_string c.2 (x ++ ((([48, 49, 50, 51, 52, 53, 54, 55, 56, 57, 97, 98, 99, 100, 101, 102] : List UInt8).take (IntKind.wrap .i64 (a47.1 + 1)).toNat).drop (a47.1).toNat))).bind fun x56 =>
                 (idx a47.2.1 a47.1).bind fun x58 =>
                 (idx a47.2.2 a47.1).bind fun x60 =>
                 jp (fun (a62 : (List Int)) =>
                   (idx ((a47.2.2).set (a47.1).toNat x56) a47.1).bind fun x65 =>
                   (idx ((a47.2.2).set (a47.1).toNat x56) a47.1).bind fun x67 =>
                   if 0 ≤ x67 then
                    (idx a62 a47.1).bind fun x69 =>
                    k53 ((a62).set (a47.1).toNat 0, (a47.2.2).set (a47.1).toNat x56)
                   else
                    k53 (a62, (a47.2.2).set (a47.1).toNat x56))
                   fun k64 =>
                  if ((mlook (x ++ ((([48, 49, 50, 51, 52, 53, 54, 55, 56, 57, 97, 98, 99, 100, 101, 102] : List UInt8).take (IntKind.wrap .i64 (a47.1 + 1)).toNat).drop (a47.1).toNat)) M).isSome) = true then
                   (idx ((a47.2.1).set (a47.1).toNat (-1)) a47.1).bind fun x71 =>
                   k64 (((a47.2.1).set (a47.1).toNat (-1)).set (a47.1).toNat ((mlook (x ++ ((([48, 49, 50, 51, 52, 53, 54, 55, 56, 57, 97, 98, 99, 100, 101, 102] : List UInt8).take (IntKind.wrap .i64 (a47.1 + 1)).toNat).drop (a47.1).toNat)) M).getD 0))
                  else
                   k64 ((a47.2.1).set (a47.1).toNat (-1))
                else none
               else none
             else
              some (Stp.exit (a47.2.1, a47.2.2))) (0, List.replicate (c.1).toNat (0 : Int), List.replicate (c.1).toNat (0 : Int)) = some (rowN c.2 c.1.toNat x, rowE c.2 c.1.toNat x) := by
    intro x hx
    have hqn : c.1.toNat = q := by omega
    rw [hqn]
    refine loop_is (fun k => ((k : Int), partR (nxF c.2 x) q k, partR (emF c.2 x) q k)) q _ (fun k hk => ?_) ?_ (by rw [partR_zero, partR_zero]; rfl)
    · have hw1 : IntKind.wrap .i64 ((k : Int) + 1) = ((k + 1 : Nat) : Int) := by rw [w64 (by omega) (by omega)]; omega
      have hk16 : k < 16 := by omega
      unfold jp
      dsimp only
      rw [if_pos (by omega), hw1]
      simp only [Int.toNat_natCast]
      rw [tk1 k hk16, if_pos ⟨by omega, by omega, by show _ ≤ (16 : Int); omega⟩, if_pos (by simp [maxLen]; omega), IndexS31 (by omega)]
      simp only [Option.bind_some]
      obtain ⟨z1, h1⟩ := idx_lt' (l := partR (nxF c.2 x) q k) (k := k) (by rw [partR_len]; exact hk)
      obtain ⟨z2, h2⟩ := idx_lt' (l := partR (emF c.2 x) q k) (k := k) (by rw [partR_len]; exact hk)
      rw [h1, h2]
      simp only [Option.bind_some]
      have hem : (firstI c.2 fun y => decide (x ++ [letN k] = y)) = emF c.2 x k := rfl
      rw [hem, hM, partR_set _ hk]
      have hg : idx (partR (emF c.2 x) q (k + 1)) (k : Int) = some (emF c.2 x k) := by
        rw [← partR_set _ hk]
        exact idx_set (by rw [partR_len]; exact hk)
      have hg1 : ∀ y : Int, ∃ z, idx ((partR (nxF c.2 x) q k).set k y) (k : Int) = some z := fun y => ⟨y, idx_set (by rw [partR_len]; exact hk)⟩
      rw [hg]
      simp only [Option.bind_some]
      have hnn : 0 ≤ emF c.2 x k ↔ x ++ [letN k] ∈ c.2 := ixW_nn
      have hfin : ∀ (v : Int), v = nxF c.2 x k → ((partR (nxF c.2 x) q k).set k v) = partR (nxF c.2 x) q (k + 1) := fun v hv => by rw [hv, partR_set _ hk]
      by_cases hS : x ++ [letN k] ∈ SP c.2
      · rw [if_pos hS, if_pos (by simp)]
        obtain ⟨z, hz⟩ := hg1 (-1)
        rw [hz]
        simp only [Option.bind_some, set2, Option.getD_some]
        by_cases hW : x ++ [letN k] ∈ c.2
        · rw [if_pos (hnn.2 hW)]
          obtain ⟨z', hz'⟩ := hg1 (ixW (SP c.2) (x ++ [letN k]))
          rw [hz']
          simp only [Option.bind_some]
          rw [hfin 0 (by unfold nxF; rw [if_pos hW])]
        rw [if_neg (fun e => hW (hnn.1 e)), hfin _ (by unfold nxF; rw [if_neg hW])]
      rw [if_neg hS, if_neg (by simp)]
      by_cases hW : x ++ [letN k] ∈ c.2
      · rw [if_pos (hnn.2 hW)]
        obtain ⟨z', hz'⟩ := hg1 (-1)
        rw [hz']
        simp only [Option.bind_some, set2]
        rw [hfin 0 (by unfold nxF; rw [if_pos hW])]
      rw [if_neg (fun e => hW (hnn.1 e)), hfin _ (by unfold nxF; rw [if_neg hW, ixW_neg hS])]
    dsimp only
    rw [if_neg (by omega), partR_full, partR_full]
    rfl
  refine (congrArg (fun o : Option _ => o.bind _) (loop_is (fun i => ((i : Int), ((SP c.2).take i).map (rowN c.2 c.1.toNat), ((SP c.2).take i).map (rowE c.2 c.1.toNat))) (SP c.2).length ((SP c.2).map (rowN c.2 c.1.toNat), (SP c.2).map (rowE c.2 c.1.toNat)) (fun i hi => ?_) ?_ (by simp))).trans ?_
  · have hw1 : IntKind.wrap .i64 ((i : Int) + 1) = ((i + 1 : Nat) : Int) := by rw [w64 (by omega) (by omega)]; omega
    dsimp only
    show (if (i : Int) < ((SP c.2).length : Int) then (idx (SP c.2) (i : Int)).bind _ else _) = _
    rw [if_pos (by omega), idx_nat, List.getElem?_eq_getElem hi]
    simp only [Option.bind_some]
    show ((idx (SP c.2) (i : Int)).bind _) = _
    rw [idx_nat, List.getElem?_eq_getElem hi]
    simp only [Option.bind_some]
    rw [if_pos ⟨by omega, by omega, by omega⟩, if_pos ⟨by omega, by omega, by omega⟩, e3 _ (SP_short h (List.getElem_mem hi))]
    simp only [Option.bind_some]
    rw [if_pos ⟨by simp; omega, by simp [maxLen]; omega⟩, if_pos ⟨by simp; omega, by simp [maxLen]; omega⟩, hw1, ← List.take_append_getElem hi, List.map_append, List.map_append]
    rfl
  · dsimp only
    show (if ((SP c.2).length : Int) < ((SP c.2).length : Int) then _ else _) = _
    rw [if_neg (by omega), List.take_length]
  rfl
theorem ei {S X : Type} {b : Bool} {x : X} {s : S} : (∃ s', (if b = true then some (Stp.exit x) else some (Stp.next s)) = some (.next s') ∧ s' = s) ∨ ∃ y : X, (if b = true then some (Stp.exit x) else some (Stp.next s)) = some (.exit y) ∧ True := by
 cases b
 ·exact .inl ⟨s, rfl, rfl⟩
 exact .inr ⟨x, rfl, trivial⟩
theorem Great45 (c : Cd) : ∃ b, m_ref33_Great c = some b := by
 unfold m_ref33_Great
 generalize hb : (fun (a4 : Int) => (_ : Option (Stp Int (Ou Unit Bool)))) = body
 have hrun : c.2.length ≤ 65 → ∃ x, loopW body 0 = some x ∧ True := fun hl => by
  refine loopN (body := body) c.2.length (fun i s => s = (i : Int)) (fun i s hi hs => ?_) (fun s hs => ?_) 0 0 (Nat.zero_le _) rfl
  ·subst hs hb
   have hw1 : IntKind.wrap .i64 ((i : Int) + 1) = ((i + 1 : Nat) : Int) := by rw [w64 (by omega) (by omega)]; omega
   unfold jp
   dsimp only
   rw [if_pos (by omega), idx_nat, List.getElem?_eq_getElem hi, hw1]
   simp only [Option.bind_some]
   by_cases h1 : 8 < ((c.2[i].length : Nat) : Int)
   ·rw [if_pos h1]
    by_cases h2 : ((c.2[i].length : Nat) : Int) ≤ 32
    ·rw [if_pos h2]; exact .inr ⟨_, rfl, trivial⟩
    rw [if_neg h2]; exact ei
   rw [if_neg h1]; exact ei
  subst hs hb
  dsimp only
  rw [if_neg (by omega)]
  exact ⟨_, rfl, trivial⟩
 have fin : ∀ b : Bool, (b = true ∨ c.2.length ≤ 65) → ∃ r, (if b = true then some true else lpO (loopW body 0) (fun a21 => some false) some) = some r := fun b h => by
  cases b with
  | true => exact ⟨true, rfl⟩
  | false =>
   obtain ⟨x, hx, _⟩ := hrun (by simpa using h)
   rw [hx]
   cases x with
   | go u => exact ⟨false, rfl⟩
   | ret r => exact ⟨r, rfl⟩
 unfold jp
 dsimp only
 by_cases h1 : 8 < (c.2.length : Int)
 ·rw [if_pos h1]
  by_cases h2 : (c.2.length : Int) ≤ 64
  ·rw [if_pos h2]; exact ⟨true, rfl⟩
  rw [if_neg h2]
  exact fin _ (by
   by_cases h3 : 65 < (c.2.length : Int)
   ·exact .inl (decide_eq_true h3)
   exact .inr (by omega))
 rw [if_neg h1]
 exact fin _ (.inr (by omega))
theorem Build_eq (c : Cd) : (VC c ∧ PF c.2 ∧ m_parser_Build c = some (bldP c, 0)) ∨ (¬ (VC c ∧ PF c.2) ∧ ∃ e, e ≠ 0 ∧ m_parser_Build c = some ((0, [], [], []), e)) := by
 obtain ⟨e, he, hz⟩ := Check45 c
 obtain ⟨b, hb, hp⟩ := prefix_eq c
 unfold m_parser_Build
 rw [he, Option.bind_some]
 by_cases h1 : e ≠ 0
 ·rw [if_pos h1]
  exact .inr ⟨fun h => h1 (hz.2 h.1), 1, by decide, rfl⟩
 rw [if_neg h1, hb, Option.bind_some]
 have hv := hz.1 (by simpa using h1)
 cases b with
 | false => exact .inr ⟨fun h => absurd (hp.2 h) (by decide), 8, by decide, by rw [if_pos (by decide)]⟩
 | true =>
  rw [if_neg (by decide), build_eq hv]
  exact .inl ⟨hv, (hp.1 rfl).2, rfl⟩
theorem AutF {l : List (List Int)} (hm : l.length ≤ 9223372036854775807) (hr : ∀ r ∈ l, r.length ≤ 9223372036854775807) : m_slices_ContainsFunc_LLint_Lint l = some (l.any fun r => decide ((-1 : Int) ∈ r)) := by
 unfold m_slices_ContainsFunc_LLint_Lint m_slices_IndexFunc_LLint_Lint
 have e : ∀ {o : Option Int} {z : Int}, o = some z → (o.bind fun x1 => some (decide (0 ≤ x1))) = some (decide (0 ≤ z)) := fun h => by rw [h]; rfl
 refine (e (z := firstI l fun r => decide ((-1 : Int) ∈ r)) (lpE (loop_findL (fun i => (i : Int)) l (fun r => decide ((-1 : Int) ∈ r)) (fun i => Ou.ret (i : Int)) (Ou.go ()) (fun i hi => ?_) (by rw [if_neg (not_lt_int _)]) rfl) ?_)).trans ?_
 ·have hx : m_parser_Automaton_1 l[i] = some (decide ((-1 : Int) ∈ l[i])) := by
   unfold m_parser_Automaton_1
   rw [ContainsI_eq (hr _ (List.getElem_mem hi))]
   rfl
  rw [if_pos (lt_int hi), ix hi]
  simp only [Option.bind_some, hx, nx hm hi]
 ·unfold firstI
  split <;> rfl
 congr 1
 simp only [firstI_nn, Bool.decide_eq_true]
def Mx (c : Cd) : Prop := ∀ x ∈ SP c.2, ∀ a, a < c.1.toNat → x ++ [letN a] ∈ c.2 ∨ x ++ [letN a] ∈ SP c.2
def autP (c : Cd) : Au := (c.1, (SP c.2).map (rowN c.2 c.1.toNat))
theorem nxF_neg {W : List Wd} {x : Wd} {a : Nat} : nxF W x a = -1 ↔ ¬ (x ++ [letN a] ∈ W ∨ x ++ [letN a] ∈ SP W) := by
 unfold nxF
 split
 ·rename_i h
  exact ⟨fun e => absurd e (by decide), fun e => absurd (Or.inl h) e⟩
 rename_i h
 constructor
 ·rintro e (h2 | h2)
  ·exact h h2
  have := ixW_nn.2 h2; omega
 exact fun e => ixW_neg fun h2 => e (.inr h2)
theorem Mx_iff (c : Cd) : ((autP c).2.any fun r => decide ((-1 : Int) ∈ r)) = false ↔ Mx c := by
 constructor
 ·intro h x hx a ha
  refine Classical.byContradiction fun hc => ?_
  have : ((autP c).2.any fun r => decide ((-1 : Int) ∈ r)) = true := List.any_eq_true.2 ⟨_, List.mem_map.2 ⟨x, hx, rfl⟩, decide_eq_true (List.mem_map.2 ⟨a, List.mem_range.2 ha, nxF_neg.2 hc⟩)⟩
  rw [h] at this; cases this
 intro h
 refine Bool.eq_false_iff.2 fun hc => ?_
 obtain ⟨r, hr, h2⟩ := List.any_eq_true.1 hc
 obtain ⟨x, hx, rfl⟩ := List.mem_map.1 hr
 obtain ⟨a, ha, h3⟩ := List.mem_map.1 (of_decide_eq_true h2)
 exact nxF_neg.1 h3 (h x hx a (List.mem_range.1 ha))
theorem Aut_eq (c : Cd) : (VC c ∧ PF c.2 ∧ Mx c ∧ m_parser_Automaton c = some (autP c, 0)) ∨ (¬ (VC c ∧ PF c.2 ∧ Mx c) ∧ ∃ e, e ≠ 0 ∧ m_parser_Automaton c = some ((0, []), e)) := by
 unfold m_parser_Automaton
 rcases Build_eq c with ⟨hv, hp, h⟩ | ⟨hn, e, he, h⟩
 ·rw [h, Option.bind_some, if_neg (by simp)]
  have hl := (SP_len hv).1
  have hq := hv.q16
  have e1 : m_slices_ContainsFunc_LLint_Lint (bldP c).2.2.1 = some ((autP c).2.any fun r => decide ((-1 : Int) ∈ r)) := AutF (by simp [bldP]; omega) fun r hr => by
   obtain ⟨x, hx, rfl⟩ := List.mem_map.1 hr
   simp [rowN]; omega
  dsimp only
  rw [e1]
  simp only [Option.bind_some]
  by_cases hm : Mx c
  ·rw [(Mx_iff c).2 hm]
   exact .inl ⟨hv, hp, hm, by rw [if_neg (by decide)]; rfl⟩
  have : ((autP c).2.any fun r => decide ((-1 : Int) ∈ r)) = true := by
   cases hb : (autP c).2.any fun r => decide ((-1 : Int) ∈ r) with
   | true => rfl
   | false => exact absurd ((Mx_iff c).1 hb) hm
  rw [this]
  exact .inr ⟨fun h => hm h.2.2, 8, by decide, by rw [if_pos rfl]⟩
 rw [h, Option.bind_some, if_pos he]
 exact .inr ⟨fun h => hn ⟨h.1, h.2.1⟩, e, he, rfl⟩
theorem aut_ok {c : Cd} (h : VC c) (hm : Mx c) (h8 : c.1 ≤ 8) (h12 : (SP c.2).length ≤ 12) : OkA (autP c) := by
 obtain ⟨h0, _⟩ := SP_zero h
 have hq := h.q2
 refine ⟨by show 1 ≤ c.1; omega, h8, by show 1 ≤ ((SP c.2).map _).length; rw [List.length_map]; omega, by show ((SP c.2).map _).length ≤ 12; rw [List.length_map]; omega, fun r hr => ?_⟩
 have hlen : (autP c).2.length = (SP c.2).length := List.length_map ..
 obtain ⟨x, hx, rfl⟩ := List.mem_map.1 hr
 refine ⟨by show (((List.range c.1.toNat).map _).length : Int) = c.1; rw [List.length_map, List.length_range]; omega, fun t ht => ?_⟩
 obtain ⟨a, ha, rfl⟩ := List.mem_map.1 ht
 have := hm x hx a (List.mem_range.1 ha)
 rw [hlen]
 unfold nxF
 split
 ·exact ⟨by omega, by omega⟩
 rename_i hn
 obtain ⟨i, hi, e, _⟩ := ixW_get (this.resolve_left hn)
 rw [e]
 exact ⟨by omega, by omega⟩
theorem rCheck_1 (a : Au) (t : Int) : m_reset_Check_1 t a = some (decide (t < 0 ∨ (a.2.length : Int) ≤ t)) := by
 unfold m_reset_Check_1 jp
 dsimp only
 by_cases h : t < 0
 ·rw [if_pos h]; simp [h]
 rw [if_neg h]; simp [h]
theorem rCheck {a : Au} (h : OkA a) : m_reset_Check a = some 0 := by
 have h1 := h.q1
 have h2 := h.q8
 have h3 := h.n1
 have h4 := h.n12
 unfold m_reset_Check
 unfold jp
 dsimp only
 rw [if_neg (by omega), if_neg (by simpa using h2), if_neg (by omega), if_neg (by omega)]
 refine lpE (loop_is (fun k => (k : Int)) a.2.length (Ou.go ()) (fun k hk => ?_) (by rw [if_neg (not_lt_int _)]) rfl) rfl
 obtain ⟨r1, r2⟩ := h.row _ (List.getElem_mem hk)
 have hw1 : IntKind.wrap .i64 ((k : Int) + 1) = ((k + 1 : Nat) : Int) := by rw [w64 (by omega) (by omega)]; omega
 rw [if_pos (by omega), idx_nat, List.getElem?_eq_getElem hk, Option.bind_some, if_neg (by omega), ContainsFuncI (fun t => decide (t < 0 ∨ (a.2.length : Int) ≤ t)) (by omega) (fun t _ => rCheck_1 a t), Option.bind_some, hw1]
 have : (a.2[k].any fun t => decide (t < 0 ∨ (a.2.length : Int) ≤ t)) = false := by
  refine List.any_eq_false.2 fun t ht => ?_
  have := r2 t ht
  simp only [decide_eq_true_eq]
  omega
 rw [this, if_neg (by decide)]
theorem Shortest_eq {a : Au} (h : OkA a) : ∃ r, m_reset_Shortest a = some (r.1, r.2, 0) ∧ Sres a r := by
 obtain ⟨r, hr, hs⟩ := search_eq h
 refine ⟨r, ?_, hs⟩
 unfold m_reset_Shortest
 rw [rCheck h, Option.bind_some, if_neg (by decide), all_eq h, Option.bind_some, hr]
 rfl
theorem Mach_eq (c : Cd) : (∃ x, m_top_top45Machine c = some x ∧ x.2.2 = false) ∨ (VC c ∧ PF c.2 ∧ Mx c ∧ c.1 ≤ 8 ∧ (SP c.2).length ≤ 12 ∧ m_top_top45Machine c = some (bldP c, autP c, true)) := by
 obtain ⟨b, hb⟩ := Great45 c
 unfold m_top_top45Machine
 unfold jp
 dsimp only
 rw [hb, Option.bind_some]
 by_cases h1 : b = true
 ·rw [if_pos h1, if_pos rfl]; exact .inl ⟨_, rfl, rfl⟩
 rw [if_neg h1]
 by_cases h2 : 8 < c.1
 ·rw [if_pos (by simpa using h2)]; exact .inl ⟨_, rfl, rfl⟩
 rw [if_neg (by simpa using h2)]
 rcases Aut_eq c with ⟨hv, hp, hm, h⟩ | ⟨_, e, he, h⟩
 ·rw [h, Option.bind_some, if_neg (by simp)]
  by_cases h3 : 12 < ((autP c).2.length : Int)
  ·rw [if_pos (by simpa using h3)]; exact .inl ⟨_, rfl, rfl⟩
  rw [if_neg (by simpa using h3)]
  rcases Build_eq c with ⟨_, _, hB⟩ | ⟨hn, _⟩
  ·rw [hB]
   have hlen : (autP c).2.length = (SP c.2).length := List.length_map ..
   exact .inr ⟨hv, hp, hm, by omega, by omega, rfl⟩
  exact absurd ⟨hv, hp⟩ hn
 rw [h, Option.bind_some, if_pos he, if_pos rfl]; exact .inl ⟨_, rfl, rfl⟩
def wkk (W : List Wd) (x : Wd) (k : Nat) : List Wd := ((List.range k).filter fun a => decide (0 ≤ emF W x a)).map fun a => x ++ [letN a]
def cl (W : List Wd) (q : Nat) (P : List Wd) : List Wd := P.flatMap fun x => wkk W x q
theorem wkk_mem {W : List Wd} {x y : Wd} {k : Nat} : y ∈ wkk W x k ↔ ∃ a, a < k ∧ y = x ++ [letN a] ∧ y ∈ W := by
 unfold wkk
 rw [List.mem_map]
 constructor
 ·rintro ⟨a, ha, rfl⟩
  rw [List.mem_filter, List.mem_range] at ha
  exact ⟨a, ha.1, rfl, ixW_nn.1 (of_decide_eq_true ha.2)⟩
 rintro ⟨a, ha, rfl, hy⟩
 exact ⟨a, List.mem_filter.2 ⟨List.mem_range.2 ha, decide_eq_true (ixW_nn.2 hy)⟩, rfl⟩
theorem wkk_succ {W : List Wd} {x : Wd} {k : Nat} : wkk W x (k + 1) = if 0 ≤ emF W x k then wkk W x k ++ [x ++ [letN k]] else wkk W x k := by
 unfold wkk
 rw [List.range_succ, List.filter_append, List.map_append]
 by_cases h : 0 ≤ emF W x k
 ·rw [if_pos h, List.filter_cons, if_pos (decide_eq_true h)]; rfl
 rw [if_neg h, List.filter_cons, if_neg (by simpa using h)]; simp
theorem wkk_len (W : List Wd) (x : Wd) (k : Nat) : (wkk W x k).length ≤ k := by
 unfold wkk
 rw [List.length_map]
 exact Nat.le_trans (List.length_filter_le _ _) (by simp)
theorem letN_inj : ∀ a < 16, ∀ b < 16, letN a = letN b → a = b := by decide
theorem wkk_nodup {W : List Wd} {x : Wd} {k : Nat} (hk : k ≤ 16) : (wkk W x k).Nodup := by
 unfold wkk
 show List.Pairwise _ _
 rw [List.pairwise_map]
 refine List.Pairwise.imp_of_mem ?_ (List.nodup_range (n := k) |>.sublist (List.filter_sublist (p := fun a => decide (0 ≤ emF W x a))))
 intro a b ha hb hne he
 have ha := List.mem_range.1 (List.mem_filter.1 ha).1
 have hb := List.mem_range.1 (List.mem_filter.1 hb).1
 exact hne (letN_inj a (by omega) b (by omega) (by simpa using he))
theorem cl_nodup {W : List Wd} {q : Nat} (hq : q ≤ 16) {P : List Wd} (h : P.Nodup) : (cl W q P).Nodup := by
 unfold cl
 show List.Pairwise _ _
 rw [List.pairwise_flatMap]
 refine ⟨fun x _ => wkk_nodup hq, h.imp ?_⟩
 intro x x' hne y hy y' hy' he
 obtain ⟨a, _, rfl, _⟩ := wkk_mem.1 hy
 obtain ⟨b, _, rfl, _⟩ := wkk_mem.1 hy'
 exact hne (List.append_inj_left' he rfl)
theorem cl_sub {W : List Wd} {q : Nat} {P : List Wd} {y : Wd} (h : y ∈ cl W q P) : y ∈ W := by
 obtain ⟨x, _, hy⟩ := List.mem_flatMap.1 h
 exact (wkk_mem.1 hy).choose_spec.2.2
theorem let_mem {q : Nat} (hq : q ≤ 16) {x : UInt8} (h : x ∈ letters.take q) : ∃ a, a < q ∧ x = letN a := by
 obtain ⟨i, hi, rfl⟩ := List.getElem_of_mem h
 have h2 : i < letters.length := by rw [List.length_take] at hi; omega
 refine ⟨i, by rw [List.length_take] at hi; omega, ?_⟩
 rw [List.getElem_take]
 unfold letN
 rw [List.getD_eq_getElem?_getD, List.getElem?_eq_getElem h2]
 rfl
theorem asc_nodup {W : List Wd} (h : W.Pairwise fun a b => wle b a = false) : W.Nodup := h.imp fun {a b} h2 e => by
 subst e
 have := wle_total a a
 rw [h2] at this
 cases this
theorem cl_mem {c : Cd} (h : VC c) {y : Wd} : y ∈ cl c.2 c.1.toNat (SP c.2) ↔ y ∈ c.2 := by
 refine ⟨cl_sub, fun hy => ?_⟩
 obtain ⟨h1, h2, h3⟩ := h.w y hy
 have hq := h.q16
 have hl : 0 < y.length := List.length_pos_iff.2 h1
 have e : y.take (y.length - 1) ++ [y[y.length - 1]] = y := by
  rw [List.take_append_getElem]
  exact List.take_of_length_le (by omega)
 obtain ⟨a, ha, hx⟩ := let_mem (by omega) (h3 _ (List.getElem_mem (show y.length - 1 < y.length by omega)))
 rw [hx] at e
 refine List.mem_flatMap.2 ⟨y.take (y.length - 1), SP_mem.2 ⟨y, hy, y.length - 1, by omega, rfl⟩, wkk_mem.2 ⟨a, ha, e.symm, hy⟩⟩
theorem cl_sort {c : Cd} (h : VC c) : sortW (cl c.2 c.1.toNat (SP c.2)) = c.2 := by
 have hq := h.q16
 refine sortW_eq ((List.perm_ext_iff_of_nodup (cl_nodup (by omega) (SP_nodup _)) (asc_nodup h.asc)).2 fun y => cl_mem h) (h.asc.imp fun {a b} h2 => ?_)
 have := wle_total a b
 rw [h2, Bool.or_false] at this
 exact this
theorem compact_nd {l : List Wd} (h : l.Nodup) : compactS_ l = l := by
 show Lib.compactUpTo l.toArray l.length = l
 unfold Lib.compactUpTo
 rw [List.filter_eq_self.2]
 ·refine List.ext_getElem (by simp) fun i h1 h2 => ?_
  simp [h2]
 intro j hj
 have hj := List.mem_range.1 hj
 rw [keepsS_iff]
 by_cases h0 : j = 0
 ·exact .inl h0
 right
 have e2 : l.toArray[j]! = l[j] := by simp [hj]
 have e3 : l.toArray[j - 1]! = l[j - 1]'(by omega) := by simp [show j - 1 < l.length by omega]
 rw [e2, e3]
 exact fun e => (List.pairwise_iff_getElem.1 h) (j - 1) j (by omega) hj (by omega) e.symm
theorem VC.check {c : Cd} (h : VC c) : m_code_Check c = some 0 := by
 obtain ⟨e, he, hz⟩ := Check45 c
 rw [he, hz.2 h]
theorem Make45 {c : Cd} (h : VC c) : m_code_Make c.1 (cl c.2 c.1.toNat (SP c.2)) = some (c, 0) := by
 have hq := h.q16
 have hl := h.l64
 have hl2 : (cl c.2 c.1.toNat (SP c.2)).length ≤ c.2.length := nodup_sub45 (cl_nodup (by omega) (SP_nodup _)) fun y hy => cl_sub hy
 unfold m_code_Make m_code_sorted_string m_slices_Clone_Lstring_string
 rw [if_pos (by omega)]
 simp only [Option.bind_some]
 rw [if_pos (by omega), cl_sort h, compact_nd (asc_nodup h.asc)]
 simp only [Option.bind_some]
 show ((m_code_Check c).bind _) = _
 rw [h.check, Option.bind_some, if_neg (by decide)]
theorem EqF_eq {l : List (List Int)} (hm : l.length ≤ 9223372036854775807) (hr : ∀ r ∈ l, r.length ≤ 9223372036854775807) : m_slices_EqualFunc_LLint_LLint_Lint_Lint l l = some true := by
 unfold m_slices_EqualFunc_LLint_LLint_Lint_Lint
 rw [if_neg (by simp)]
 refine lpE (loop_is (fun k => (k : Int)) l.length (Ou.go ()) (fun k hk => ?_) (by rw [if_neg (not_lt_int _)]) rfl) rfl
 rw [if_pos (lt_int hk), ix hk]
 simp only [Option.bind_some, EqI_eq (hr _ (List.getElem_mem hk)), decide_true, Bool.not_true, nx hm hk]
 rfl
theorem same_eq {c : Cd} (h : VC c) : m_parser_same (bldP c) (bldP c) = some true := by
 obtain ⟨hs, _⟩ := SP_len h
 have hq := h.q16
 unfold m_parser_same
 unfold jp
 dsimp only
 have e1 : m_slices_EqualFunc_LLint_LLint_Lint_Lint (bldP c).2.2.1 (bldP c).2.2.1 = some true := EqF_eq (by simp [bldP]; omega) fun r hr => by
  obtain ⟨x, hx, rfl⟩ := List.mem_map.1 hr
  simp [rowN]; omega
 have e2 : m_slices_EqualFunc_LLint_LLint_Lint_Lint (bldP c).2.2.2 (bldP c).2.2.2 = some true := EqF_eq (by simp [bldP]; omega) fun r hr => by
  obtain ⟨x, hx, rfl⟩ := List.mem_map.1 hr
  simp [rowE]; omega
 rw [if_pos rfl, EqS_eq (by simp [bldP]; omega), e1, e2]
 simp
set_option maxHeartbeats 1000000 in
theorem pCheck {c : Cd} (hv : VC c) (hp : PF c.2) : m_parser_Check (bldP c) = some 0 := by
 have hq2 := hv.q2
 have hq16 := hv.q16
 have hl64 := hv.l64
 obtain ⟨hs1, _⟩ := SP_len hv
 obtain ⟨q, hq⟩ := Int.eq_ofNat_of_zero_le (show 0 ≤ c.1 by omega)
 have hqn : c.1.toNat = q := by omega
 unfold m_parser_Check
 have e1 : (bldP c).1 = c.1 := rfl
 have e2 : (bldP c).2.1 = SP c.2 := rfl
 have e3 : (bldP c).2.2.1 = (SP c.2).map (rowN c.2 c.1.toNat) := rfl
 have e4 : (bldP c).2.2.2 = (SP c.2).map (rowE c.2 c.1.toNat) := rfl
 rw [e1, e2, e3, e4]
 generalize hb : (fun (a5 : Int × List (List UInt8)) => (_ : Option (Stp (Int × List (List UInt8)) (Ou (List (List UInt8)) Int)))) = body
 have hrun : loopW body (0, []) = some (Ou.go (cl c.2 c.1.toNat (SP c.2))) := by
  refine loop_is (fun i => ((i : Int), cl c.2 c.1.toNat ((SP c.2).take i))) (SP c.2).length _ (fun i hi => ?_) ?_ (by simp [cl])
  ·have hw1 : IntKind.wrap .i64 ((i : Int) + 1) = ((i + 1 : Nat) : Int) := by rw [w64 (by omega) (by omega)]; omega
   have hx := SP_short hv (List.getElem_mem hi)
   have hL : (cl c.2 c.1.toNat ((SP c.2).take i)).length ≤ 64 := Nat.le_trans (nodup_sub45 (cl_nodup (by omega) ((SP_nodup _).sublist (List.take_sublist i _))) fun y hy => cl_sub hy) hl64
   have hcl : cl c.2 c.1.toNat ((SP c.2).take (i + 1)) = cl c.2 c.1.toNat ((SP c.2).take i) ++ wkk c.2 (SP c.2)[i] q := by
    unfold cl
    rw [← List.take_append_getElem hi, List.flatMap_append, List.flatMap_singleton, hqn]
   rw [hcl]
   generalize cl c.2 c.1.toNat ((SP c.2).take i) = L at hL
   subst hb
   unfold jp
   dsimp only
   rw [if_pos (by omega)]
   rw [idx_nat, List.getElem?_eq_getElem hi, Option.bind_some]
   have n1 : idx ((SP c.2).map (rowN c.2 c.1.toNat)) (i : Int) = some (rowN c.2 c.1.toNat (SP c.2)[i]) := by
    rw [idx_nat, List.getElem?_map, List.getElem?_eq_getElem hi]; rfl
   have n2 : idx ((SP c.2).map (rowE c.2 c.1.toNat)) (i : Int) = some (rowE c.2 c.1.toNat (SP c.2)[i]) := by
    rw [idx_nat, List.getElem?_map, List.getElem?_eq_getElem hi]; rfl
   rw [n1, n2]
   simp only [Option.bind_some]
   have l1 : (((rowN c.2 c.1.toNat (SP c.2)[i]).length : Nat) : Int) = c.1 := by simp [rowN]; omega
   have l2 : (((rowE c.2 c.1.toNat (SP c.2)[i]).length : Nat) : Int) = c.1 := by simp [rowE]; omega
   rw [l1, l2, if_neg (by simp), if_neg (by simp), if_neg (by omega), if_neg (by simp; omega), hw1]
   refine (congrArg (fun o : Option _ => o.bind _) (loop_is (fun k => ((k : Int), L ++ wkk c.2 (SP c.2)[i] k)) q (L ++ wkk c.2 (SP c.2)[i] q) (fun k hk => ?_) ?_ (by simp [wkk]))).trans ?_
   ·have hw2 : IntKind.wrap .i64 ((k : Int) + 1) = ((k + 1 : Nat) : Int) := by rw [w64 (by omega) (by omega)]; omega
    have hk16 : k < 16 := by omega
    have hwl := wkk_len c.2 (SP c.2)[i] k
    dsimp only
    rw [if_pos (by omega), hw2]
    have n3 : idx (rowE c.2 c.1.toNat (SP c.2)[i]) (k : Int) = some (emF c.2 (SP c.2)[i] k) := by
     unfold rowE
     rw [idx_nat, List.getElem?_map, List.getElem?_range (by omega)]; rfl
    rw [n3]
    simp only [Option.bind_some, Int.toNat_natCast]
    rw [wkk_succ]
    by_cases h : 0 ≤ emF c.2 (SP c.2)[i] k
    ·rw [if_pos h, if_pos h, if_pos ⟨by omega, by omega, by show _ ≤ (16 : Int); omega⟩, tk1 k hk16, if_pos (by simp [maxLen]; omega), if_pos ⟨by simp; omega, by simp [maxLen]; omega⟩, List.append_assoc]
    rw [if_neg h, if_neg h]
   ·dsimp only
    rw [if_neg (by omega)]
   rfl
  subst hb
  dsimp only
  rw [if_neg (by omega), List.take_length]
 unfold jp
 dsimp only
 rw [if_neg (by simp), if_neg (by simp), if_neg (by omega), if_neg (by simpa using hq16), hrun]
 show ((m_code_Make c.1 (cl c.2 c.1.toNat (SP c.2))).bind _) = _
 rw [Make45 hv]
 simp only [Option.bind_some]
 obtain ⟨b, hb1, hb2⟩ := prefix_eq c
 rw [if_neg (by simp), hb1, hb2.2 ⟨hv, hp⟩]
 simp only [Option.bind_some]
 rw [if_neg (by decide), build_eq hv]
 simp only [Option.bind_some]
 rw [same_eq hv]
 rfl
theorem preads {c : Cd} (hv : VC c) (hp : PF c.2) {w : Wd} (hl : w.length ≤ 65536) (hw : ∀ x ∈ w, x ∈ letters.take c.1.toNat) : m_parser_reads (bldP c) w = some 0 := by
 have hq2 := hv.q2
 have hq16 := hv.q16
 unfold m_parser_reads
 rw [pCheck hv hp, Option.bind_some, if_neg (by decide)]
 obtain ⟨e, he, hz⟩ := wcheck c.1 w
 show ((m_word_Check c.1 w).bind _) = _
 rw [he, hz.2 ⟨⟨by omega, hq16⟩, hl, hw⟩]
 rfl
structure QI (a : Au) (Q : List TSetBeforeLetter) (V : List Bool) : Prop where
 vl : V.length = 2 ^ a.2.length
 st : ∀ (j : Nat) (t : TSetBeforeLetter), Q[j]? = some t → ∃ S : Nat, S < 2 ^ a.2.length ∧ t.1 = (S : Int) ∧ V[S]? = some true ∧
  ((S = 2 ^ a.2.length - 1 ∧ t.2.1 = -1) ∨ ∃ (b l Sb : Nat) (tb : TSetBeforeLetter), b < j ∧ (l : Int) < a.1 ∧ t.2.1 = (b : Int) ∧ t.2.2 = (l : Int) ∧ Q[b]? = some tb ∧ tb.1 = (Sb : Int) ∧ S = img a Sb l)
 nd : (Q.map fun t => t.1.toNat).Nodup
theorem some_lt {α : Type} {l : List α} {j : Nat} {t : α} (h : l[j]? = some t) : j < l.length := by
 refine Classical.byContradiction fun hc => ?_
 rw [List.getElem?_eq_none (by omega)] at h
 cases h
theorem QI.len {a : Au} {Q : List TSetBeforeLetter} {V : List Bool} (h : QI a Q V) : Q.length ≤ 2 ^ a.2.length := by
 have := nodup_le (2 ^ a.2.length) _ h.nd fun x hx => by
  obtain ⟨t, ht, rfl⟩ := List.mem_map.1 hx
  obtain ⟨j, hj, rfl⟩ := List.getElem_of_mem ht
  obtain ⟨S, h1, h2, _⟩ := h.st j _ (List.getElem?_eq_getElem hj)
  rw [h2]; omega
 simpa using this
theorem QI.push {a : Au} {Q : List TSetBeforeLetter} {V : List Bool} (h : QI a Q V) {i : Nat} {t : TSetBeforeLetter} {S l : Nat} (ht : Q[i]? = some t) (hS : t.1 = (S : Int)) (hl : (l : Int) < a.1) (hm : img a S l < 2 ^ a.2.length) (hV : V[img a S l]? = some false) :
  QI a (Q ++ [((img a S l : Int), (i : Int), (l : Int))]) (V.set (img a S l) true) := by
 have hi := some_lt ht
 refine ⟨by rw [List.length_set]; exact h.vl, fun j t' hj => ?_, ?_⟩
 ·rcases Nat.lt_trichotomy j Q.length with hlt | heq | hgt
  ·rw [List.getElem?_append_left hlt] at hj
   obtain ⟨S', h1, h2, h3, h4⟩ := h.st j t' hj
   refine ⟨S', h1, h2, ?_, ?_⟩
   ·rw [List.getElem?_set]
    split
    ·rename_i e
     rw [if_pos (by have := h.vl; omega)]
    exact h3
   rcases h4 with h4 | ⟨b, l', Sb, tb, g1, g2, g3, g4, g5, g6⟩
   ·exact .inl h4
   exact .inr ⟨b, l', Sb, tb, g1, g2, g3, g4, by rw [List.getElem?_append_left (by omega)]; exact g5, g6⟩
  ·subst heq
   rw [List.getElem?_append_right (Nat.le_refl _), Nat.sub_self] at hj
   have : t' = ((img a S l : Int), (i : Int), (l : Int)) := by simpa using hj.symm
   subst this
   refine ⟨img a S l, hm, rfl, ?_, .inr ⟨i, l, S, t, hi, hl, rfl, rfl, by rw [List.getElem?_append_left hi]; exact ht, hS, rfl⟩⟩
   rw [List.getElem?_set_self (by have := h.vl; omega)]
  rw [List.getElem?_eq_none (by simp; omega)] at hj
  cases hj
 rw [List.map_append, List.nodup_append]
 refine ⟨h.nd, by simp, fun x hx y hy => ?_⟩
 simp only [List.map_cons, List.map_nil, List.mem_singleton, Int.toNat_natCast] at hy
 subst hy
 obtain ⟨t', ht', rfl⟩ := List.mem_map.1 hx
 obtain ⟨j, hj, rfl⟩ := List.getElem_of_mem ht'
 obtain ⟨S', h1, h2, h3, _⟩ := h.st j _ (List.getElem?_eq_getElem hj)
 intro e
 rw [h2, Int.toNat_natCast] at e
 rw [e, hV] at h3
 cases h3
noncomputable def trB (Q : List TSetBeforeLetter) : (List UInt8) × Int → Option (Stp ((List UInt8) × Int) (List UInt8)) := fun a20 =>
                 (idx Q a20.2).bind fun x24 =>
                 (idx Q a20.2).bind fun x26 =>
                 if x26.2.1 ≠ (-1) then
                  (idx Q a20.2).bind fun x28 =>
                  (idx Q a20.2).bind fun x30 =>
                  (idx Q a20.2).bind fun x32 =>
                  (idx Q a20.2).bind fun x34 =>
                  if 0 ≤ (x30.2.2 : Int) ∧ (x30.2.2 : Int) ≤ IntKind.wrap .i64 (x34.2.2 + 1) ∧ IntKind.wrap .i64 (x34.2.2 + 1) ≤ (([48, 49, 50, 51, 52, 53, 54, 55, 56, 57, 97, 98, 99, 100, 101, 102] : List UInt8).length : Int) then
                   if ((([48, 49, 50, 51, 52, 53, 54, 55, 56, 57, 97, 98, 99, 100, 101, 102] : List UInt8).take (IntKind.wrap .i64 (x34.2.2 + 1)).toNat).drop (x30.2.2).toNat).length + a20.1.length ≤ maxLen then
                    (idx Q a20.2).bind fun x38 =>
                    (idx Q a20.2).bind fun x40 =>
                    some (Stp.next (((([48, 49, 50, 51, 52, 53, 54, 55, 56, 57, 97, 98, 99, 100, 101, 102] : List UInt8).take (IntKind.wrap .i64 (x34.2.2 + 1)).toNat).drop (x30.2.2).toNat) ++ a20.1, x40.2.1))
                   else none
                  else none
                 else
                  some (Stp.exit a20.1)
theorem trace45 {a : Au} {Q : List TSetBeforeLetter} {V : List Bool} (hA : OkA a) (h : QI a Q V) : ∀ (k j : Nat), j ≤ k → ∀ (t : TSetBeforeLetter) (S : Nat) (u : List Nat), Q[j]? = some t → t.1 = (S : Int) → u.length + j ≤ 8192 →
  ∃ v, OkW a v ∧ v.length ≤ j ∧ leadN a (2 ^ a.2.length - 1) v = S ∧ loopW (trB Q) (wN u, (j : Int)) = some (wN (v ++ u)) := by
 intro k
 induction k with
 | zero =>
  intro j hj t S u ht hS hu
  obtain ⟨S', h1, h2, h3, h4⟩ := h.st j t ht
  have hSS : S' = S := by omega
  subst hSS
  rcases h4 with ⟨e1, e2⟩ | ⟨b, l, Sb, tb, g1, _⟩
  ·refine ⟨[], (fun x hx => by cases hx), Nat.zero_le _, e1.symm, loopW_exit ?_⟩
   unfold trB
   dsimp only
   rw [idx_nat, ht]
   simp only [Option.bind_some]
   rw [if_neg (by rw [e2]; decide)]
   rfl
  omega
 | succ k ih =>
  intro j hj t S u ht hS hu
  obtain ⟨S', h1, h2, h3, h4⟩ := h.st j t ht
  have hSS : S' = S := by omega
  subst hSS
  rcases h4 with ⟨e1, e2⟩ | ⟨b, l, Sb, tb, g1, g2, g3, g4, g5, g6, g7⟩
  ·refine ⟨[], (fun x hx => by cases hx), Nat.zero_le _, e1.symm, loopW_exit ?_⟩
   unfold trB
   dsimp only
   rw [idx_nat, ht]
   simp only [Option.bind_some]
   rw [if_neg (by rw [e2]; decide)]
   rfl
  obtain ⟨v, v1, v2, v3, v4⟩ := ih b (by omega) tb Sb (l :: u) g5 g6 (by simp; omega)
  have hq8 := hA.q8
  refine ⟨v ++ [l], fun x hx => ?_, by simp; omega, by rw [lead_snoc, v3, g7], (loopW_next (s' := (wN (l :: u), (b : Int))) ?_).trans ?_⟩
  ·rcases List.mem_append.1 hx with hx | hx
   ·exact v1 x hx
   rw [List.mem_singleton] at hx; subst hx; exact g2
  ·have hw1 : IntKind.wrap .i64 ((l : Int) + 1) = ((l + 1 : Nat) : Int) := by rw [w64 (by omega) (by omega)]; omega
   unfold trB
   dsimp only
   rw [idx_nat, ht]
   simp only [Option.bind_some]
   rw [if_pos (by rw [g3]; omega), g3, g4, hw1, if_pos ⟨by omega, by omega, by show _ ≤ (16 : Int); omega⟩, Int.toNat_natCast, Int.toNat_natCast, tk1 l (by omega), if_pos (by simp [wN, maxLen]; omega)]
   rfl
  rw [v4, List.append_assoc]; rfl
theorem img_range {a : Au} (hA : OkA a) {S l : Nat} (hS : S < 2 ^ a.2.length) : (List.range a.2.length).foldl (fun o s => if S.testBit s = true then orF a l o s else o) 0 = img a S l := by
 have hn := hA.n12
 unfold img bitsL
 have e : List.range 12 = List.range a.2.length ++ (List.range (12 - a.2.length)).map (a.2.length + ·) := by
  rw [← List.range_add]; congr 1; omega
 have e2 : ((List.range (12 - a.2.length)).map (a.2.length + ·)).filter (fun k => S.testBit k) = [] := by
  refine List.filter_eq_nil_iff.2 fun k hk => ?_
  obtain ⟨i, _, rfl⟩ := List.mem_map.1 hk
  rw [Nat.testBit_lt_two_pow (Nat.lt_of_lt_of_le hS (Nat.pow_le_pow_right (by decide) (Nat.le_add_right _ _)))]
  decide
 rw [e, List.filter_append, e2, List.append_nil, List.foldl_filter]
theorem bit_eq {S s : Nat} (hS : S < 4096) (hs : s < 12) : IntKind.wrap .i64 (BitVec.ofInt (IntKind.bits .i64) (Int.fdiv (S : Int) (2 ^ (min ((s : Nat) : Int).toNat (IntKind.bits .i64)))) &&& BitVec.ofInt (IntKind.bits .i64) 1).toNat = 1 ↔ S.testBit s = true := by
 rw [Int.toNat_natCast]
 have hm : min s (IntKind.bits .i64) = s := Nat.min_eq_left (by show s ≤ 64; omega)
 rw [hm]
 have e : ((2 ^ s : Nat) : Int) = (2 : Int) ^ s := by rw [Int.natCast_pow]; rfl
 rw [← e]
 have e2 : Int.fdiv (S : Int) ((2 ^ s : Nat) : Int) = ((S / 2 ^ s : Nat) : Int) := by
  rw [Int.fdiv_eq_ediv_of_nonneg _ (Int.natCast_nonneg _)]; exact (Int.natCast_ediv ..).symm
 rw [e2, Nat.testBit_eq_decide_div_mod_eq, decide_eq_true_eq]
 have hd : S / 2 ^ s ≤ S := Nat.div_le_self _ _
 generalize S / 2 ^ s = D at hd
 show IntKind.wrap .i64 (((BitVec.ofInt 64 (D : Int) &&& BitVec.ofInt 64 1).toNat : Nat) : Int) = 1 ↔ _
 rw [BitVec.toNat_and, ofI (by omega)]
 have : (BitVec.ofInt 64 1).toNat = 1 := by decide
 rw [this, Nat.and_one_is_mod, w64 (by omega) (by omega)]
 omega
theorem rsBuild {c : Cd} (hv : VC c) (hp : PF c.2) (hm : Mx c) (h12 : (SP c.2).length ≤ 12) : m_resync_build c [] = some (bldP c, 0) := by
 unfold m_resync_build
 rcases Aut_eq c with ⟨_, _, _, h⟩ | ⟨hn, _⟩
 ·rcases Build_eq c with ⟨_, _, hB⟩ | ⟨hn, _⟩
  ·rw [h, Option.bind_some, if_neg (by simp), hB, Option.bind_some, if_neg (by simp)]
   have e2 : (bldP c).2.1 = SP c.2 := rfl
   dsimp only
   rw [e2, if_neg (by omega)]
   refine lpE (x := Ou.go ()) (loopW_exit ?_) rfl
   rw [if_neg (by simp)]
  exact absurd ⟨hv, hp⟩ hn
 exact absurd ⟨hv, hp, hm⟩ hn
set_option maxHeartbeats 1000000 in
theorem Sync_eq {c : Cd} (hv : VC c) (hp : PF c.2) (hm : Mx c) (h8 : c.1 ≤ 8) (h12 : (SP c.2).length ≤ 12) :
    ∃ r, m_resync_Synchronizing c = some r ∧ r.2.2 = 0 ∧ (r.2.1 = true → ∃ v, OkW (autP c) v ∧ r.1 = wN v ∧ v.length ≤ 4096 ∧ leadN (autP c) (2 ^ (autP c).2.length - 1) v = 1) := by
  have hA := aut_ok hv hm h8 h12
  have hq2 := hv.q2
  have hlen : (autP c).2.length = (SP c.2).length := List.length_map ..
  obtain ⟨q, hq⟩ := Int.eq_ofNat_of_zero_le (show 0 ≤ c.1 by omega)
  have hp2 : 2 ^ (autP c).2.length ≤ 4096 := show _ ≤ 2 ^ 12 from Nat.pow_le_pow_right (by decide) hA.n12
  have hp1 : 0 < 2 ^ (autP c).2.length := Nat.pow_pos (by decide)
  have hn12 := hA.n12
  unfold m_resync_Synchronizing
  rw [rsBuild hv hp hm h12, Option.bind_some, if_neg (by simp)]
  have e1 : (bldP c).1 = c.1 := rfl
  have e2 : (bldP c).2.1 = SP c.2 := rfl
  have e3 : (bldP c).2.2.1 = (autP c).2 := rfl
  dsimp only
  rw [e1, e2, e3, if_neg (by omega), if_pos (by omega), if_pos (by omega)]
  have hN : IntKind.wrap .i64 (1 * 2 ^ (min (((SP c.2).length : Int)).toNat (IntKind.bits .i64))) = ((2 ^ (autP c).2.length : Nat) : Int) := by
    rw [Int.toNat_natCast, Int.one_mul, ← hlen]
    have : min (autP c).2.length (IntKind.bits .i64) = (autP c).2.length := Nat.min_eq_left (by show _ ≤ 64; omega)
    rw [this]
    have e : ((2 ^ (autP c).2.length : Nat) : Int) = (2 : Int) ^ (autP c).2.length := by rw [Int.natCast_pow]; rfl
    rw [← e]
    generalize 2 ^ (autP c).2.length = P at hp2
    exact w64 (by omega) (by omega)
  rw [hN]
  have hN1 : IntKind.wrap .i64 (((2 ^ (autP c).2.length : Nat) : Int) - 1) = ((2 ^ (autP c).2.length - 1 : Nat) : Int) := by
    generalize 2 ^ (autP c).2.length = P at hp2 hp1
    rw [w64 (by omega) (by omega)]; omega
  rw [hN1]
  have hstart : QI (autP c) [(((2 ^ (autP c).2.length - 1 : Nat) : Int), -1, -1)] ((List.replicate (2 ^ (autP c).2.length) false).set (2 ^ (autP c).2.length - 1) true) := by
    refine ⟨by simp, fun j t hj => ?_, by simp⟩
    have hj0 := some_lt hj
    have hj0 : j = 0 := by simpa using hj0
    subst hj0
    have : t = (((2 ^ (autP c).2.length - 1 : Nat) : Int), -1, -1) := by simpa using hj.symm
    subst this
    exact ⟨2 ^ (autP c).2.length - 1, by omega, rfl, by rw [List.getElem?_set_self (by simp; omega)], .inl ⟨rfl, rfl⟩⟩
  rw [Int.toNat_natCast, Int.toNat_natCast]
  have hfit : 0 ≤ ((2 ^ (autP c).2.length : Nat) : Int) ∧ ((2 ^ (autP c).2.length : Nat) : Int) ≤ ((2 ^ (autP c).2.length : Nat) : Int) ∧ ((2 ^ (autP c).2.length : Nat) : Int) * 1 ≤ 281474976710656 := by
    generalize 2 ^ (autP c).2.length = P at hp2 hp1
    omega
  rw [if_pos hfit, if_pos (by omega)]
  have hix : ∃ z, idx (List.replicate (2 ^ (autP c).2.length) false) ((2 ^ (autP c).2.length - 1 : Nat) : Int) = some z := ⟨false, by
    rw [idx_nat, List.getElem?_replicate, if_pos (by omega)]⟩
  obtain ⟨z, hz⟩ := hix
  rw [hz, Option.bind_some]
  generalize hb : (fun (a12 : Int × (List TSetBeforeLetter) × (List Bool)) => (_ : Option (Stp (Int × (List TSetBeforeLetter) × (List Bool)) (Ou Unit ((List UInt8) × Bool × Int))))) = body
  have hround : ∀ s : Int × (List TSetBeforeLetter) × (List Bool), (∃ (i : Nat) (Q : List TSetBeforeLetter) (V : List Bool), s = ((i : Int), Q, V) ∧ QI (autP c) Q V ∧ i ≤ Q.length) →
      (∃ s', body s = some (.next s') ∧ (∃ (i : Nat) (Q : List TSetBeforeLetter) (V : List Bool), s' = ((i : Int), Q, V) ∧ QI (autP c) Q V ∧ i ≤ Q.length) ∧ 5000 - s'.1.toNat < 5000 - s.1.toNat) ∨
      (∃ x, body s = some (.exit x) ∧ (match x with | .go _ => True | .ret r => r.2.2 = 0 ∧ (r.2.1 = true → ∃ v, OkW (autP c) v ∧ r.1 = wN v ∧ v.length ≤ 4096 ∧ leadN (autP c) (2 ^ (autP c).2.length - 1) v = 1))) := by
    rintro s ⟨i, Q, V, rfl, hQ, hi⟩
    have hQl := hQ.len
    by_cases hlt : i < Q.length
    · have ht : Q[i]? = some Q[i] := List.getElem?_eq_getElem hlt
      generalize Q[i] = t at ht
      obtain ⟨S, hS1, hS2, hS3, hS4⟩ := hQ.st i t ht
      by_cases h1 : t.1 = 1
      · have hS : S = 1 := by omega
        subst hS
        obtain ⟨v, v1, v2, v3, v4⟩ := trace45 hA hQ i i (Nat.le_refl _) t 1 [] ht hS2 (by simp; omega)
        refine .inr ⟨.ret (wN v, true, 0), ?_, rfl, fun _ => ⟨v, v1, rfl, by omega, v3⟩⟩
        subst hb
        dsimp only
        rw [if_pos (by omega), idx_nat, ht]
        simp only [Option.bind_some]
        rw [if_pos h1]
        rw [List.append_nil] at v4
        exact bindL v4 rfl
      have hmid : ∃ Q' V', QI (autP c) Q' V' ∧ Q'[i]? = some t ∧ body ((i : Int), Q, V) = some (.next (((i + 1 : Nat) : Int), Q', V')) := by
        have hw1 : IntKind.wrap .i64 ((i : Int) + 1) = ((i + 1 : Nat) : Int) := by
          generalize 2 ^ (autP c).2.length = P at hp2 hQl
          rw [w64 (by omega) (by omega)]; omega
        subst hb
        dsimp only
        rw [if_pos (by omega), idx_nat, ht]
        simp only [Option.bind_some]
        rw [if_neg h1]
        generalize hb2 : (fun (a44 : Int × (List TSetBeforeLetter) × (List Bool)) => (_ : Option (Stp (Int × (List TSetBeforeLetter) × (List Bool)) ((List TSetBeforeLetter) × (List Bool))))) = body2
        obtain ⟨x, hx, hxQ⟩ := loopN (body := body2) (Q := fun x => QI (autP c) x.1 x.2 ∧ x.1[i]? = some t) q (fun l s => ∃ Q' V', s = ((l : Int), Q', V') ∧ QI (autP c) Q' V' ∧ Q'[i]? = some t) (fun l s hl ⟨Q', V', hs, hI, ht'⟩ => by
          subst hs hb2
          have hI' := hI.len
          have hlA : (l : Int) < (autP c).1 := by show (l : Int) < c.1; omega
          have hw2 : IntKind.wrap .i64 ((l : Int) + 1) = ((l + 1 : Nat) : Int) := by have := h8; rw [w64 (by omega) (by omega)]; omega
          have himg := img_lt hA hS1 hlA
          unfold jp
          dsimp only
          rw [if_pos (by omega), hw2]
          have hin : loopW (S := Int × Int) (X := Int) (fun a51 =>
                     if a51.2 < ((SP c.2).length : Int) then
                      jp (fun (a55 : Int) =>
                        some (Stp.next (a55, IntKind.wrap .i64 (a51.2 + 1))))
                        fun k57 =>
                       (idx Q' (i : Int)).bind fun x58 =>
                       (idx Q' (i : Int)).bind fun x60 =>
                       if 0 ≤ a51.2 then
                        if (IntKind.wrap .i64 (BitVec.ofInt (IntKind.bits .i64) (Int.fdiv x60.1 (2 ^ (min (a51.2).toNat (IntKind.bits .i64)))) &&& BitVec.ofInt (IntKind.bits .i64) 1).toNat) = 1 then
                         (idx (autP c).2 a51.2).bind fun x63 =>
                         (idx x63 (l : Int)).bind fun x65 =>
                         if 0 ≤ x65 then
                          k57 (IntKind.wrap .i64 (BitVec.ofInt (IntKind.bits .i64) a51.1 ||| BitVec.ofInt (IntKind.bits .i64) (IntKind.wrap .i64 (1 * 2 ^ (min (x65).toNat (IntKind.bits .i64))))).toNat)
                         else none
                        else
                         k57 a51.1
                       else none
                     else
                      some (Stp.exit a51.1)) (0, 0) = some ((img (autP c) S l : Nat) : Int) := by
            rw [← img_range hA hS1]
            refine loop_fold (fun s (o : Nat) => ((o : Int), (s : Int))) (autP c).2.length (fun o s => if S.testBit s = true then orF (autP c) l o s else o) (fun o => (o : Int)) (fun o => o < 2 ^ (autP c).2.length) ?_ ?_ ?_ 0 hp1 rfl
            · intro s o hs ho
              split
              · exact Nat.or_lt_two_pow ho (Nat.pow_lt_pow_right (by decide) (hA.at hs hlA).choose_spec.2.2)
              exact ho
            · intro s o hs ho
              have hw3 : IntKind.wrap .i64 ((s : Int) + 1) = ((s + 1 : Nat) : Int) := by rw [w64 (by omega) (by omega)]; omega
              obtain ⟨r, r1, r2, r3⟩ := hA.at hs hlA
              unfold jp
              dsimp only
              rw [if_pos (by omega), idx_nat, ht', hw3]
              simp only [Option.bind_some]
              rw [if_pos (by omega), hS2]
              by_cases hbit : S.testBit s = true
              · rw [if_pos ((bit_eq (by omega) (by omega)).2 hbit), if_pos hbit, r1]
                simp only [Option.bind_some]
                rw [r2]
                simp only [Option.bind_some]
                rw [if_pos (by omega), bor_eq (lt12 hn12 ho) (by omega)]
                rfl
              rw [if_neg (fun e => hbit ((bit_eq (by omega) (by omega)).1 e)), if_neg hbit]
            intro o ho
            dsimp only
            rw [if_neg (by omega)]
          have hVi : img (autP c) S l < V'.length := by rw [hI.vl]; exact himg
          have hVx : idx V' ((img (autP c) S l : Nat) : Int) = some V'[img (autP c) S l] := by rw [idx_nat, List.getElem?_eq_getElem hVi]
          refine .inl ?_
          by_cases hvis : V'[img (autP c) S l] = true
          · refine ⟨(((l + 1 : Nat) : Int), Q', V'), ?_, Q', V', rfl, hI, ht'⟩
            refine bindL hin ?_
            rw [hVx, hvis]
            rfl
          · have hvis : V'[img (autP c) S l] = false := by simpa using hvis
            refine ⟨(((l + 1 : Nat) : Int), Q' ++ [((img (autP c) S l : Int), (i : Int), (l : Int))], V'.set (img (autP c) S l) true), ?_, _, _, rfl, hI.push ht' hS2 hlA himg (by rw [List.getElem?_eq_getElem hVi, hvis]), by rw [List.getElem?_append_left (some_lt ht')]; exact ht'⟩
            refine bindL hin ?_
            rw [hVx, hvis]
            simp only [Option.bind_some]
            rw [if_pos (by decide), if_pos ⟨by simp; omega, by simp [maxLen]; omega⟩, Int.toNat_natCast]) (fun s ⟨Q', V', hs, hI, ht'⟩ => by
          subst hs hb2
          dsimp only
          rw [if_neg (by omega)]
          exact ⟨_, rfl, hI, ht'⟩) 0 (0, Q, V) (Nat.zero_le _) ⟨Q, V, rfl, hQ, ht⟩
        refine ⟨x.1, x.2, hxQ.1, hxQ.2, ?_⟩
        rw [hx, Option.bind_some, hw1]
      obtain ⟨Q', V', g1, g2, g3⟩ := hmid
      refine .inl ⟨_, g3, ⟨i + 1, Q', V', rfl, g1, some_lt g2⟩, ?_⟩
      dsimp only
      rw [Int.toNat_natCast, Int.toNat_natCast]
      generalize 2 ^ (autP c).2.length = P at hp2 hQl
      omega
    refine .inr ⟨.go (), ?_, trivial⟩
    subst hb
    dsimp only
    rw [if_neg (by omega)]
  obtain ⟨x, hx, hQ⟩ := loopW_inv (body := body) (fun s => ∃ (i : Nat) (Q : List TSetBeforeLetter) (V : List Bool), s = ((i : Int), Q, V) ∧ QI (autP c) Q V ∧ i ≤ Q.length) (fun s => 5000 - s.1.toNat) (fun x => match x with | .go _ => True | .ret r => r.2.2 = 0 ∧ (r.2.1 = true → ∃ v, OkW (autP c) v ∧ r.1 = wN v ∧ v.length ≤ 4096 ∧ leadN (autP c) (2 ^ (autP c).2.length - 1) v = 1)) hround (0, [(((2 ^ (autP c).2.length - 1 : Nat) : Int), -1, -1)], (List.replicate (2 ^ (autP c).2.length) false).set (2 ^ (autP c).2.length - 1) true) ⟨0, _, _, rfl, hstart, Nat.zero_le _⟩
  rw [hx]
  cases x with
  | go u => exact ⟨([], false, 0), rfl, rfl, fun h => by cases h⟩
  | ret r => exact ⟨r, rfl, hQ⟩
theorem lab16 : ∀ a, a < 16 → Lib.indexByte [48, 49, 50, 51, 52, 53, 54, 55, 56, 57, 97, 98, 99, 100, 101, 102] ((letN a).toNat : Int).toNat.toUInt8 = (a : Int) := by decide
theorem idxB45 {a : Nat} (h : a < 16) : m_strings_IndexByte [48, 49, 50, 51, 52, 53, 54, 55, 56, 57, 97, 98, 99, 100, 101, 102] ((letN a).toNat : Int) = some (a : Int) := by
 unfold m_strings_IndexByte
 rw [lab16 a h]
theorem word_nat {q : Nat} (hq : q ≤ 16) : ∀ {w : Wd}, (∀ x ∈ w, x ∈ letters.take q) → ∃ v : List Nat, (∀ l ∈ v, l < q) ∧ w = wN v
 | [], _ => ⟨[], (fun l hl => by cases hl), rfl⟩
 | x :: w, h => by
  obtain ⟨v, hv, rfl⟩ := word_nat hq (w := w) fun y hy => h y (.tail _ hy)
  obtain ⟨a, ha, rfl⟩ := let_mem hq (h x (.head _))
  exact ⟨a :: v, fun l hl => (List.mem_cons.1 hl).elim (fun e => e ▸ ha) (hv l), rfl⟩
theorem letN_mem {q a : Nat} (hq : q ≤ 16) (ha : a < q) : letN a ∈ letters.take q := by
 have h2 : a < letters.length := by show a < 16; omega
 refine List.mem_iff_getElem.2 ⟨a, by rw [List.length_take]; omega, ?_⟩
 rw [List.getElem_take]
 unfold letN
 rw [List.getD_eq_getElem?_getD, List.getElem?_eq_getElem h2]
 rfl
theorem wN_mem {q : Nat} (hq : q ≤ 16) {v : List Nat} (h : ∀ l ∈ v, l < q) : ∀ x ∈ wN v, x ∈ letters.take q := fun x hx => by
 obtain ⟨l, hl, rfl⟩ := List.mem_map.1 hx
 exact letN_mem hq (h l hl)
theorem dl_app (a : Au) : ∀ (u v : List Nat) (s : Nat), dl a s (u ++ v) = dl a (dl a s u) v
 | [], v, s => rfl
 | x :: u, v, s => dl_app a u v (nxA a s x)
theorem dl_lt {a : Au} (h : OkA a) : ∀ {v : List Nat} {s : Nat}, OkW a v → s < a.2.length → dl a s v < a.2.length
 | [], s, _, hs => hs
 | l :: v, s, hv, hs => dl_lt h (v := v) hv.tail.2 (h.at hs hv.tail.1).choose_spec.2.2
theorem lead_eq {a : Au} (h : OkA a) {v : List Nat} (hv : OkW a v) (hl : v.length ≤ 65536) {S : Nat} (hS : S < 2 ^ a.2.length) : m_reset_lead a (S : Int) (wN v) = some ((leadN a S v : Nat) : Int) := by
 have hq8 := h.q8
 unfold m_reset_lead
 have hwl : (wN v).length = v.length := List.length_map ..
 refine bindL (loop_is (fun i => (((leadN a S (v.take i) : Nat) : Int), (i : Int))) v.length ((leadN a S v : Nat) : Int) (fun i hi => ?_) ?_ rfl) rfl
 ·have hw1 : IntKind.wrap .i64 ((i : Int) + 1) = ((i + 1 : Nat) : Int) := by rw [w64 (by omega) (by omega)]; omega
  have hiv := hv _ (List.getElem_mem hi)
  have hx : idx (wN v) (i : Int) = some (letN v[i]) := by
   unfold wN
   rw [idx_nat, List.getElem?_map, List.getElem?_eq_getElem hi]; rfl
  dsimp only
  rw [if_pos (by omega), hx, Option.bind_some, idxB45 (by omega), Option.bind_some, step_eq45 h (lead_lt h (fun x hx => hv x (List.mem_of_mem_take hx)) hS) hiv, Option.bind_some, hw1, ← List.take_append_getElem hi, lead_snoc]
 dsimp only
 rw [if_neg (by omega), List.take_length]
theorem Verify_eq {a : Au} (h : OkA a) {v : List Nat} (hv : OkW a v) (hl : v.length ≤ 65536) (ho : one (leadN a (2 ^ a.2.length - 1) v)) : m_reset_Verify a (wN v) = some 0 := by
 have hq1 := h.q1
 have hq8 := h.q8
 have hwl : (wN v).length = v.length := List.length_map ..
 unfold m_reset_Verify m_reset_check
 obtain ⟨e, he, hz⟩ := wcheck a.1 (wN v)
 rw [rCheck h, Option.bind_some, if_neg (by decide), he, hz.2 ⟨⟨hq1, by omega⟩, by omega, wN_mem (by omega) fun l hl => by have := hv l hl; omega⟩]
 simp only [Option.bind_some]
 rw [if_neg (by decide), all_eq h, Option.bind_some, lead_eq h hv hl (all_lt _), Option.bind_some, single_eq (lt12 h.n12 (lead_lt h hv (all_lt _)))]
 simp only [Option.bind_some]
 have hd : decide ((bitsL (leadN a (2 ^ a.2.length - 1) v)).length = 1) = true := decide_eq_true ho
 rw [hd, if_neg (by decide)]
theorem stepP_eq {c : Cd} (hv : VC c) (hm : Mx c) (h8 : c.1 ≤ 8) (h12 : (SP c.2).length ≤ 12) {s l : Nat} (hs : s < (SP c.2).length) (hl : (l : Int) < c.1) : ∃ e, stepP (bldP c) (s : Int) (letN l) = some (some (e, ((nxA (autP c) s l : Nat) : Int))) := by
 have hA := aut_ok hv hm h8 h12
 have hlen : (autP c).2.length = (SP c.2).length := List.length_map ..
 obtain ⟨r, r1, r2, r3⟩ := hA.at (s := s) (l := l) (by omega) hl
 have e3 : (bldP c).2.2.1 = (autP c).2 := rfl
 have e4 : (bldP c).2.2.2 = (SP c.2).map (rowE c.2 c.1.toNat) := rfl
 have n2 : idx ((SP c.2).map (rowE c.2 c.1.toNat)) (s : Int) = some (rowE c.2 c.1.toNat (SP c.2)[s]) := by
  rw [idx_nat, List.getElem?_map, List.getElem?_eq_getElem hs]; rfl
 have n3 : idx (rowE c.2 c.1.toNat (SP c.2)[s]) (l : Int) = some (emF c.2 (SP c.2)[s] l) := by
  unfold rowE
  rw [idx_nat, List.getElem?_map, List.getElem?_range (by omega)]; rfl
 refine ⟨emF c.2 (SP c.2)[s] l, ?_⟩
 unfold stepP m_parser_digit
 rw [idxB45 (by omega)]
 simp only [Option.bind_some]
 rw [e3, r1, Option.bind_some, r2, Option.bind_some, if_neg (by omega), e4, n2, Option.bind_some, n3, Option.bind_some]
theorem walk_eq {c : Cd} (hv : VC c) (hm : Mx c) (h8 : c.1 ≤ 8) (h12 : (SP c.2).length ≤ 12) : ∀ (v : List Nat) (s : Nat), s < (SP c.2).length → OkW (autP c) v → ∃ L, walkP (bldP c) (wN v) (s : Int) = some L ∧ L.length = v.length ∧
    ∀ (k : Nat) (acc : List Int), k + v.length ≤ 65536 → acc.length ≤ k → ∃ acc', acc'.length ≤ k + v.length ∧ forL (S := Int × Int × (List Int)) (X := Unit) (fun a16 (x18 : Int × Int) =>
           jp (fun (a22 : (List Int)) =>
             some (Stp.next (x18.2, IntKind.wrap .i64 (a16.2.1 + 1), a22)))
             fun k24 =>
            if 0 ≤ x18.1 then
             if fits 8 ((a16.2.2 : List Int).length + ([x18.1]).length) then
              k24 (a16.2.2 ++ [x18.1])
             else none
            else
             k24 a16.2.2) L ((s : Int), (k : Int), acc) = some (.go (((dl (autP c) s v : Nat) : Int), ((k + v.length : Nat) : Int), acc'))
  | [], s, hs, hv' => ⟨[], rfl, rfl, fun k acc _ h => ⟨acc, h, rfl⟩⟩
  | l :: v, s, hs, hv' => by
    have hA := aut_ok hv hm h8 h12
    have hlen : (autP c).2.length = (SP c.2).length := List.length_map ..
    obtain ⟨e, he⟩ := stepP_eq hv hm h8 h12 hs hv'.tail.1
    have hn := (hA.at (s := s) (l := l) (by omega) hv'.tail.1).choose_spec.2.2
    obtain ⟨L, h1, h2, h3⟩ := walk_eq hv hm h8 h12 v (nxA (autP c) s l) (by omega) hv'.tail.2
    refine ⟨(e, ((nxA (autP c) s l : Nat) : Int)) :: L, ?_, by simp [h2], fun k acc hk ha => ?_⟩
    · show (stepP (bldP c) (s : Int) (letN l)).bind _ = _
      rw [he, Option.bind_some]
      show (walkP (bldP c) (wN v) ((nxA (autP c) s l : Nat) : Int)).map _ = _
      rw [h1]
      rfl
    rw [List.length_cons] at hk ⊢
    have hw1 : IntKind.wrap .i64 ((k : Int) + 1) = ((k + 1 : Nat) : Int) := by rw [w64 (by omega) (by omega)]; omega
    by_cases h0 : 0 ≤ e
    · obtain ⟨acc', g1, g2⟩ := h3 (k + 1) (acc ++ [e]) (by omega) (by simp; omega)
      refine ⟨acc', by omega, ?_⟩
      unfold forL
      unfold jp
      dsimp only
      rw [if_pos h0, if_pos ⟨by simp; omega, by simp [maxLen]; omega⟩, hw1]
      dsimp only
      unfold jp at g2
      rw [g2]
      show _ = some (Ou.go (((dl (autP c) (nxA (autP c) s l) v : Nat) : Int), _, _))
      rw [show k + 1 + v.length = k + (v.length + 1) by omega]
    obtain ⟨acc', g1, g2⟩ := h3 (k + 1) acc (by omega) (by omega)
    refine ⟨acc', by omega, ?_⟩
    unfold forL
    unfold jp
    dsimp only
    rw [if_neg h0, hw1]
    dsimp only
    unfold jp at g2
    rw [g2]
    show _ = some (Ou.go (((dl (autP c) (nxA (autP c) s l) v : Nat) : Int), _, _))
    rw [show k + 1 + v.length = k + (v.length + 1) by omega]
theorem Run_eq {c : Cd} (hv : VC c) (hp : PF c.2) (hm : Mx c) (h8 : c.1 ≤ 8) (h12 : (SP c.2).length ≤ 12) {v : List Nat} (hw : OkW (autP c) v) (hl : v.length ≤ 65536) : ∃ r, m_parser_Run (bldP c) 0 (wN v) = some r ∧ r.2.1 = ((dl (autP c) 0 v : Nat) : Int) ∧ r.2.2 = 0 := by
 obtain ⟨h0, _⟩ := SP_zero hv
 have hq2 := hv.q2
 have hwl : (wN v).length = v.length := List.length_map ..
 obtain ⟨L, h1, h2, h3⟩ := walk_eq hv hm h8 h12 v 0 h0 hw
 obtain ⟨acc', g1, g2⟩ := h3 0 [] (by omega) (Nat.le_refl _)
 have hwA : ∀ l ∈ v, l < c.1.toNat := fun l hl => by
  have : (l : Int) < c.1 := hw l hl
  omega
 refine ⟨(acc', ((dl (autP c) 0 v : Nat) : Int), 0), ?_, rfl, rfl⟩
 unfold m_parser_Run
 rw [preads hv hp (by omega) (wN_mem (by omega) hwA), Option.bind_some, if_neg (by decide)]
 have hy : y_parser_steps (bldP c) 0 (wN v) = some L := by
  unfold y_parser_steps
  rw [if_pos (by omega)]
  exact h1
 have e2 : (bldP c).2.1 = SP c.2 := rfl
 rw [hy, e2]
 have hd : decide (((SP c.2).length : Int) ≤ 0) = false := decide_eq_false (by omega)
 rw [hd]
 unfold jp at g2 ⊢
 dsimp only
 rw [if_neg (by decide), if_neg (by decide), Option.bind_some]
 refine lpE g2 ?_
 show (fun a27 : Int × Int × List Int => if a27.2.1 < ((wN v).length : Int) then some (([] : List Int), (0 : Int), (13 : Int)) else some (a27.2.2, a27.1, 0)) (((dl (autP c) 0 v : Nat) : Int), ((0 + v.length : Nat) : Int), acc') = _
 dsimp only
 rw [if_neg (by omega)]
abbrev c45 : Cd := (2, [[48], [49, 48], [49, 49]])
theorem vc45 : VC c45 := ⟨by decide, by decide, by decide, by decide, by decide, by decide⟩
theorem pf45 : PF c45.2 := by
 intro i k hi hk h
 have hi : i < 3 := hi
 have hk : k < 3 := hk
 obtain rfl | rfl | rfl : i = 0 ∨ i = 1 ∨ i = 2 := (by omega) <;> obtain rfl | rfl | rfl : k = 0 ∨ k = 1 ∨ k = 2 := (by omega) <;> first | exact absurd rfl h | simp
theorem sp45 : SP c45.2 = [[], [49]] := by
 refine sortW_eq ?_ (by decide)
 have : preL c45.2 = [[], [49]] := by decide
 rw [this]
theorem mx45 : Mx c45 := by
 unfold Mx
 rw [sp45]
 decide
theorem au45 : autP c45 = (2, [[0, 1], [0, 0]]) := by
 have e : nxF c45.2 = fun x a => if x ++ [letN a] ∈ c45.2 then 0 else ixW [[], [49]] (x ++ [letN a]) := by
  funext x a
  unfold nxF
  rw [sp45]
 unfold autP rowN
 rw [sp45, e]
 decide
theorem awake45 : m_top_top45Awake = some true := by
 have h12 : (SP c45.2).length ≤ 12 := by rw [sp45]; decide
 have hA := aut_ok vc45 mx45 (by decide) h12
 unfold m_top_top45Awake
 have hm : m_parser_Automaton (2, [[48], [49, 48], [49, 49]]) = some (autP c45, 0) := by
  rcases Aut_eq c45 with ⟨_, _, _, h⟩ | ⟨hn, _⟩
  ·exact h
  exact absurd ⟨vc45, pf45, mx45⟩ hn
 obtain ⟨⟨w, b⟩, hS, hR⟩ := Shortest_eq hA
 rw [hm, Option.bind_some]
 dsimp only
 rw [hS, Option.bind_some]
 have h0 : OkW (autP c45) [0] := fun l hl => by
  rw [List.mem_singleton] at hl
  subst hl
  show ((0 : Nat) : Int) < 2
  decide
 have h1 : one (leadN (autP c45) (2 ^ (autP c45).2.length - 1) [0]) := by rw [au45]; decide
 rcases hR with ⟨rfl, v, v1, v2, v3, v4, v5⟩ | ⟨_, h⟩
 ·have hl := v5 [0] h0 h1
  have hv : v = [0] := by
   match v, hl with
   | [], _ =>
    rw [au45] at v4
    exact absurd v4 (by decide)
   | [x], _ =>
    have hx := v1 x (.head _)
    rw [au45] at hx
    have hx : (x : Int) < 2 := hx
    obtain rfl | rfl : x = 0 ∨ x = 1 := by omega
    ·rfl
    rw [au45] at v4
    exact absurd v4 (by decide)
   | _ :: _ :: _, hl => simp at hl
  subst hv
  have hw : w = [48] := v2
  subst hw
  unfold jp
  dsimp only
  rw [if_pos rfl, if_pos rfl, if_pos rfl]
  rfl
 exact absurd h1 (h [0] h0)
theorem one_end {a : Au} (hA : OkA a) {v : List Nat} (hv : OkW a v) (h : one (leadN a (2 ^ a.2.length - 1) v)) {s s' : Nat} (hs : s < a.2.length) (hs' : s' < a.2.length) : dl a s v = dl a s' v := by
 have hn := hA.n12
 have m1 : dl a s v ∈ bitsL (leadN a (2 ^ a.2.length - 1) v) := (lead_mem hA hv (all_lt _)).2 ⟨s, (all_mem hn).2 hs, rfl⟩
 have m2 : dl a s' v ∈ bitsL (leadN a (2 ^ a.2.length - 1) v) := (lead_mem hA hv (all_lt _)).2 ⟨s', (all_mem hn).2 hs', rfl⟩
 obtain ⟨t, ht⟩ := List.length_eq_one_iff.1 h
 rw [ht, List.mem_singleton] at m1 m2
 rw [m1, m2]
theorem law45 (c : Cd) (p1 p2 : List UInt8) : m_top_TopResetParsers c p1 p2 = some true := by
 unfold m_top_TopResetParsers
 rcases Mach_eq c with ⟨x, hx, hf⟩ | ⟨hv, hp, hm, h8, h12, hM⟩
 ·rw [hx, Option.bind_some]
  generalize hK : (fun (a5 : Bool) => (_ : Option Bool)) = K
  have hT : K true = some true := by subst hK; dsimp only; rw [if_pos rfl, awake45, Option.bind_some]
  unfold jp
  dsimp only
  rw [if_pos (by rw [hf]; rfl), hT]
 rw [hM, Option.bind_some]
 generalize hK : (fun (a5 : Bool) => (_ : Option Bool)) = K
 have hT : K true = some true := by subst hK; dsimp only; rw [if_pos rfl, awake45, Option.bind_some]
 have hq2 := hv.q2
 obtain ⟨e1, he1, hz1⟩ := wcheck c.1 p1
 obtain ⟨e2, he2, hz2⟩ := wcheck c.1 p2
 have hF : p1.length ≤ 20 → p2.length ≤ 20 → e1 = 0 → e2 = 0 → K false = some true := by
  intro l1 l2 z1 z2
  have hA := aut_ok hv hm h8 h12
  obtain ⟨⟨w, b⟩, hS, hR⟩ := Shortest_eq hA
  obtain ⟨⟨w', b', e'⟩, hY, hy1, hy2⟩ := Sync_eq hv hp hm h8 h12
  have hy1 : e' = 0 := hy1
  subst hy1
  subst hK
  dsimp only
  rw [if_neg (by decide), hS, Option.bind_some, hY, Option.bind_some]
  have hwv : ∀ {v'}, leadN (autP c) (2 ^ (autP c).2.length - 1) v' = 1 → one (leadN (autP c) (2 ^ (autP c).2.length - 1) v') := fun h => by rw [h]; decide
  unfold jp
  dsimp only
  rw [if_neg (by decide), if_neg (by decide)]
  rcases hR with ⟨hb, v, v1, v2, v3, v4, v5⟩ | ⟨hb, h⟩
  ·have hb : b = true := hb
   subst hb
   have v2 : w = wN v := v2
   subst v2
   have hwl : (wN v).length = v.length := List.length_map ..
   -- both runs end in one state
   have hc : c.1.toNat ≤ 16 := by omega
   obtain ⟨u1, g1, rfl⟩ := word_nat hc ((hz1.1 z1).2.2)
   obtain ⟨u2, g2, rfl⟩ := word_nat hc ((hz2.1 z2).2.2)
   have hu1 : (wN u1).length = u1.length := List.length_map ..
   have hu2 : (wN u2).length = u2.length := List.length_map ..
   have k1 : OkW (autP c) u1 := fun l hl => by have := g1 l hl; show (l : Int) < c.1; omega
   have k2 : OkW (autP c) u2 := fun l hl => by have := g2 l hl; show (l : Int) < c.1; omega
   have kk : ∀ {u}, OkW (autP c) u → OkW (autP c) (u ++ v) := fun h l hl => (List.mem_append.1 hl).elim (h l) (v1 l)
   obtain ⟨r1, hr1, hs1, ht1⟩ := Run_eq hv hp hm h8 h12 (kk k1) (by simp; omega)
   obtain ⟨r2, hr2, hs2, ht2⟩ := Run_eq hv hp hm h8 h12 (kk k2) (by simp; omega)
   have a1 : wN (u1 ++ v) = wN u1 ++ wN v := List.map_append ..
   have a2 : wN (u2 ++ v) = wN u2 ++ wN v := List.map_append ..
   rw [a1] at hr1
   rw [a2] at hr2
   have hn1 := hA.n1
   have hss : r1.2.1 = r2.2.1 := by
    rw [hs1, hs2, dl_app, dl_app, one_end hA v1 v4 (dl_lt hA k1 hn1) (dl_lt hA k2 hn1)]
   have hend : (if (wN u1).length + (wN v).length ≤ maxLen then (m_parser_Run (bldP c) 0 (wN u1 ++ wN v)).bind fun x23 => if (wN u2).length + (wN v).length ≤ maxLen then (m_parser_Run (bldP c) 0 (wN u2 ++ wN v)).bind fun x26 => if x23.2.2 = 0 then if x26.2.2 = 0 then if x23.2.1 = x26.2.1 then (m_top_top45Awake).bind fun x31 => some x31 else some false else some false else some false else none else none) = some true := by
    rw [if_pos (by simp [maxLen]; omega), hr1, Option.bind_some, if_pos (by simp [maxLen]; omega), hr2, Option.bind_some, if_pos ht1, if_pos ht2, if_pos hss, awake45]
    rfl
   cases b' with
   | false =>
    exact hend
   | true =>
    obtain ⟨v', q1, q2, q3, q4⟩ := hy2 rfl
    have q2 : w' = wN v' := q2
    subst q2
    have hwl' : (wN v').length = v'.length := List.length_map ..
    have hmin := v5 v' q1 (hwv q4)
    have hd : decide (((wN v').length : Int) < ((wN v).length : Int)) = false := decide_eq_false (by omega)
    rw [if_pos rfl, if_neg (by decide), if_pos rfl, Verify_eq hA q1 (by omega) (hwv q4), Option.bind_some, if_neg (by decide), hd]
    exact hend
  have hb : b = false := hb
  subst hb
  cases b' with
  | false =>
   show (m_top_top45Awake.bind fun x20 => some x20) = some true
   rw [awake45]; rfl
  | true =>
   obtain ⟨v', q1, q2, q3, q4⟩ := hy2 rfl
   exact absurd (hwv q4) (h v' q1)
 unfold jp
 dsimp only
 rw [if_neg (by decide)]
 by_cases h1 : 20 < (p1.length : Int)
 ·rw [if_pos h1, hT]
 rw [if_neg h1]
 by_cases h2 : 20 < (p2.length : Int)
 ·rw [if_pos h2, hT]
 rw [if_neg h2, he1, Option.bind_some]
 by_cases h3 : e1 ≠ 0
 ·rw [if_pos h3, hT]
 rw [if_neg h3, he2, Option.bind_some]
 have h3 : e1 = 0 := by simpa using h3
 by_cases h4 : e2 = 0
 ·have : decide (e2 ≠ 0) = false := decide_eq_false (by simp [h4])
  rw [this]
  exact hF (by omega) (by omega) h3 h4
 have : decide (e2 ≠ 0) = true := decide_eq_true h4
 rw [this, hT]
section
open Go Go.ChangeShapes Go.WideShapes Go.ChangeAt Go.RowKit
def Kept (W W' : World) : Prop := W'.os = W.os ∧ W'.output = W.output ∧ W.heap.size ≤ W'.heap.size ∧ ∀ b : Nat, b < W.heap.size → W'.heap[b]? = W.heap[b]?
theorem Kept.frame {W W' : World} (h : Kept W W') (may : MemPlace → Prop) : W.keptBut W' may := by
 refine ⟨h.1, h.2.1, fun i hi => ?_⟩
 rw [h.2.2.2 i hi]
 cases W.heap[i]? with
 | none => rfl
 | some o => cases o with
  | cells c t fr => exact ⟨rfl, rfl, rfl, fun _ _ => rfl⟩
  | map es clock => exact .inr ⟨rfl, rfl⟩
  | _ => rfl
theorem Kept.frozen {W W' : World} (h : Kept W W') (a : Addr) (ha : a.block < W.heap.size) : W'.frozen? a = W.frozen? a := by
 simp only [World.frozen?, h.2.2.2 _ ha]
def Mu.zero : Mu := { nx := 0, loc := fun _ => none, held := fun _ => False }
theorem SR.zero (W : World) : SR W Mu.zero [] :=
 ⟨(fun _ _ _ h => by cases h), (fun _ _ _ h => by cases h), (fun _ _ h => by cases h), (fun _ _ _ _ _ h => by cases h), (fun _ h => h.elim)⟩
theorem calls_of_pure {P : Program} {f : FuncId} {args : List HV} {vs : List Value} {W : World} (hp : Pure P f args (· = .bool true)) (hr : RepL W Mu.zero args vs) (hgl : GlOk W Mu.zero := by exact fun _ h => by cases h) :
  Calls P f vs.toArray W fun e W' => e = .returned (.bool true) ∧ Kept W W' := by
 refine (hp.2 Mu.zero W vs (SR.zero W) hr hgl).mono ?_
 rintro e W' ⟨v, r, H', μ', rfl, ⟨rfl, _, _⟩, hs, hv, E⟩
 have hv' : v = .bool true := hv
 subst hv'
 exact ⟨rfl, E.os, E.output, E.size, fun b hb => E.keep b hb fun ⟨_, _, hl⟩ => by cases hl⟩
theorem rep_string {W : World} {μ : Mu} (s : ByteArray) (h : s.size ≤ maxLen) : Rep W μ (.str s.data.toList) (.string s) := by
 refine ⟨by cases s; simp, ?_⟩
 have : s.data.toList.length = s.size := by simp
 omega
theorem post_of_kept {H : Type} {enc : TypeId × Value → H} {P : Program} {f : Func} {s : ChangeSpec} {apart fresh handsOn again : Bool} {W W' : World} {args : Array Value} {v : Value} {ds gs : List (DataW H)} {before pa pv : List MemPlace}
  (hW : DataW.Whole enc P f.params.toList s.vars apart W args.toList ds gs before)
  (hres : ∀ (b : Nat) (sp : Nat → Bool) (hd : Bool), DataW.TrodAll enc P W' b sp hd f.resultTypes.toList (v.resultList f.resultTypes.size) (s.fn H (ds ++ gs)).results [])
  (hargs : ∀ sp : Nat → Bool, (∀ p ∈ before, sp p.block = true) → DataW.TrodAll enc P W' 0 sp true f.params.toList args.toList (s.fn H (ds ++ gs)).args pa)
  (hvars : ∀ sp : Nat → Bool, (∀ p ∈ before, sp p.block = true) → DataW.TrodVars enc P W' sp s.vars (s.fn H (ds ++ gs)).vars pv)
  (hps : before = pa ++ pv) (hk : Kept W W')
  (hok : ∀ (j : Nat) (t : TypeId) (r : Value), f.resultTypes[j]? = some t → (v.resultList f.resultTypes.size)[j]? = some r → Value.okWide P W' .any 0 t r) :
  s.post enc P f apart fresh handsOn again W args v W' := by
 have hold : ∀ p ∈ before, (fun b => decide (b < W.heap.size)) p.block = true := fun p hp => by simpa using hW.lt p hp
 refine ⟨ds, gs, before, [], pa, pv, hW, hres _ _ _, hargs _ hold, hvars _ hold, World.keptBut_mono (fun p hp => ⟨hp, ?_⟩) (hk.frame (· ∈ before)), fun _ => ?_⟩
 ·rw [hps, List.mem_append] at hp
  exact Or.inr hp
 have hlt := hW.lt
 obtain ⟨_, _, _, _, _, hz, hn⟩ := hW
 refine ⟨hok, _, _, ([] ++ pa) ++ pv, ⟨[] ++ pa, pv, trodAll_append (hargs _ (fun _ _ => rfl)) (hres _ _ _), hvars _ (fun _ _ => rfl), rfl, ?_, ?_⟩, ?_⟩
 ·intro b off hp
  have hp' : MemPlace.cell b off ∈ before := by rw [hps]; simpa using hp
  rw [hk.frozen _ (hlt _ hp')]
  exact hz b off hp'
 ·intro ha
  have := hn ha
  rw [hps] at this
  simpa using this
 intro p hp _
 rw [hps]
 simpa using hp
end
theorem laid_tail {P : Program} {x : String × DataW Unit} {r : List (String × DataW Unit)} {w : World} (h : laidMet P (x :: r) w) : laidMet P r w := by
 obtain ⟨ps, hv, hn, hr⟩ := h
 obtain ⟨g, t, cs, fuel, p, q, _, _, _, _, hq, rfl⟩ := hv
 exact ⟨q, hq, hn.sublist (List.sublist_append_right _ _), fun b off hm => hr b off (List.mem_append_right _ hm)⟩
theorem tab_cell {P : Program} {W : World} {name : String} {l : List UInt8} {g : Nat} (h : Lib.TabIs P W name .u8 (l.map fun c => (c.toNat : Int))) (hg : P.globalNamed name = some g) (i : Nat) (c : UInt8) (hc : l[i]? = some c) : W.cell? ⟨g, i, none⟩ = some (.int .u8 (c.toNat : Int)) := by
 have hi : i < l.length := by
  refine Classical.byContradiction fun hn => ?_
  rw [List.getElem?_eq_none (by omega)] at hc
  cases hc
 rw [h.cell hg i (by rw [List.length_map]; exact hi), List.getD_eq_getElem?_getD, List.getElem?_map, hc]
 rfl
section
open Go Go.ChangeShapes Go.WideShapes Go.ChangeAt Go.RowKit
theorem rowAt_le {p : Program} {fits : TypeId → Bool} {d : Nat} {e : TypeId} {count off n : Nat} (h : rowAt p fits d e count off n = true) : off ≤ count * p.cellsOf e := by
 cases d with
 | zero => simp [rowAt] at h
 | succ d =>
  unfold rowAt at h
  simp only at h
  split at h
  ·cases h
  rename_i hs
  have hs' : 0 < p.cellsOf e := Nat.pos_of_ne_zero hs
  have hd := Nat.div_add_mod off (p.cellsOf e)
  rw [Nat.mul_comm] at hd
  simp only [Bool.or_eq_true, Bool.and_eq_true, beq_iff_eq, decide_eq_true_eq] at h
  rcases h with ⟨⟨h0, h1⟩, _⟩ | ⟨h1, _⟩
  ·rw [← hd, h0, Nat.add_zero]
   exact Nat.mul_le_mul_right _ (by omega)
  have hm := Nat.mod_lt off hs'
  have : (off / p.cellsOf e + 1) * p.cellsOf e ≤ count * p.cellsOf e := Nat.mul_le_mul_right _ h1
  rw [Nat.add_mul] at this
  omega
theorem liesAt_le {p : Program} {d : Nat} {e u : TypeId} {count off n : Nat} (h : liesAt p d e count off u n = true) : off ≤ count * p.cellsOf e := by
 induction d generalizing u n with
 | zero => simp [liesAt] at h
 | succ d ih =>
  unfold liesAt at h
  rw [Bool.or_eq_true] at h
  rcases h with h | h
  ·exact rowAt_le h
  split at h
  ·exact ih h
  cases h
theorem has_seg {P : Program} {W : World} {r : Reach} {base : Nat} {a : Addr} {e : TypeId} {cap : Nat} (h : W.has P r base a e cap) {vs : List Value} (hc : ∀ i (hi : i < vs.length), W.cell? (a.add i) = some vs[i]) :
  ∃ b off, a = ⟨b, off, none⟩ ∧ Seg W b off vs := by
 obtain ⟨_, hsp, row, cells, hsh, hl⟩ := h
 obtain ⟨b, off, spot⟩ := a
 dsimp only at hsp hsh hl
 subst hsp
 refine ⟨b, off, rfl, ?_⟩
 unfold World.shape? at hsh
 split at hsh
 ·rename_i cur e' fr hb
  simp only [Option.some.injEq, Prod.mk.injEq] at hsh
  obtain ⟨rfl, rfl⟩ := hsh
  have hoff : off ≤ cur.size := Nat.le_trans (liesAt_le hl) (Nat.div_mul_le_self _ _)
  have hget : ∀ i (hi : i < vs.length), cur.toList[off + i]? = some vs[i] := fun i hi => by
   have := hc i hi
   rw [add_plain] at this
   unfold World.cell? at this
   rw [hb] at this
   simpa using this
  refine ⟨cur, e', fr, cur.toList.take off, cur.toList.drop (off + vs.length), hb, ?_, by simp [hoff]⟩
  have hvs : vs = (cur.toList.drop off).take vs.length := by
   apply List.ext_getElem?
   intro i
   rcases Nat.lt_or_ge i vs.length with hi | hi
   ·rw [List.getElem?_take_of_lt hi, List.getElem?_drop, hget i hi, List.getElem?_eq_getElem hi]
   rw [List.getElem?_eq_none hi, List.getElem?_eq_none (by simp; omega)]
  have : vs ++ cur.toList.drop (off + vs.length) = cur.toList.drop off := by
   conv => lhs; arg 1; rw [hvs]
   rw [← List.drop_drop]
   exact List.take_append_drop _ _
  rw [List.append_assoc, this, List.take_append_drop]
 cases hsh
theorem nown (b : Nat) : ¬ Mu.zero.owns b := fun h => h.elim (fun ⟨_, _, h⟩ => by cases h) id
theorem trodAll_stays {H : Type} {enc : TypeId × Value → H} {P : Program} (hl : laidOutB P = true) {W W' : World} {sp : Nat → Bool} : ∀ {ts : List TypeId} {vs : List Value} {ds : List (DataW H)} {ps : List MemPlace},
  (ts.all fun t => P.readableRec t && decide (t < P.types.size)) = true → DataW.TrodAll enc P W 0 (fun _ => true) true ts vs ds ps → (∀ p ∈ ps, W.sameAt W' p) → (∀ p ∈ ps, sp p.block = true) → DataW.TrodAll enc P W' 0 sp true ts vs ds ps
 | [], vs, ds, ps, _, h, _, _ => by
  obtain ⟨rfl, rfl, rfl⟩ := trodAll_nil h
  exact trodAll_mk0
 | t :: ts, vs, ds, ps, ht, h, h1, h2 => by
  obtain ⟨v, vs', d, ds', p, q, rfl, rfl, rfl, h3, h4⟩ := trodAll_cons h
  simp only [List.all_cons, Bool.and_eq_true, decide_eq_true_eq] at ht
  exact trodAll_cons_mk (WideElems.Trod_stays hl ht.1.1 ht.1.2 h3 (fun x hx => h1 x (List.mem_append_left _ hx)) (fun x hx => h2 x (List.mem_append_left _ hx)))
   (trodAll_stays hl ht.2 h4 (fun x hx => h1 x (List.mem_append_right _ hx)) (fun x hx => h2 x (List.mem_append_right _ hx)))
theorem Kept.same {W W' : World} (h : Kept W W') (p : MemPlace) (hp : p.block < W.heap.size) : W.sameAt W' p := by
 cases p with
 | cell b off =>
  show W'.cell? ⟨b, off, none⟩ = W.cell? ⟨b, off, none⟩
  unfold World.cell?
  rw [h.2.2.2 b hp]
 | map b => exact h.2.2.2 b hp
theorem post_of_true {H : Type} {enc : TypeId × Value → H} {P : Program} {f : Func} {s : ChangeSpec} {apart fresh handsOn again : Bool} {W W' : World} {args : Array Value} {ds gs : List (DataW H)} {before : List MemPlace} {t : TypeId}
  (hl : laidOutB P = true) (hps : (f.params.toList.all fun t => P.readableRec t && decide (t < P.types.size)) = true) (hres : f.resultTypes = #[t]) (ht : P.underlying t = some .bool) (hv : s.vars = [])
  (hW : DataW.Whole enc P f.params.toList s.vars apart W args.toList ds gs before) (hk : Kept W W')
  (h1 : (s.fn H (ds ++ gs)).results = [.lit (.bool true)]) (h2 : (s.fn H (ds ++ gs)).args = ds) (h3 : (s.fn H (ds ++ gs)).vars = []) :
  s.post enc P f apart fresh handsOn again W args (.bool true) W' := by
 have hlt := hW.lt
 have hW' := hW
 obtain ⟨p, q, hA, hV, rfl, _, _⟩ := hW
 rw [hv] at hV
 obtain ⟨rfl, rfl⟩ := trodVars_none hV
 refine post_of_kept (pa := p) (pv := []) hW' (fun _ _ _ => ?_) (fun sp hsp => ?_) (fun _ _ => ?_) (by simp) hk (ok_one hres rfl (okWide_bool_mk ht _))
 ·rw [hres, h1]
  exact trodAll_cons_mk (shut_bool ht _) trodAll_mk0
 ·rw [h2]
  exact trodAll_stays hl hps hA (fun x hx => hk.same x (hlt x (by simpa using hx))) (fun x hx => hsp x (by simpa using hx))
 rw [h3, hv]
 rfl
end
section
open Go Go.ChangeShapes Go.WideShapes Go.ChangeAt Go.RowKit
section
variable {H : Type} {enc : TypeId × Value → H} {P : Program} {W : World} {base : Nat}
theorem repL_app {μ : Mu} : ∀ {hs ks : List HV} {vs us : List Value}, RepL W μ hs vs → RepL W μ ks us → RepL W μ (hs ++ ks) (vs ++ us)
 | [], _, _, _, h, h' => by cases h; exact h'
 | _ :: _, _, _, _, ⟨x, xs, rfl, h1, h2⟩, h' => ⟨x, _, rfl, h1, repL_app h2 h'⟩
theorem add_adds (a : Addr) (i j : Nat) : (a.add i).add j = a.add (i + j) := by
 unfold Addr.add
 repeat' split
 all_goals simp_all [Nat.add_assoc]
theorem open_rows {α : Type} (c : EncL α) {fuel : Nat} {t e : TypeId} {cs : List Value} {x : DataW H × List MemPlace} (ht : P.underlying t = some (.slice e)) (hk : P.cellsOf e = c.k) (hone : ∀ x, ones (c.C x))
  (hel : ∀ n cs y, DataW.trod enc P W 0 (fun _ => true) true n e cs = some y → ∃ x : α, RepL W Mu.zero (c.C x) cs)
  (hhas : ∀ a len cap, cs = [.slice (some a) len cap] → W.has P .any base a e cap) (h : DataW.trod enc P W 0 (fun _ => true) true fuel t cs = some x) : ∃ l : List α, RepL W Mu.zero [slE c l] cs := by
 rcases DataW.trod_slice ht h with ⟨rfl, _⟩ | ⟨a, len, cap, elems, rest, n, _, rfl, _, _, hl, hm, hlen, hel', _, _⟩
 ·refine ⟨[], _, _, rfl, ?_, rfl⟩
  show _ ∧ _
  exact ⟨(by rw [c.nil]; exact fun _ h => nomatch h), (by rw [c.nil]; simp), Nat.zero_le _, .inl ⟨rfl, none, rfl⟩⟩
 have each : ∀ i, i < len → ∃ cs' x, W.cells? 0 (a.add (i * c.k)) c.k = some cs' ∧ RepL W Mu.zero (c.C x) cs' := fun i hi => by
  have h1 := hel' i hi
  rw [List.getElem?_eq_getElem (by omega), Option.bind_eq_some_iff, hk] at h1
  obtain ⟨cs', h2, h3⟩ := h1
  obtain ⟨x, hx⟩ := hel _ _ _ h3
  exact ⟨cs', x, h2, hx⟩
 have build : ∀ m, m ≤ len → ∃ (l : List α) (vs : List Value), l.length = m ∧ vs.length = m * c.k ∧ RepL W Mu.zero (c.E l) vs ∧ ∀ i (hi : i < vs.length), W.cell? (a.add i) = some vs[i] := by
  intro m
  induction m with
  | zero => exact fun _ => ⟨[], [], rfl, by simp, by rw [c.nil]; rfl, fun i hi => by simp at hi⟩
  | succ m ih =>
   intro hm
   obtain ⟨l, vs, h1, h2, h3, h4⟩ := ih (by omega)
   obtain ⟨cs', x, h5, h6⟩ := each m (by omega)
   obtain ⟨_, h7, h8⟩ := World.cells?_some h5
   refine ⟨l ++ [x], vs ++ cs', by simp [h1], by rw [List.length_append, h2, h7, Nat.succ_mul], by rw [c.append, c.one]; exact repL_app h3 h6, fun i hi => ?_⟩
   rcases Nat.lt_or_ge i vs.length with hi' | hi'
   ·rw [List.getElem_append_left hi']; exact h4 i hi'
   rw [List.getElem_append_right hi']
   rw [List.length_append] at hi
   have := h8 (i - vs.length) (by omega)
   rw [add_adds, h2, show m * c.k + (i - m * c.k) = i by omega] at this
   rw [this, List.getElem?_eq_getElem (by omega)]
   simp only [h2]
 obtain ⟨l, vs, h1, h2, h3, h4⟩ := build len (Nat.le_refl _)
 obtain ⟨b, off, rfl, hseg⟩ := has_seg (hhas _ _ _ rfl) h4
 refine ⟨l, _, _, rfl, ?_, rfl⟩
 show _ ∧ _
 refine ⟨fun d hd => ?_, c.len l, by omega, .inr ⟨b, off, cap, vs, by rw [h1], by omega, nown b, hseg, h3⟩⟩
 rw [c.hE] at hd
 obtain ⟨x, _, hdx⟩ := List.mem_flatMap.1 hd
 exact hone x d hdx
theorem rep_i64 {n : Int} {ti : TypeId} {m : Nat} {v : Value} {y : DataW H × List MemPlace} (hti : P.underlying ti = some (.int .i64)) (h : DataW.trod enc P W 0 (fun _ => true) true m ti [v] = some y) : ∃ n : Int, Rep W Mu.zero (.int .i64 n) v := by
 obtain ⟨n, hv, _, hw⟩ := DataW.trod_int hti h
 cases hv
 exact ⟨n, rfl, hw⟩
end
end
section
open Go Go.ChangeShapes Go.WideShapes Go.ChangeAt Go.RowKit
section
variable {H : Type} {enc : TypeId × Value → H} {P : Program} {W : World} {base : Nat}
end
end
section
open Go Go.ChangeShapes Go.WideShapes Go.ChangeAt Go.RowKit
section
variable {H : Type} {enc : TypeId × Value → H} {P : Program} {W : World} {base : Nat}
end
end
section
open Go Go.ChangeShapes Go.WideShapes Go.ChangeAt Go.RowKit
section
variable {H : Type} {enc : TypeId × Value → H} {P : Program} {W : World} {base : Nat}
theorem open2 {t : TypeId} {f0 f1 : Field} {fuel : Nat} {cs : List Value} {x : DataW H × List MemPlace} (ht : P.underlying t = some (.struct #[f0, f1])) (o0 : f0.offset = 0) (o1 : f1.offset = 1) (c : P.cellsOf t = 2)
  (c0 : P.cellsOf f0.type = 1) (c1 : P.cellsOf f1.type = 1) (h : DataW.trod enc P W 0 (fun _ => true) true fuel t cs = some x) :
  ∃ v0 v1 y0 y1 n, cs = [v0, v1] ∧ DataW.trod enc P W 0 (fun _ => true) true n f0.type [v0] = some y0 ∧ DataW.trod enc P W 0 (fun _ => true) true n f1.type [v1] = some y1 := by
 obtain ⟨xs, n, _, rfl, hl, hlen, hf⟩ := DataW.trod_struct ht h
 rw [c] at hl
 match cs, hl with
 | [v0, v1], _ =>
  match xs, hlen with
  | [y0, y1], _ =>
   refine ⟨v0, v1, y0, y1, n, rfl, ?_, ?_⟩
   ·have := hf 0 f0 rfl; rw [o0, c0] at this; exact this
   have := hf 1 f1 rfl; rw [o1, c1] at this; exact this
end
end
section
open Go Go.ChangeShapes Go.WideShapes Go.ChangeAt Go.RowKit
section
variable {H : Type} {enc : TypeId × Value → H} {P : Program} {W : World} {base : Nat}
theorem open_code {t ti ts te : TypeId} {f0 f1 : Field} {v : Value} {d : DataW H} {ps : List MemPlace} (ht : P.underlying t = some (.struct #[f0, f1])) (o : f0.offset = 0 ∧ f1.offset = 1) (y : f0.type = ti ∧ f1.type = ts)
  (c : P.cellsOf t = 2) (ci : P.cellsOf ti = 1) (cs : P.cellsOf ts = 1) (ct : P.cellTypes P.depth t = some [ti, ts]) (hti : P.underlying ti = some (.int .i64)) (hts : P.underlying ts = some (.slice te)) (hte : P.underlying te = some .string) (ce : P.cellsOf te = 1)
  (hval : Value.okWide P W .any base t v) (h : DataW.Trod enc P W 0 (fun _ => true) true t v d ps) : ∃ g : Int × List (List UInt8), Rep W Mu.zero (.agg [.int .i64 g.1, slE eStr g.2]) v := by
 obtain ⟨y0, y1⟩ := y
 simp only [Value.okWide, ht] at hval
 obtain ⟨arr, rfl, _, hrow⟩ := hval
 obtain ⟨fuel, hf⟩ := h
 obtain ⟨v0, v1, a0, a1, n, hcs, h0, h1⟩ := open2 ht o.1 o.2 c (by rw [y0]; exact ci) (by rw [y1]; exact cs) hf
 have harr : arr = #[v0, v1] := by
  have : arr.toList = [v0, v1] := hcs
  cases arr
  simp_all
 subst harr
 rw [y0] at h0
 rw [y1] at h1
 obtain ⟨l, r0⟩ := rep_i64 (n := 0) hti h0
 obtain ⟨tys, ht1, _, hcell⟩ := hrow
 rw [ct] at ht1
 cases ht1
 obtain ⟨k, _, _, r1, r1', _⟩ := open_rows (base := base) eStr hts ce (fun x d hd => by
   have hd : d ∈ [HV.str x] := hd
   simp only [List.mem_cons, List.not_mem_nil, or_false] at hd
   subst hd; rfl) (fun m cs' y hy => by
   obtain ⟨s, rfl, _, hz⟩ := DataW.trod_string hte hy
   exact ⟨s.data.toList, _, _, rfl, rep_string s hz, rfl⟩) (fun a len cap e => by
   cases e
   obtain ⟨u, hu, hok⟩ := hcell 1 (.slice (some a) len cap) rfl
   cases hu
   simp only [Cell.okWide, hts, Cell.ok] at hok
   exact hok.2.2) h1
 cases r1
 refine ⟨(l, k), ?_⟩
 show _ ∧ _
 refine ⟨fun d hd => ?_, _, rfl, _, _, rfl, r0, _, _, rfl, r1', rfl⟩
 simp only [List.mem_cons, List.not_mem_nil, or_false] at hd
 rcases hd with rfl | rfl <;> rfl
end
end
end Go.AW
namespace Go.Proofs.YtnfbggalhcceoaaDoor
open Go Go.AW Go.ChangeShapes Go.WideShapes Go.ChangeAt Go.RowKit Go.ChangeMaps
set_option linter.unusedVariables false
theorem ownM : ownKnob Tryd.prog.godebug = none := by kernel_rfl
theorem laidB : laidOutB Tryd.prog = true := by kernel_rfl
theorem wLaw (a0 : TLettersWords) (a1 : List UInt8) (a2 : List UInt8) : Pure Tryd.prog 3 [HV.agg [HV.int .i64 a0.1, slE eStr a0.2], .str a1, .str a2] (· = .bool true) := w_top_TopResetParsers (law45 a0 a1 a2)
theorem glT {W : World} (h : laidMetH Tryd.prog Rows.topResetParsersRow.laid W) : GlOk W Mu.zero := by
 rw [MakeChecks.laidMetH_plain _ _ _ (by kernel_rfl)] at h
 have e : Rows.topResetParsersRow.laid = [("math/bits.deBruijn32tab", Rows.laid_math_bits_deBruijn32tab), ("math/bits.deBruijn64tab", Lib.tabData .u8 (tab64.map fun c => (c.toNat : Int)))] := by kernel_rfl
 rw [e] at h
 have hg : Tryd.prog.globalNamed "math/bits.deBruijn64tab" = some 2 := by kernel_rfl
 have hT := Lib.tabIs_of_head hg (by kernel_rfl) Tryd.underlying117 Tryd.underlying5 (by kernel_rfl) (by kernel_rfl) (laid_tail h)
 refine ⟨(fun g hg => nomatch hg), fun p hp i c hc => ?_⟩
 obtain rfl : p = (2, tab64) := by simpa [gTabs] using hp
 exact ⟨tab_cell hT hg i c hc, fun ⟨_, _, h⟩ => by cases h⟩
set_option maxRecDepth 100000 in
theorem liftedL (os : Os) (started : os.Started) (H : Type) (enc : TypeId × Value → H) :
  ReturnsInHanded {} Tryd.checked os 3 .any (fun w args => (Rows.topResetParsersSpec.pre enc Tryd.prog Tryd.f3 [] false w args ∧ laidMetH Tryd.prog Rows.topResetParsersRow.laid w) ∧ sizedMet enc Tryd.prog Tryd.f3 (OpenSpec.ofChange Rows.topResetParsersSpec) false w args) (Rows.topResetParsersSpec.post enc Tryd.prog Tryd.f3 false true false false) := by
 refine returnsInHanded_of_change_and (C := Tryd.checked) (X := fun w _ => laidMetH Tryd.prog Rows.topResetParsersRow.laid w) (fun _ _ _ hh h => h.of_heap hh) ownM started (by kernel_rfl) Tryd.func3
  (ChangeSpec.witness_shaped (enc := enc) (C := Tryd.checked) (os := os) (X := fun w _ => laidMetH Tryd.prog Rows.topResetParsersRow.laid w) false (World.laidAll Tryd.prog os Rows.topResetParsersRow.laid) #[.agg #[.int .i64 0, .slice none 0 0], .string ⟨#[]⟩, .string ⟨#[]⟩] 8 (World.laidAll_os _ _ _)
   (World.shaped_of_ZipB (by kernel_rfl) (by kernel_rfl)) (by kernel_rfl) (by kernel_rfl) (by kernel_rfl)
   (by rw [MakeChecks.laidMetH_plain _ _ _ (by kernel_rfl)]; exact laidMet_laidAll _ (by kernel_rfl) (by kernel_rfl))) ?_
 intro W base args ds gs before hval0 hW hcnd _ hL _
 have hval : ∀ (j : Nat) t v, Tryd.f3.params[j]? = some t → args[j]? = some v → Value.okWide Tryd.prog W .any base t v := hval0
 have hW' := hW
 obtain ⟨p, q, hA0, hV, rfl, hfz, hnd⟩ := hW
 have hA : DataW.TrodAll enc Tryd.prog W 0 (fun _ => true) true Tryd.f3.params.toList args.toList ds p := hA0
 rw [Tryd.params3] at hA hval
 obtain ⟨v0, vs0, d0, ds0, p0, q0, hargs, rfl, rfl, h0, r0⟩ := trodAll_cons hA
 obtain ⟨v1, vs1, d1, ds1, p1, q1, rfl, rfl, rfl, h1, r1⟩ := trodAll_cons r0
 obtain ⟨v2, vs2, d2, ds2, p2, q2, rfl, rfl, rfl, h2, r2⟩ := trodAll_cons r1
 obtain ⟨rfl, rfl, rfl⟩ := trodAll_nil r2
 obtain rfl : args = #[v0, v1, v2] := by cases args; simp_all
 obtain ⟨rfl, rfl⟩ := trodVars_none hV
 obtain ⟨a0, hr0⟩ := open_code Tryd.underlying24 ⟨rfl, rfl⟩ ⟨rfl, rfl⟩ (by kernel_rfl) (by kernel_rfl) (by kernel_rfl) (by kernel_rfl) Tryd.underlying3 Tryd.underlying22 Tryd.underlying9 (by kernel_rfl) (hval 0 24 v0 rfl rfl) h0
 obtain ⟨s1, rfl, _, _, l1⟩ := open_string Tryd.underlying9 (hval 1 9 v1 rfl rfl) h1
 obtain ⟨s2, rfl, _, _, l2⟩ := open_string Tryd.underlying9 (hval 2 9 v2 rfl rfl) h2
 refine (calls_of_pure (hgl := glT hL) (vs := [v0, .string s1, .string s2]) (wLaw a0 s1.data.toList s2.data.toList) ⟨_, _, rfl, hr0, _, _, rfl, rep_string s1 l1, _, _, rfl, rep_string s2 l2, rfl⟩).mono fun e W' ⟨he, hk⟩ => ?_
 subst he
 exact ⟨_, rfl, post_of_true laidB (by kernel_rfl) rfl Tryd.underlying4 rfl hW' hk rfl rfl rfl⟩
theorem topResetParsersProved : Rows.TopResetParsersSaid :=
 OpenClaim.holds_of_wide 3 Tryd.f3 rfl rfl rfl rfl rfl rfl rfl ⟨rfl, rfl, rfl, rfl, rfl⟩ rfl rfl rfl rfl rfl (by kernel_rfl) Tryd.func3 (by kernel_rfl)
  (of_decide_eq_true (by kernel_rfl)) (by unfold Func.isWrapper; first | (rw [if_pos (by decide +kernel)]; kernel_rfl) | (rw [if_neg (by decide +kernel)]; exact ⟨rfl, rfl⟩))
  (fun os started H enc _ => liftedL os started H enc)
theorem topResetParsersCardProved : Rows.TopResetParsersCardSaid :=
 Claim7.holds_tied_plain_at .later [] [.data, .data] true (true, "2eb7cacd1ba3489c6db7e1a2c0bb87b3466afac83b9c9f6ff1121f7cf8cfe88b") false topResetParsersProved (fun _ h => by cases h) (by kernel_rfl) (fun _ h => by cases h) topResetParsers_row_tie rfl ⟨rfl, rfl⟩ (by kernel_rfl) rfl
  (fun f fn hf hfn => by
   obtain rfl : f = 3 := Option.some.inj ((show Tryd.prog.funcNamed "groove/groovetop.TopResetParsers" = some 3 by kernel_rfl).symm.trans hf) |>.symm
   obtain rfl : fn = Tryd.f3 := (Option.some.inj (Tryd.func3.symm.trans hfn)).symm
   exact ⟨by kernel_rfl, fun j t ht => by
    rw [Tryd.params3] at ht
    have hm : t ∈ [24, 9, 9] := by simpa using Array.mem_of_getElem? ht
    have hall : ([24, 9, 9].all fun u => !Tryd.prog.wantsStandIn u) = true := by kernel_rfl
    exact (show Tryd.prog.wantsStandIn t = false by simpa using List.all_eq_true.1 hall t hm)⟩)
  (by kernel_rfl)
#print axioms topResetParsersCardProved
end Go.Proofs.YtnfbggalhcceoaaDoor
