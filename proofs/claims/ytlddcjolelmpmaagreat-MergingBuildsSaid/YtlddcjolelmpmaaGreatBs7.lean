/- MergingBuilds: for every input the law's function returns true, and the input reads as it did. -/
import Derived.Test.YtlddcjolelmpmaaGreatBs6
import Derived.ChangeMaps5
import Derived.OpenShut
import Derived.ProofKit
import Derived.SliceStrings
import Derived.Test.YtlddcjolelmpmaaGreatRows
import Derived.WalkKit
import Derived.WideKeyArgs
set_option linter.unusedSimpArgs false
set_option linter.unusedVariables false
namespace Go.AW
open Go Go.Proofs
set_option maxHeartbeats 1600000
set_option maxRecDepth 100000
theorem qjl {p0 : qaa} {r : (List (List (Int))) × Int} (h : qef p0 = some r) : Pure Tryz.prog 149 [gA p0] (· = HV.tup [slE (eSl eInt) r.1, hI r.2]) := by
 unfold qef at h
 refine zaj Tryz.func149 rfl rfl (lb rfl) fun hf => ?_
 unfold Tryz.f149
 dsimp only [qaH, Nat.reduceAdd]
 refine zaa rfl fun K hK => b_op rfl (qa5 rfl rfl rfl ?_)
 refine mv rfl rfl (mv rfl rfl ?_)
 let P1 : ASf := fun t H => ⟨(1, gF p0) :: t, H⟩
 refine bf hK (P1 [] []) ?_
 refine zad ?_
 refine zaa rfl fun K hK => bv rfl (qab ty27 rfl (qav rfl (lb rfl) rfl)) ?_
 obtain ⟨x1, h2, h⟩ := bS h
 refine b_op rfl (qaB rfl rfl rfl rfl (zai (qd4 h2)) ?_)
 refine bv rfl (qae rfl rfl qcL) ?_
 refine bf hK (P1 [(13, .bool (decide (x1 ≠ 0)))] []) ?_
 refine zae rfl (fun hc => ?_) (fun hc => ?_)
 ·obtain ⟨hc, h⟩ := cT hc h
  refine zaa rfl fun K hK => b_op rfl (qfE (fid := 149) 149014 rfl rfl rfl (qbV (cs := []) qcK ty31 rfl rfl rfl rfl rfl) (fun v3 => ?_))
  refine mv rfl rfl (mv rfl rfl ?_)
  refine bf hK ⟨[(2, .ar 149014 v3 (eSl eInt).k 0 0), (3, hI 1)], [(149014, v3, .arr (eSl eInt).k 31 [])]⟩ ?_
  refine AW.to (qdN 2 [(149014, v3, .arr (eSl eInt).k 31 [])] ⟨[(2, slE (eSl eInt) []), (3, hI 1)], []⟩ ⟨⟨_, rfl, qbw (eSl eInt) (l := []) rfl fun _ _ => rfl⟩, ⟨_, rfl, rfl⟩, trivial⟩ trivial ⟨rfl, trivial⟩ ⟨rfl, trivial⟩ ?_)
  obtain rfl := oi h
  exact AW.ret (qad (.inr rfl) (resT rfl (resT rfl rfl)) rfl ⟨(qai fun _ _ => ⟨(qai fun _ _ => ⟨trivial, trivial⟩), trivial⟩), trivial, trivial⟩)
 obtain ⟨hc, h⟩ := cF hc h
 refine zac ?_
 refine zaa rfl fun K hK => b_op rfl (qfE (fid := 149) 149015 rfl rfl rfl (qbV (cs := []) qhO qdM rfl rfl rfl rfl rfl) (fun v4 => ?_))
 refine mv rfl rfl ?_
 refine bf hK (P1 [(4, .ar 149015 v4 (eSl eBool).k 0 0)] [(149015, v4, .arr (eSl eBool).k 189 [])]) ?_
 refine zad ?_
 refine zaa rfl fun K hK => mv rfl rfl ?_
 refine bf hK (P1 [(4, .ar 149015 v4 (eSl eBool).k 0 0), (5, hI 0)] [(149015, v4, .arr (eSl eBool).k 189 [])]) ?_
 refine AW.lpX h (by first | exact qaG | exact qbp) (S := Int × (List (List (Bool)))) (V := Nat) (fun a v => (P1 [(4, .ar 149015 v (eSl eBool).k 0 ((a.2).length)), (5, hI a.1)] [(149015, v, .arr (eSl eBool).k 189 ((eSl eBool).E a.2))])) ?_ (X := (List (List (Bool)))) (W := Nat) (fun a v => (P1 [(4, .ar 149015 v (eSl eBool).k 0 ((a).length))] [(149015, v, .arr (eSl eBool).k 189 ((eSl eBool).E a))])) (fun a13 w14 h => ?_) (fun a5 w6 st7 h => ?_)
 ·exact to_L ⟨v4, rfl⟩
 ·refine zaa rfl fun K hK => b_op rfl (qfE (fid := 149) 149028 rfl rfl rfl (qbV (cs := []) qcK ty31 rfl rfl rfl rfl rfl) (fun v15 => ?_))
  refine mv rfl rfl ?_
  let E1 : Nat × HV := (4, .ar 149015 w14 (eSl eBool).k 0 ((a13).length))
  let O2 : Nat × Nat × AObj := (149015, w14, .arr (eSl eBool).k 189 ((eSl eBool).E a13))
  refine bf hK (P1 [E1, (6, .ar 149028 v15 (eSl eInt).k 0 0)] [O2, (149028, v15, .arr (eSl eInt).k 31 [])]) ?_
  refine zad ?_
  refine zaa rfl fun K hK => mv rfl rfl ?_
  refine bf hK (P1 [E1, (6, .ar 149028 v15 (eSl eInt).k 0 0), (7, hI 0)] [O2, (149028, v15, .arr (eSl eInt).k 31 [])]) ?_
  refine AW.lpX h (by first | exact qaG | exact qbp) (S := Int × (List (List (Int)))) (V := Nat) (fun a v => (P1 [E1, (6, .ar 149028 v (eSl eInt).k 0 ((a.2).length)), (7, hI a.1)] [O2, (149028, v, .arr (eSl eInt).k 31 ((eSl eInt).E a.2))])) ?_ (X := (List (List (Int)))) (W := Nat) (fun a v => ⟨[(6, .ar 149028 v (eSl eInt).k 0 ((a).length))], [(149028, v, .arr (eSl eInt).k 31 ((eSl eInt).E a))]⟩) (fun a54 w55 h => ?_) (fun a16 w17 st18 h => ?_)
  ·exact to_L ⟨v15, rfl⟩
  ·refine zaa rfl fun K hK => mv rfl rfl (mv rfl rfl (mv rfl rfl ?_))
   refine bf hK ⟨[(2, .ar 149028 w55 (eSl eInt).k 0 ((a54).length)), (3, hI 0)], [(149028, w55, .arr (eSl eInt).k 31 ((eSl eInt).E a54))]⟩ ?_
   refine AW.to (qdN 2 [(149028, w55, .arr (eSl eInt).k 31 ((eSl eInt).E a54))] ⟨[(2, slE (eSl eInt) a54), (3, hI 0)], []⟩ ⟨⟨_, rfl, qbw (eSl eInt) (l := a54) rfl fun _ _ => rfl⟩, ⟨_, rfl, rfl⟩, trivial⟩ trivial ⟨rfl, trivial⟩ ⟨rfl, trivial⟩ ?_)
   obtain rfl := oi h
   exact AW.ret (qad (.inr rfl) (resT rfl (resT rfl rfl)) rfl ⟨(qai fun _ _ => ⟨(qai fun _ _ => ⟨trivial, trivial⟩), trivial⟩), trivial, trivial⟩)
  refine zad ?_
  refine zaa rfl fun K hK => mv rfl rfl (bv rfl (qac qcp rfl) (bv rfl (qab ty3 rfl (qan rfl rfl)) (bv rfl (qae rfl rfl qaV) ?_)))
  let E3 : Nat × HV := (6, .ar 149028 w17 (eSl eInt).k 0 ((a16.2).length))
  let O4 : Nat × Nat × AObj := (149028, w17, .arr (eSl eInt).k 31 ((eSl eInt).E a16.2))
  refine bf hK (P1 [E1, E3, (7, hI a16.1), (32, .bool (decide (a16.1 < p0.2.1)))] [O2, O4]) ?_
  refine zae rfl (fun hc => ?_) (fun hc => ?_)
  ·obtain ⟨hc, h⟩ := cT hc h
   refine zac ?_
   refine zag h (S := (List (List (Int)))) (V := Nat) (fun a v => (P1 [E1, (6, .ar 149028 v (eSl eInt).k 0 ((a).length)), (7, hI a16.1)] [O2, (149028, v, .arr (eSl eInt).k 31 ((eSl eInt).E a))])) (fun a20 w21 h => ?_) (fun k22 h => ?_)
   ·refine zab rfl fun K hK => mv rfl rfl (bv rfl (qae rfl rfl qa6) (mv rfl rfl ?_))
    refine qah (hK _ ?_)
    exact to_L ⟨(IntKind.wrap .i64 (a16.1 + 1), a20), w21, h, rfl⟩
   refine zaf ?_
   refine zaa rfl fun K hK => b_op rfl (qfE (fid := 149) 149035 rfl rfl rfl (qbV (cs := []) ty31 ty3 rfl rfl rfl rfl rfl) (fun v23 => ?_))
   refine mv rfl rfl (mv rfl rfl ?_)
   refine bf hK (P1 [E1, E3, (7, hI a16.1), (8, .ar 149035 v23 eInt.k 0 0), (9, .bool true)] [O2, O4, (149035, v23, .arr eInt.k 3 [])]) ?_
   refine zad ?_
   refine zaa rfl fun K hK => mv rfl rfl ?_
   refine bf hK (P1 [E1, E3, (7, hI a16.1), (8, .ar 149035 v23 eInt.k 0 0), (9, .bool true), (10, hI 0)] [O2, O4, (149035, v23, .arr eInt.k 3 [])]) ?_
   refine AW.lpX h (by first | exact qaG | exact qbp) (S := Bool × Int × (List Int)) (V := Nat) (fun a v => (P1 [E1, E3, (7, hI a16.1), (8, .ar 149035 v eInt.k 0 ((a.2.2).length)), (9, .bool a.1), (10, hI a.2.1)] [O2, O4, (149035, v, .arr eInt.k 3 (eInt.E a.2.2))])) ?_ (X := (List Int) × Bool) (W := Nat) (fun a v => (P1 [E1, E3, (7, hI a16.1), (8, .ar 149035 v eInt.k 0 ((a.1).length)), (9, .bool a.2)] [O2, O4, (149035, v, .arr eInt.k 3 (eInt.E a.1))])) (fun a50 w51 h => ?_) (fun a24 w25 st26 h => ?_)
   ·exact to_L ⟨v23, rfl⟩
   ·refine zaa rfl fun K hK => mv rfl rfl ?_
    refine bf hK (P1 [E1, E3, (7, hI a16.1), (8, .ar 149035 w51 eInt.k 0 ((a50.1).length)), (68, .bool a50.2)] [O2, O4, (149035, w51, .arr eInt.k 3 (eInt.E a50.1))]) ?_
    refine zae rfl (fun hc => ?_) (fun hc => ?_)
    ·have h := ifT hc h
     refine AW.to (qdN 2 [(149035, w51, .arr eInt.k 3 (eInt.E a50.1))] (P1 [E1, E3, (7, hI a16.1), (8, slE eInt a50.1), (68, .bool a50.2)] [O2, O4]) ⟨⟨_, rfl, rfl⟩, ⟨_, rfl, rfl⟩, ⟨_, rfl, rfl⟩, ⟨_, rfl, rfl⟩, ⟨_, rfl, qbw eInt (l := a50.1) rfl fun _ _ => rfl⟩, ⟨_, rfl, rfl⟩, trivial⟩ ⟨rfl, rfl, trivial⟩ ⟨rfl, trivial⟩ ⟨rfl, trivial⟩ ?_)
     refine zab rfl fun K hK => mv rfl rfl (mv rfl rfl ?_)
     refine b_op rfl (qdX rfl rfl (qbV (cs := [slE eInt a50.1]) qcK ty31 rfl rfl rfl rfl rfl) ?_)
     obtain ⟨h53, h⟩ := ifN h
     refine b_op rfl (qdh (eSl eInt) (l := a16.2) (m := [a50.1]) rfl rfl qcK qcK ty31 rfl rfl rfl rfl rfl h53 (fun v52 => ?_))
     refine mv rfl rfl ?_
     refine qah (hK _ ?_)
     exact to_L ⟨a16.2 ++ [a50.1], v52, h, rfl⟩
    have h := ifF (bF' hc) h
    refine zac ?_
    exact to_L ⟨a16.2, w17, h, rfl⟩
   refine zad ?_
   refine zaa rfl fun K hK => mv rfl rfl (bv rfl (qac qcp rfl) (bv rfl (qab ty3 rfl (qan rfl rfl)) (bv rfl (qae rfl rfl qaV) ?_)))
   refine bf hK (P1 [E1, E3, (7, hI a16.1), (8, .ar 149035 w25 eInt.k 0 ((a24.2.2).length)), (9, .bool a24.1), (10, hI a24.2.1), (39, .bool (decide (a24.2.1 < p0.2.1)))] [O2, O4, (149035, w25, .arr eInt.k 3 (eInt.E a24.2.2))]) ?_
   refine zae rfl (fun hc => ?_) (fun hc => ?_)
   ·obtain ⟨hc, h⟩ := cT hc h
    refine zac ?_
    refine zag h (S := Bool × (List Int)) (V := Nat) (fun a v => (P1 [E1, E3, (7, hI a16.1), (8, .ar 149035 v eInt.k 0 ((a.2).length)), (9, .bool a.1), (10, hI a24.2.1)] [O2, O4, (149035, v, .arr eInt.k 3 (eInt.E a.2))])) (fun a28 w29 h => ?_) (fun k30 h => ?_)
    ·refine zab rfl fun K hK => mv rfl rfl (bv rfl (qae rfl rfl qa6) (mv rfl rfl ?_))
     refine qah (hK _ ?_)
     exact to_L ⟨(a28.1, IntKind.wrap .i64 (a24.2.1 + 1), a28.2), w29, h, rfl⟩
    refine zaf ?_
    refine zag h (S := Bool) (V := Unit) (fun a v => (P1 [E1, E3, (7, hI a16.1), (8, .ar 149035 w25 eInt.k 0 ((a24.2.2).length)), (9, .bool a24.1), (10, hI a24.2.1), (57, .bool a)] [O2, O4, (149035, w25, .arr eInt.k 3 (eInt.E a24.2.2))])) (fun a31 w32 h => ?_) (fun k33 h => ?_)
    ·refine zae rfl (fun hc => ?_) (fun hc => ?_)
     ·have h := ifT hc h
      refine zaa rfl fun K hK => mv rfl rfl (mv rfl rfl ?_)
      refine b_op rfl (qdX rfl rfl (qbV (cs := [hI a24.2.1]) ty31 ty3 rfl rfl rfl rfl rfl) ?_)
      obtain ⟨h35, h⟩ := ifN h
      refine b_op rfl (qdh eInt (l := a24.2.2) (m := [a24.2.1]) rfl rfl ty31 ty31 ty3 rfl rfl rfl rfl rfl h35 (fun v34 => ?_))
      refine mv rfl rfl ?_
      refine bf hK (P1 [E1, E3, (7, hI a16.1), (8, .ar 149035 v34 eInt.k 0 ((a24.2.2 ++ [a24.2.1]).length)), (9, .bool a24.1), (10, hI a24.2.1)] [O2, O4, (149035, v34, .arr eInt.k 3 (eInt.E (a24.2.2 ++ [a24.2.1])))]) ?_
      refine zab rfl fun K hK => mv rfl rfl (mv rfl rfl ?_)
      by_cases hg36 : a24.1 = true
      ·have h := ifT hg36 h
       refine b_T rfl rfl rfl rfl hg36 (qaf rfl (qas rfl rfl).2 ?_)
       refine b_T rfl rfl rfl rfl rfl (qaf rfl (qas rfl rfl).2 ?_)
       refine b_T rfl rfl rfl rfl rfl (qaf rfl (qae rfl rfl qfO) ?_)
       refine bv rfl (qaj rfl rfl rfl) (mv rfl rfl ?_)
       refine qah (hK _ ?_)
       exact to_L ⟨(decide (a16.1 ≤ a24.2.1), a24.2.2 ++ [a24.2.1]), v34, h, rfl⟩
      have h := ifF hg36 h
      refine b_F rfl rfl rfl rfl rfl (bF hg36) ?_
      iterate 2 refine b_F rfl rfl rfl rfl rfl rfl ?_
      refine bv rfl (qak rfl rfl rfl) (mv rfl rfl ?_)
      refine qah (hK _ ?_)
      exact to_L ⟨(false, a24.2.2 ++ [a24.2.1]), v34, h, rfl⟩
     have h := ifF (bF' hc) h
     refine zac ?_
     exact to_L ⟨(a24.1, a24.2.2), w25, h, rfl⟩
    refine zab rfl fun K hK => mv rfl rfl (mv rfl rfl ?_)
    obtain ⟨x37, h38, h⟩ := bS h
    refine bv rfl (qd2 qhO qqx rfl rfl (qaw h38) rfl) ?_
    obtain ⟨x39, h40, h⟩ := bS h
    refine bv rfl (qar qdM rfl rfl (qaL (eSl eBool) h40 (o := 0) rfl rfl)) (mv rfl rfl ?_)
    obtain ⟨x41, h42, h⟩ := bS h
    refine bv rfl (qaJ qdM qkJ rfl rfl (qaw h42)) (bv rfl (qab ty4 rfl (qaL eBool h42 (o := 0) rfl rfl)) (mv rfl rfl ?_))
    by_cases hg49 : x41 = true
    ·have h := ifT hg49 h
     refine b_T rfl rfl rfl rfl hg49 (qaf rfl (qas rfl rfl).2 ?_)
     refine b_T rfl rfl rfl rfl rfl (qaf rfl (qas rfl rfl).2 ?_)
     obtain ⟨x43, h44, h⟩ := bS h
     refine b_T rfl rfl rfl rfl rfl (qaf rfl (qd2 qhO qqx rfl rfl (qaw h44) rfl) ?_)
     obtain ⟨x45, h46, h⟩ := bS h
     refine b_T rfl rfl rfl rfl rfl (qaf rfl (qar qdM rfl rfl (qaL (eSl eBool) h46 (o := 0) rfl rfl)) ?_)
     refine b_T rfl rfl rfl rfl rfl (qaf rfl (qas rfl rfl).2 ?_)
     obtain ⟨x47, h48, h⟩ := bS h
     refine b_T rfl rfl rfl rfl rfl (qaf rfl (qaJ qdM qkJ rfl rfl (qaw h48)) ?_)
     refine b_T rfl rfl rfl rfl rfl (qaf rfl (qab ty4 rfl (qaL eBool h48 (o := 0) rfl rfl)) ?_)
     refine bv rfl (qaj rfl rfl rfl) ?_
     refine qah (hK _ ?_)
     exact to_L ⟨x47, (), h, rfl⟩
    have h := ifF hg49 h
    refine b_F rfl rfl rfl rfl rfl (bF hg49) ?_
    iterate 6 refine b_F rfl rfl rfl rfl rfl rfl ?_
    refine bv rfl (qak rfl rfl rfl) ?_
    refine qah (hK _ ?_)
    exact to_L ⟨false, (), h, rfl⟩
   obtain ⟨hc, h⟩ := cF hc h
   refine AW.exit ?_
   exact to_L ⟨(a24.2.2, a24.1), w25, h, rfl⟩
  obtain ⟨hc, h⟩ := cF hc h
  refine AW.exit ?_
  exact to_L ⟨a16.2, w17, h, rfl⟩
 refine zad ?_
 refine zaa rfl fun K hK => mv rfl rfl (bv rfl (qac qcp rfl) (bv rfl (qab ty3 rfl (qan rfl rfl)) (bv rfl (qae rfl rfl qaV) ?_)))
 refine bf hK (P1 [(4, .ar 149015 w6 (eSl eBool).k 0 ((a5.2).length)), (5, hI a5.1), (19, .bool (decide (a5.1 < p0.2.1)))] [(149015, w6, .arr (eSl eBool).k 189 ((eSl eBool).E a5.2))]) ?_
 refine zae rfl (fun hc => ?_) (fun hc => ?_)
 ·obtain ⟨hc, h⟩ := cT hc h
  refine zac ?_
  refine zad (zaf ?_)
  refine zab rfl fun K hK => mv rfl rfl (bv rfl (qab ty27 rfl (qav rfl (lb rfl) rfl)) (mv rfl rfl ?_))
  obtain ⟨x9, h10, h⟩ := bS h
  refine b_op rfl (qaB rfl rfl rfl rfl (zai (qih h10)) ?_)
  refine b_op rfl (qdX rfl rfl (qbV (cs := [slE eBool x9]) qhO qdM rfl rfl rfl rfl rfl) ?_)
  obtain ⟨h12, h⟩ := ifN h
  refine b_op rfl (qdh (eSl eBool) (l := a5.2) (m := [x9]) rfl rfl qhO qhO qdM rfl rfl rfl rfl rfl h12 (fun v11 => ?_))
  refine mv rfl rfl ?_
  refine bf hK (P1 [(4, .ar 149015 v11 (eSl eBool).k 0 ((a5.2 ++ [x9]).length)), (5, hI a5.1)] [(149015, v11, .arr (eSl eBool).k 189 ((eSl eBool).E (a5.2 ++ [x9])))]) ?_
  refine zab rfl fun K hK => mv rfl rfl (bv rfl (qae rfl rfl qa6) (mv rfl rfl ?_))
  refine qah (hK _ ?_)
  exact to_L ⟨(IntKind.wrap .i64 (a5.1 + 1), a5.2 ++ [x9]), v11, h, rfl⟩
 obtain ⟨hc, h⟩ := cF hc h
 refine AW.exit ?_
 exact to_L ⟨a5.2, w6, h, rfl⟩
theorem qii {p0 : List (Int)} {p1 : Int} {r : Bool} (h : qdA p0 p1 = some r) : Pure Tryz.prog 191 [slE eInt p0, hI p1] (· = HV.bool r) := by
 unfold qdA at h
 refine zaj Tryz.func191 rfl rfl (lb rfl) fun hf => ?_
 unfold Tryz.f191
 dsimp only [qaH, Nat.reduceAdd]
 refine zaa rfl fun K hK => mv rfl rfl ?_
 let P2 : ASf := fun t H => ⟨(0, slE eInt p0) :: (1, hI p1) :: t, H⟩
 refine bf hK (P2 [] []) ?_
 refine zad ?_
 refine zaa rfl fun K hK => mv rfl rfl ?_
 refine bf hK (P2 [(5, hI 0)] []) ?_
 refine AW.lpR h (by first | exact qaG | exact qbp) (S := Int) (V := Unit) (fun a v => (P2 [(5, hI a)] [])) ?_ (X := Unit) (W := Unit) (fun a v => ⟨[], []⟩) (fun a7 w8 h => ?_) (fun a1 w2 st3 h hr4=> ?_)
 ·exact to_L ⟨(), rfl⟩
 ·refine zaa rfl fun K hK => mv rfl rfl ?_
  refine bf hK ⟨[(4, .bool false)], []⟩ ?_
  obtain rfl := oi h
  exact AW.ret (qad (.inr rfl) (resT rfl rfl) rfl trivial)
 refine zad ?_
 refine zaa rfl fun K hK => mv rfl rfl (mv rfl rfl (bv rfl (qaI rfl rfl ty31 rfl) (bv rfl (qae rfl rfl qaV) ?_)))
 refine bf hK (P2 [(5, hI a1), (9, .bool (decide (a1 < ((p0).length : Int))))] []) ?_
 refine zae rfl (fun hc => ?_) (fun hc => ?_)
 ·obtain ⟨hc, h⟩ := cT hc h
  refine zac ?_
  refine zad (zaf ?_)
  refine zaa rfl fun K hK => mv rfl rfl (mv rfl rfl ?_)
  obtain ⟨x5, h6, h⟩ := bS h
  refine bv rfl (qaJ ty31 es31 rfl rfl (qaw h6)) (bv rfl (qab ty3 rfl (qaL eInt h6 (o := 0) rfl rfl)) (mv rfl rfl (bv rfl (qae rfl rfl qd1) ?_)))
  refine bf hK (P2 [(5, hI a1), (17, .bool (decide (x5 = p1)))] []) ?_
  refine zae rfl (fun hc => ?_) (fun hc => ?_)
  ·obtain ⟨hc, h⟩ := cT hc h
   refine zaa rfl fun K hK => mv rfl rfl ?_
   refine bf hK ⟨[(4, .bool true)], []⟩ ?_
   have h := hr4 _ h
   obtain rfl := oi h
   exact AW.ret (qad (.inr rfl) (resT rfl rfl) rfl trivial)
  obtain ⟨hc, h⟩ := cF hc h
  refine zac ?_
  refine zab rfl fun K hK => mv rfl rfl (bv rfl (qae rfl rfl qa6) (mv rfl rfl ?_))
  refine qah (hK _ ?_)
  exact to_L ⟨IntKind.wrap .i64 (a1 + 1), (), h, rfl⟩
 obtain ⟨hc, h⟩ := cF hc h
 refine AW.exit ?_
 exact to_L ⟨(), (), h, rfl⟩
theorem qjd {p0 : qaa} {r : (List (List (Int))) × Int} (h : qcS p0 = some r) : Pure Tryz.prog 150 [gA p0] (· = HV.tup [slE (eSl eInt) r.1, hI r.2]) := by
 unfold qcS at h
 refine zaj Tryz.func150 rfl rfl (lb rfl) fun hf => ?_
 unfold Tryz.f150
 dsimp only [qaH, Nat.reduceAdd]
 refine zaa rfl fun K hK => b_op rfl (qa5 rfl rfl rfl ?_)
 refine mv rfl rfl (mv rfl rfl ?_)
 let P3 : ASf := fun t H => ⟨(1, gF p0) :: t, H⟩
 refine bf hK (P3 [] []) ?_
 refine zaa rfl fun K hK => bv rfl (qab ty27 rfl (qav rfl (lb rfl) rfl)) ?_
 obtain ⟨x1, h2, h⟩ := bS h
 refine b_op rfl (qaB rfl rfl rfl rfl (zai (qjl h2)) ?_)
 refine mv rfl rfl (bv rfl (qaq rfl rfl) (bv rfl (qaq rfl rfl) (mv rfl rfl (mv rfl rfl ?_))))
 let E5 : Nat × HV := (4, slE (eSl eInt) x1.1)
 refine bf hK (P3 [E5, (5, hI x1.2)] []) ?_
 refine zaa rfl fun K hK => b_op rfl (qfE (fid := 150) 150015 rfl rfl rfl (qbV (cs := []) qcK ty31 rfl rfl rfl rfl rfl) (fun v3 => ?_))
 refine mv rfl rfl ?_
 refine bf hK (P3 [E5, (5, hI x1.2), (6, .ar 150015 v3 (eSl eInt).k 0 0)] [(150015, v3, .arr (eSl eInt).k 31 [])]) ?_
 refine zad ?_
 refine zaa rfl fun K hK => mv rfl rfl ?_
 refine bf hK (P3 [E5, (5, hI x1.2), (6, .ar 150015 v3 (eSl eInt).k 0 0), (7, hI 0)] [(150015, v3, .arr (eSl eInt).k 31 [])]) ?_
 refine AW.lpX h (by first | exact qaG | exact qbp) (S := Int × (List (List (Int)))) (V := Nat) (fun a v => (P3 [E5, (5, hI x1.2), (6, .ar 150015 v (eSl eInt).k 0 ((a.2).length)), (7, hI a.1)] [(150015, v, .arr (eSl eInt).k 31 ((eSl eInt).E a.2))])) ?_ (X := (List (List (Int)))) (W := Nat) (fun a v => ⟨[(5, hI x1.2), (6, .ar 150015 v (eSl eInt).k 0 ((a).length))], [(150015, v, .arr (eSl eInt).k 31 ((eSl eInt).E a))]⟩) (fun a38 w39 h => ?_) (fun a4 w5 st6 h => ?_)
 ·exact to_L ⟨v3, rfl⟩
 ·refine zaa rfl fun K hK => mv rfl rfl (mv rfl rfl (mv rfl rfl (mv rfl rfl ?_)))
  refine bf hK ⟨[(2, .ar 150015 w39 (eSl eInt).k 0 ((a38).length)), (3, hI x1.2)], [(150015, w39, .arr (eSl eInt).k 31 ((eSl eInt).E a38))]⟩ ?_
  refine AW.to (qdN 2 [(150015, w39, .arr (eSl eInt).k 31 ((eSl eInt).E a38))] ⟨[(2, slE (eSl eInt) a38), (3, hI x1.2)], []⟩ ⟨⟨_, rfl, qbw (eSl eInt) (l := a38) rfl fun _ _ => rfl⟩, ⟨_, rfl, rfl⟩, trivial⟩ trivial ⟨rfl, trivial⟩ ⟨rfl, trivial⟩ ?_)
  obtain rfl := oi h
  exact AW.ret (qad (.inr rfl) (resT rfl (resT rfl rfl)) rfl ⟨(qai fun _ _ => ⟨(qai fun _ _ => ⟨trivial, trivial⟩), trivial⟩), trivial, trivial⟩)
 refine zad ?_
 refine zaa rfl fun K hK => mv rfl rfl (mv rfl rfl (bv rfl (qaI rfl rfl qcK rfl) (bv rfl (qae rfl rfl qaV) ?_)))
 let E6 : Nat × HV := (6, .ar 150015 w5 (eSl eInt).k 0 ((a4.2).length))
 let O7 : Nat × Nat × AObj := (150015, w5, .arr (eSl eInt).k 31 ((eSl eInt).E a4.2))
 refine bf hK (P3 [E5, (5, hI x1.2), E6, (7, hI a4.1), (19, .bool (decide (a4.1 < ((x1.1).length : Int))))] [O7]) ?_
 refine zae rfl (fun hc => ?_) (fun hc => ?_)
 ·obtain ⟨hc, h⟩ := cT hc h
  refine zac ?_
  refine zag h (S := (List (List (Int)))) (V := Nat) (fun a v => (P3 [E5, (5, hI x1.2), (6, .ar 150015 v (eSl eInt).k 0 ((a).length)), (7, hI a4.1)] [(150015, v, .arr (eSl eInt).k 31 ((eSl eInt).E a))])) (fun a8 w9 h => ?_) (fun k10 h => ?_)
  ·refine zab rfl fun K hK => mv rfl rfl (bv rfl (qae rfl rfl qa6) (mv rfl rfl ?_))
   refine qah (hK _ ?_)
   exact to_L ⟨(IntKind.wrap .i64 (a4.1 + 1), a8), w9, h, rfl⟩
  refine zaf ?_
  refine zaa rfl fun K hK => mv rfl rfl ?_
  refine bf hK (P3 [E5, (5, hI x1.2), E6, (7, hI a4.1), (8, .bool false)] [O7]) ?_
  refine zad ?_
  refine zaa rfl fun K hK => mv rfl rfl ?_
  refine bf hK (P3 [E5, (5, hI x1.2), E6, (7, hI a4.1), (8, .bool false), (9, hI 0)] [O7]) ?_
  refine AW.lpX h (by first | exact qaG | exact qbp) (S := Bool × Int) (V := Unit) (fun a v => (P3 [E5, (5, hI x1.2), E6, (7, hI a4.1), (8, .bool a.1), (9, hI a.2)] [O7])) ?_ (X := Bool) (W := Unit) (fun a v => (P3 [E5, (5, hI x1.2), E6, (7, hI a4.1), (8, .bool a)] [O7])) (fun a32 w33 h => ?_) (fun a11 w12 st13 h => ?_)
  ·exact to_L ⟨(), rfl⟩
  ·refine zaa rfl fun K hK => mv rfl rfl ?_
   refine bf hK (P3 [E5, (5, hI x1.2), E6, (7, hI a4.1), (56, .bool a32)] [O7]) ?_
   refine zae rfl (fun hc => ?_) (fun hc => ?_)
   ·have h := ifT hc h
    refine zab rfl fun K hK => mv rfl rfl (mv rfl rfl (mv rfl rfl ?_))
    obtain ⟨x34, h35, h⟩ := bS h
    refine bv rfl (qaJ qcK qnS rfl rfl (qaw h35)) (bv rfl (qab ty31 rfl (qaL (eSl eInt) h35 (o := 0) rfl rfl)) ?_)
    refine b_op rfl (qdX rfl rfl (qbV (cs := [slE eInt x34]) qcK ty31 rfl rfl rfl rfl rfl) ?_)
    obtain ⟨h37, h⟩ := ifN h
    refine b_op rfl (qdh (eSl eInt) (l := a4.2) (m := [x34]) rfl rfl qcK qcK ty31 rfl rfl rfl rfl rfl h37 (fun v36 => ?_))
    refine mv rfl rfl ?_
    refine qah (hK _ ?_)
    exact to_L ⟨a4.2 ++ [x34], v36, h, rfl⟩
   have h := ifF (bF' hc) h
   refine zac ?_
   exact to_L ⟨a4.2, w5, h, rfl⟩
  refine zad ?_
  refine zaa rfl fun K hK => mv rfl rfl (bv rfl (qac qbi rfl) (bv rfl (qab ty25 rfl (qan rfl rfl)) (bv rfl (qaI rfl rfl ty25 rfl) (bv rfl (qae rfl rfl qaV) ?_))))
  refine bf hK (P3 [E5, (5, hI x1.2), E6, (7, hI a4.1), (8, .bool a11.1), (9, hI a11.2), (26, .bool (decide (a11.2 < ((p0.2.2).length : Int))))] [O7]) ?_
  refine zae rfl (fun hc => ?_) (fun hc => ?_)
  ·obtain ⟨hc, h⟩ := cT hc h
   refine zac ?_
   refine zag h (S := Bool) (V := Unit) (fun a v => (P3 [E5, (5, hI x1.2), E6, (7, hI a4.1), (8, .bool a), (9, hI a11.2)] [O7])) (fun a15 w16 h => ?_) (fun k17 h => ?_)
   ·refine zab rfl fun K hK => mv rfl rfl (bv rfl (qae rfl rfl qa6) (mv rfl rfl ?_))
    refine qah (hK _ ?_)
    exact to_L ⟨(a15, IntKind.wrap .i64 (a11.2 + 1)), (), h, rfl⟩
   refine zaf ?_
   refine AW.dg 28 follows rfl rfl fun K hK => ?_
   iterate 2 refine sm rfl rfl ?_
   by_cases hg31 : a11.1 = true
   ·have h := ifT hg31 h
    refine s_F rfl rfl rfl rfl rfl hg31 ?_
    iterate 11 refine s_F rfl rfl rfl rfl rfl rfl ?_
    refine s_U rfl rfl rfl rfl rfl ?_
    refine s_U rfl rfl rfl rfl rfl ?_
    refine s_U rfl rfl rfl rfl rfl ?_
    refine s_U rfl rfl rfl rfl rfl ?_
    refine s_U rfl rfl rfl rfl rfl ?_
    refine s_U rfl rfl rfl rfl rfl ?_
    refine s_U rfl rfl rfl rfl rfl ?_
    refine s_U rfl rfl rfl rfl rfl ?_
    refine s_U rfl rfl rfl rfl rfl ?_
    refine s_U rfl rfl rfl rfl rfl ?_
    refine s_U rfl rfl rfl rfl rfl ?_
    refine s_F rfl rfl rfl rfl rfl rfl ?_
    refine sv rfl (qaj rfl rfl rfl) ?_
    refine sm rfl rfl ?_
    refine qbU ?_
    refine qah (hK _ ?_)
    exact to_L ⟨true, (), h, rfl⟩
   have h := ifF hg31 h
   refine s_T rfl rfl rfl rfl rfl (bF hg31) (qat rfl (qas rfl rfl).2 ?_)
   refine s_T rfl rfl rfl rfl rfl rfl (qat rfl (qas rfl rfl).2 ?_)
   obtain ⟨x18, h19, h⟩ := bS h
   refine s_T rfl rfl rfl rfl rfl rfl (qat rfl (qaJ qcK qnS rfl rfl (qaw h19)) ?_)
   refine s_T rfl rfl rfl rfl rfl rfl (qat rfl (qab ty31 rfl (qaL (eSl eInt) h19 (o := 0) rfl rfl)) ?_)
   refine s_T rfl rfl rfl rfl rfl rfl (qat rfl (qac qbi rfl) ?_)
   refine s_T rfl rfl rfl rfl rfl rfl (qat rfl (qab ty25 rfl (qan rfl rfl)) ?_)
   refine s_T rfl rfl rfl rfl rfl rfl (qat rfl (qas rfl rfl).2 ?_)
   obtain ⟨x20, h21, h⟩ := bS h
   refine s_T rfl rfl rfl rfl rfl rfl (qat rfl (qaJ ty25 es25 rfl rfl (qaw h21)) ?_)
   refine s_T rfl rfl rfl rfl rfl rfl (qat rfl (qac qcC rfl) ?_)
   refine s_T rfl rfl rfl rfl rfl rfl (qat rfl (qab ty3 rfl (qaL eFromLabelTo h21 (o := 0) rfl rfl)) ?_)
   obtain ⟨x22, h23, h⟩ := bS h
   refine s_T rfl rfl rfl rfl rfl rfl (qaR rfl rfl rfl rfl (zai (qii h23)) ?_)
   refine s_T rfl rfl rfl rfl rfl rfl (qat rfl (qas rfl rfl).2 ?_)
   by_cases hg30 : x22 = true
   ·have h := ifT hg30 h
    refine s_T rfl rfl rfl rfl rfl hg30 (qat rfl (qas rfl rfl).2 ?_)
    refine s_T rfl rfl rfl rfl rfl rfl (qat rfl (qas rfl rfl).2 ?_)
    obtain ⟨x24, h25, h⟩ := bS h
    refine s_T rfl rfl rfl rfl rfl rfl (qat rfl (qaJ qcK qnS rfl rfl (qaw h25)) ?_)
    refine s_T rfl rfl rfl rfl rfl rfl (qat rfl (qab ty31 rfl (qaL (eSl eInt) h25 (o := 0) rfl rfl)) ?_)
    refine s_T rfl rfl rfl rfl rfl rfl (qat rfl (qac qbi rfl) ?_)
    refine s_T rfl rfl rfl rfl rfl rfl (qat rfl (qab ty25 rfl (qan rfl rfl)) ?_)
    refine s_T rfl rfl rfl rfl rfl rfl (qat rfl (qas rfl rfl).2 ?_)
    obtain ⟨x26, h27, h⟩ := bS h
    refine s_T rfl rfl rfl rfl rfl rfl (qat rfl (qaJ ty25 es25 rfl rfl (qaw h27)) ?_)
    refine s_T rfl rfl rfl rfl rfl rfl (qat rfl (qac qdZ rfl) ?_)
    refine s_T rfl rfl rfl rfl rfl rfl (qat rfl (qab ty3 rfl (qaL eFromLabelTo h27 (o := 2) rfl rfl)) ?_)
    obtain ⟨x28, h29, h⟩ := bS h
    refine s_T rfl rfl rfl rfl rfl rfl (qaR rfl rfl rfl rfl (zai (qii h29)) ?_)
    refine s_T rfl rfl rfl rfl rfl rfl (qat rfl (qaj rfl rfl rfl) ?_)
    refine sv rfl (qak rfl rfl rfl) ?_
    refine sm rfl rfl ?_
    refine qbU ?_
    refine qah (hK _ ?_)
    exact to_L ⟨x28, (), h, rfl⟩
   have h := ifF hg30 h
   refine s_F rfl rfl rfl rfl rfl (bF hg30) ?_
   iterate 10 refine s_F rfl rfl rfl rfl rfl rfl ?_
   refine s_T rfl rfl rfl rfl rfl rfl (qat rfl (qak rfl rfl rfl) ?_)
   refine sv rfl (qak rfl rfl rfl) ?_
   refine sm rfl rfl ?_
   refine qbU ?_
   refine qah (hK _ ?_)
   exact to_L ⟨false, (), h, rfl⟩
  obtain ⟨hc, h⟩ := cF hc h
  refine AW.exit ?_
  exact to_L ⟨a11.1, (), h, rfl⟩
 obtain ⟨hc, h⟩ := cF hc h
 refine AW.exit ?_
 exact to_L ⟨a4.2, w5, h, rfl⟩
theorem qf5 {p0 : qaa} {r : Bool × Int} (h : qbE p0 = some r) : Pure Tryz.prog 100 [gA p0] (· = HV.tup [.bool r.1, hI r.2]) := by
 unfold qbE at h
 refine zaj Tryz.func100 rfl rfl (lb rfl) fun hf => ?_
 unfold Tryz.f100
 dsimp only [qaH, Nat.reduceAdd]
 refine zaa rfl fun K hK => b_op rfl (qa5 rfl rfl rfl ?_)
 refine mv rfl rfl (mv rfl rfl ?_)
 refine bf hK ⟨[(1, gF p0)], []⟩ ?_
 refine zaa rfl fun K hK => bv rfl (qab ty27 rfl (qav rfl (lb rfl) rfl)) ?_
 obtain ⟨x1, h2, h⟩ := bS h
 refine b_op rfl (qaB rfl rfl rfl rfl (zai (qjl h2)) ?_)
 refine mv rfl rfl (bv rfl (qaq rfl rfl) (bv rfl (qaq rfl rfl) (mv rfl rfl (mv rfl rfl ?_))))
 refine bf hK ⟨[(1, gF p0), (4, slE (eSl eInt) x1.1), (5, hI x1.2)], []⟩ ?_
 refine zaa rfl fun K hK => bv rfl (qab ty27 rfl (qav rfl (lb rfl) rfl)) ?_
 obtain ⟨x3, h4, h⟩ := bS h
 refine b_op rfl (qaB rfl rfl rfl rfl (zai (qjd h4)) ?_)
 refine mv rfl rfl (bv rfl (qaq rfl rfl) (bv rfl (qaq rfl rfl) (mv rfl rfl (mv rfl rfl ?_))))
 refine bf hK ⟨[(4, slE (eSl eInt) x1.1), (5, hI x1.2), (6, slE (eSl eInt) x3.1)], []⟩ ?_
 refine zag h (S := Bool) (V := Unit) (fun a v => ⟨[(2, .bool a), (3, hI x1.2)], []⟩) (fun a5 w6 h => ?_) (fun k7 h => ?_)
 ·obtain rfl := oi h
  exact AW.ret (qad (.inr rfl) (resT rfl (resT rfl rfl)) rfl ⟨trivial, trivial, trivial⟩)
 refine zab rfl fun K hK => mv rfl rfl (bv rfl (qae rfl rfl qd1) (mv rfl rfl ?_))
 by_cases hg9 : x1.2 = 0
 ·have h := ifT hg9 h
  refine b_T rfl rfl rfl rfl (decide_eq_true hg9) (qaf rfl (qas rfl rfl).2 ?_)
  refine b_T rfl rfl rfl rfl rfl (qaf rfl (qaI rfl rfl qcK rfl) ?_)
  refine b_T rfl rfl rfl rfl rfl (qaf rfl (qae rfl rfl qd1) ?_)
  refine bv rfl (qaj rfl rfl rfl) (mv rfl rfl ?_)
  by_cases hg8 : ((x1.1).length : Int) = 1
  ·have h := ifT hg8 h
   refine b_T rfl rfl rfl rfl (decide_eq_true hg8) (qaf rfl (qas rfl rfl).2 ?_)
   refine b_T rfl rfl rfl rfl rfl (qaf rfl (qaI rfl rfl qcK rfl) ?_)
   refine b_T rfl rfl rfl rfl rfl (qaf rfl (qae rfl rfl qd1) ?_)
   refine bv rfl (qaj rfl rfl rfl) (mv rfl rfl (mv rfl rfl (mv rfl rfl ?_)))
   refine qah (hK _ ?_)
   exact to_L ⟨decide (((x3.1).length : Int) = 1), (), h, rfl⟩
  have h := ifF hg8 h
  refine b_F rfl rfl rfl rfl rfl (decide_eq_false hg8) ?_
  iterate 2 refine b_F rfl rfl rfl rfl rfl rfl ?_
  refine bv rfl (qak rfl rfl rfl) (mv rfl rfl (mv rfl rfl (mv rfl rfl ?_)))
  refine qah (hK _ ?_)
  exact to_L ⟨false, (), h, rfl⟩
 have h := ifF hg9 h
 refine b_F rfl rfl rfl rfl rfl (decide_eq_false hg9) ?_
 iterate 2 refine b_F rfl rfl rfl rfl rfl rfl ?_
 refine bv rfl (qak rfl rfl rfl) (mv rfl rfl ?_)
 iterate 3 refine b_F rfl rfl rfl rfl rfl rfl ?_
 refine bv rfl (qak rfl rfl rfl) (mv rfl rfl (mv rfl rfl (mv rfl rfl ?_)))
 refine qah (hK _ ?_)
 exact to_L ⟨false, (), h, rfl⟩
theorem qf4 {p0 : qaa} {p1 : Int} {r : Int} (h : qa2 p0 p1 = some r) : Pure Tryz.prog 151 [gA p0, hI p1] (· = hI r) := by
 unfold qa2 at h
 refine zaj Tryz.func151 rfl rfl (lb rfl) fun hf => ?_
 unfold Tryz.f151
 dsimp only [qaH, Nat.reduceAdd]
 refine zaa rfl fun K hK => b_op rfl (qa5 rfl rfl rfl ?_)
 refine mv rfl rfl ?_
 refine bf hK ⟨[(1, hI p1), (2, gF p0)], []⟩ ?_
 refine zad ?_
 refine zaa rfl fun K hK => bv rfl (qab ty27 rfl (qav rfl (lb rfl) rfl)) ?_
 obtain ⟨x1, h2, h⟩ := bS h
 refine b_op rfl (qaB rfl rfl rfl rfl (zai (qgj h2)) ?_)
 refine mv rfl rfl ?_
 refine bf hK ⟨[(1, hI p1), (5, hI x1)], []⟩ ?_
 refine zaa rfl fun K hK => mv rfl rfl (bv rfl (qae rfl rfl qcL) ?_)
 refine bf hK ⟨[(1, hI p1), (5, hI x1), (9, .bool (decide (x1 ≠ 0)))], []⟩ ?_
 refine zae rfl (fun hc => ?_) (fun hc => ?_)
 ·obtain ⟨hc, h⟩ := cT hc h
  refine zaa rfl fun K hK => mv rfl rfl (mv rfl rfl ?_)
  refine bf hK ⟨[(4, hI x1)], []⟩ ?_
  obtain rfl := oi h
  exact AW.ret (qad (.inr rfl) (resT rfl rfl) rfl trivial)
 obtain ⟨hc, h⟩ := cF hc h
 refine zac ?_
 refine zad ?_
 refine zag h (S := Bool) (V := Unit) (fun a v => ⟨[(16, .bool a)], []⟩) (fun a3 w4 h => ?_) (fun k5 h => ?_)
 ·refine zae rfl (fun hc => ?_) (fun hc => ?_)
  ·have h := ifT hc h
   refine zaa rfl fun K hK => mv rfl rfl ?_
   refine bf hK ⟨[(4, hI 2)], []⟩ ?_
   obtain rfl := oi h
   exact AW.ret (qad (.inr rfl) (resT rfl rfl) rfl trivial)
  have h := ifF (bF' hc) h
  refine zac ?_
  refine zaa rfl fun K hK => mv rfl rfl ?_
  refine bf hK ⟨[(4, hI 0)], []⟩ ?_
  obtain rfl := oi h
  exact AW.ret (qad (.inr rfl) (resT rfl rfl) rfl trivial)
 refine zab rfl fun K hK => mv rfl rfl (bv rfl (qae rfl rfl qaV) (mv rfl rfl ?_))
 by_cases hg6 : p1 < 0
 ·have h := ifT hg6 h
  refine b_F rfl rfl rfl rfl rfl (decide_eq_true hg6) ?_
  refine b_F rfl rfl rfl rfl rfl rfl ?_
  refine bv rfl (qaj rfl rfl rfl) ?_
  refine qah (hK _ ?_)
  exact to_L ⟨true, (), h, rfl⟩
 have h := ifF hg6 h
 refine b_T rfl rfl rfl rfl (decide_eq_false hg6) (qaf rfl (qas rfl rfl).2 ?_)
 refine b_T rfl rfl rfl rfl rfl (qaf rfl (qae rfl rfl qbh) ?_)
 refine bv rfl (qak rfl rfl rfl) ?_
 refine qah (hK _ ?_)
 exact to_L ⟨decide (4096 < p1), (), h, rfl⟩
theorem qkR {p0 : qaa} {p1 : List (qaC)} {r : (List (qaC))} (h : qbP p0 p1 = some r) : Pure Tryz.prog 193 [gA p0, slE eWordEnds p1] (· = slE eWordEnds r) := by
 unfold qbP at h
 refine zaj Tryz.func193 rfl rfl (lb rfl) fun hf => ?_
 unfold Tryz.f193
 dsimp only [qaH, Nat.reduceAdd]
 refine zaa rfl fun K hK => b_op rfl (qa5 rfl rfl rfl ?_)
 refine mv rfl rfl ?_
 let P1 : ASf := fun t H => ⟨(1, slE eWordEnds p1) :: (2, gF p0) :: t, H⟩
 refine bf hK (P1 [] []) ?_
 refine zaa rfl fun K hK => b_op rfl (qfE (fid := 193) 193009 rfl rfl rfl (qbV (cs := []) qfX qj6 rfl rfl rfl rfl rfl) (fun v1 => ?_))
 refine mv rfl rfl ?_
 refine bf hK (P1 [(5, .ar 193009 v1 eWordEnds.k 0 0)] [(193009, v1, .arr eWordEnds.k 192 [])]) ?_
 refine zad ?_
 refine zaa rfl fun K hK => mv rfl rfl ?_
 refine bf hK (P1 [(5, .ar 193009 v1 eWordEnds.k 0 0), (6, hI 0)] [(193009, v1, .arr eWordEnds.k 192 [])]) ?_
 refine AW.lpX h (by first | exact qaG | exact qbp) (S := Int × (List qaC)) (V := Nat) (fun a v => (P1 [(5, .ar 193009 v eWordEnds.k 0 ((a.2).length)), (6, hI a.1)] [(193009, v, .arr eWordEnds.k 192 (eWordEnds.E a.2))])) ?_ (X := (List qaC)) (W := Nat) (fun a v => ⟨[(5, .ar 193009 v eWordEnds.k 0 ((a).length))], [(193009, v, .arr eWordEnds.k 192 (eWordEnds.E a))]⟩) (fun a25 w26 h => ?_) (fun a2 w3 st4 h => ?_)
 ·exact to_L ⟨v1, rfl⟩
 ·refine zaa rfl fun K hK => mv rfl rfl (mv rfl rfl ?_)
  refine bf hK ⟨[(4, .ar 193009 w26 eWordEnds.k 0 ((a25).length))], [(193009, w26, .arr eWordEnds.k 192 (eWordEnds.E a25))]⟩ ?_
  refine AW.to (qdN 2 [(193009, w26, .arr eWordEnds.k 192 (eWordEnds.E a25))] ⟨[(4, slE eWordEnds a25)], []⟩ ⟨⟨_, rfl, qbw eWordEnds (l := a25) rfl fun _ _ => rfl⟩, trivial⟩ trivial ⟨rfl, trivial⟩ ⟨rfl, trivial⟩ ?_)
  obtain rfl := oi h
  exact AW.ret (qad (.inr rfl) (resT rfl rfl) rfl (qai fun _ _ => ⟨trivial, (qai fun _ _ => ⟨trivial, trivial⟩), trivial⟩))
 refine zad ?_
 refine zaa rfl fun K hK => mv rfl rfl (mv rfl rfl (bv rfl (qaI rfl rfl qfX rfl) (bv rfl (qae rfl rfl qaV) ?_)))
 refine bf hK (P1 [(5, .ar 193009 w3 eWordEnds.k 0 ((a2.2).length)), (6, hI a2.1), (13, .bool (decide (a2.1 < ((p1).length : Int))))] [(193009, w3, .arr eWordEnds.k 192 (eWordEnds.E a2.2))]) ?_
 refine zae rfl (fun hc => ?_) (fun hc => ?_)
 ·obtain ⟨hc, h⟩ := cT hc h
  refine zac ?_
  refine zad (zaf ?_)
  refine zaa rfl fun K hK => mv rfl rfl ?_
  refine bf hK (P1 [(5, .ar 193009 w3 eWordEnds.k 0 ((a2.2).length)), (6, hI a2.1), (7, hI 0)] [(193009, w3, .arr eWordEnds.k 192 (eWordEnds.E a2.2))]) ?_
  refine AW.lpX h (by first | exact qaG | exact qbp) (S := Int × (List qaC)) (V := Nat) (fun a v => (P1 [(5, .ar 193009 v eWordEnds.k 0 ((a.2).length)), (6, hI a2.1), (7, hI a.1)] [(193009, v, .arr eWordEnds.k 192 (eWordEnds.E a.2))])) ?_ (X := (List qaC)) (W := Nat) (fun a v => (P1 [(5, .ar 193009 v eWordEnds.k 0 ((a).length)), (6, hI a2.1)] [(193009, v, .arr eWordEnds.k 192 (eWordEnds.E a))])) (fun a23 w24 h => ?_) (fun a6 w7 st8 h => ?_)
  ·exact to_L ⟨w3, rfl⟩
  ·refine zab rfl fun K hK => mv rfl rfl (bv rfl (qae rfl rfl qa6) (mv rfl rfl ?_))
   refine qah (hK _ ?_)
   exact to_L ⟨(IntKind.wrap .i64 (a2.1 + 1), a23), w24, h, rfl⟩
  refine zad ?_
  refine zaa rfl fun K hK => mv rfl rfl (bv rfl (qac qez rfl) (bv rfl (qab ty3 rfl (qan rfl rfl)) (bv rfl (qae rfl rfl qaV) ?_)))
  let E1 : Nat × HV := (5, .ar 193009 w7 eWordEnds.k 0 ((a6.2).length))
  let O2 : Nat × Nat × AObj := (193009, w7, .arr eWordEnds.k 192 (eWordEnds.E a6.2))
  refine bf hK (P1 [E1, (6, hI a2.1), (7, hI a6.1), (19, .bool (decide (a6.1 < p0.1)))] [O2]) ?_
  refine zae rfl (fun hc => ?_) (fun hc => ?_)
  ·obtain ⟨hc, h⟩ := cT hc h
   refine zac ?_
   refine zag h (S := (List qaC)) (V := Nat) (fun a v => (P1 [(5, .ar 193009 v eWordEnds.k 0 ((a).length)), (6, hI a2.1), (7, hI a6.1)] [(193009, v, .arr eWordEnds.k 192 (eWordEnds.E a))])) (fun a10 w11 h => ?_) (fun k12 h => ?_)
   ·refine zab rfl fun K hK => mv rfl rfl (bv rfl (qae rfl rfl qa6) (mv rfl rfl ?_))
    refine qah (hK _ ?_)
    exact to_L ⟨(IntKind.wrap .i64 (a6.1 + 1), a10), w11, h, rfl⟩
   refine zaf ?_
   refine AW.dgs 9 follows rfl rfl fun K hK => ?_
   refine sv rfl (qab ty27 rfl (qav rfl (lb rfl) rfl)) ?_
   iterate 2 refine sm rfl rfl ?_
   obtain ⟨x13, h14, h⟩ := bS h
   refine sv rfl (qaJ qfX qrX rfl rfl (qaw h14)) ?_
   refine sv rfl (qac qrW rfl) ?_
   refine sv rfl (qab ty31 rfl (qaL eWordEnds h14 (o := 1) rfl rfl)) ?_
   refine sm rfl rfl ?_
   obtain ⟨x15, h16, h⟩ := bS h
   refine s_op rfl rfl (qaR rfl rfl rfl rfl (zai (qhs h16)) ?_)
   refine sm rfl rfl ?_
   refine qbU ?_
   refine bf hK (P1 [E1, (6, hI a2.1), (7, hI a6.1), (8, slE eInt x15)] [O2]) ?_
   refine zaa rfl fun K hK => mv rfl rfl (bv rfl (qaI rfl rfl ty31 rfl) (bv rfl (qae rfl rfl qbh) ?_))
   refine bf hK (P1 [E1, (6, hI a2.1), (7, hI a6.1), (8, slE eInt x15), (32, .bool (decide (0 < ((x15).length : Int))))] [O2]) ?_
   refine zae rfl (fun hc => ?_) (fun hc => ?_)
   ·obtain ⟨hc, h⟩ := cT hc h
    refine AW.dg 14 follows rfl rfl fun K hK => ?_
    iterate 3 refine sm rfl rfl ?_
    obtain ⟨x17, h18, h⟩ := bS h
    refine sv rfl (qaJ qfX qrX rfl rfl (qaw h18)) ?_
    refine sv rfl (qac qpn rfl) ?_
    refine sv rfl (qab ty9 rfl (qaL eWordEnds h18 (o := 0) rfl rfl)) ?_
    iterate 2 refine sm rfl rfl ?_
    refine sv rfl (qae rfl rfl qa6) ?_
    obtain ⟨h19, h⟩ := ifN h
    refine sv rfl (qhX ty9 rfl rfl rfl h19) ?_
    obtain ⟨h20, h⟩ := ifN h
    refine sv rfl (qae rfl rfl (qf2 h20)) ?_
    refine sm rfl rfl ?_
    refine s_op rfl rfl (qoI (cs := [.str (x17.1 ++ ((([48, 49, 50, 51, 52, 53, 54, 55, 56, 57, 97, 98, 99, 100, 101, 102] : List UInt8).take (IntKind.wrap .i64 (a6.1 + 1)).toNat).drop (a6.1).toNat)), slE eInt x15]) rfl (qea qj6 rfl rfl rfl rfl) ?_)
    refine s_op rfl rfl (qg9 rfl rfl (qbV (cs := [.str (x17.1 ++ ((([48, 49, 50, 51, 52, 53, 54, 55, 56, 57, 97, 98, 99, 100, 101, 102] : List UInt8).take (IntKind.wrap .i64 (a6.1 + 1)).toNat).drop (a6.1).toNat)), slE eInt x15]) qfX qj6 rfl rfl rfl rfl rfl) ?_)
    refine qbU ?_
    obtain ⟨h22, h⟩ := ifN h
    refine b_op rfl (qdh eWordEnds (l := a6.2) (m := [(x17.1 ++ ((([48, 49, 50, 51, 52, 53, 54, 55, 56, 57, 97, 98, 99, 100, 101, 102] : List UInt8).take (IntKind.wrap .i64 (a6.1 + 1)).toNat).drop (a6.1).toNat), x15)]) rfl rfl qfX qfX qj6 rfl rfl rfl rfl rfl h22 (fun v21 => ?_))
    refine mv rfl rfl ?_
    refine qah (hK _ ?_)
    exact to_L ⟨a6.2 ++ [(x17.1 ++ ((([48, 49, 50, 51, 52, 53, 54, 55, 56, 57, 97, 98, 99, 100, 101, 102] : List UInt8).take (IntKind.wrap .i64 (a6.1 + 1)).toNat).drop (a6.1).toNat), x15)], v21, h, rfl⟩
   obtain ⟨hc, h⟩ := cF hc h
   refine zac ?_
   exact to_L ⟨a6.2, w7, h, rfl⟩
  obtain ⟨hc, h⟩ := cF hc h
  refine AW.exit ?_
  exact to_L ⟨a6.2, w7, h, rfl⟩
 obtain ⟨hc, h⟩ := cF hc h
 refine AW.exit ?_
 exact to_L ⟨a2.2, w3, h, rfl⟩
theorem qjZ {p0 : qaa} {p1 : List (Int)} {p2 : Int} {r : (List (qaC)) × Int} (h : qdj p0 p1 p2 = some r) : Pure Tryz.prog 152 [gA p0, slE eInt p1, hI p2] (· = HV.tup [slE eWordEnds r.1, hI r.2]) := by
 unfold qdj at h
 refine zaj Tryz.func152 rfl rfl (lb rfl) fun hf => ?_
 unfold Tryz.f152
 dsimp only [qaH, Nat.reduceAdd]
 refine zaa rfl fun K hK => b_op rfl (qa5 rfl rfl rfl ?_)
 refine mv rfl rfl (mv rfl rfl ?_)
 let P2 : ASf := fun t H => ⟨(1, slE eInt p1) :: (2, hI p2) :: (3, gF p0) :: t, H⟩
 refine bf hK (P2 [] []) ?_
 refine zaa rfl fun K hK => b_op rfl (qfE (fid := 152) 152010 rfl rfl rfl (qbV (cs := []) qfX qj6 rfl rfl rfl rfl rfl) (fun v1 => ?_))
 refine mv rfl rfl ?_
 refine bf hK (P2 [(8, .ar 152010 v1 eWordEnds.k 0 0)] [(152010, v1, .arr eWordEnds.k 192 [])]) ?_
 refine zad ?_
 refine zaa rfl fun K hK => mv rfl rfl (bv rfl (qaI rfl rfl ty31 rfl) (bv rfl (qae rfl rfl qbh) ?_))
 refine bf hK (P2 [(8, .ar 152010 v1 eWordEnds.k 0 0), (13, .bool (decide (0 < ((p1).length : Int))))] [(152010, v1, .arr eWordEnds.k 192 [])]) ?_
 let P3 : ASf := fun t H => ⟨(2, hI p2) :: (3, gF p0) :: t, H⟩
 refine AW.lastJ h (by first | exact qaG | exact qbp) (S := (List qaC)) (V := Nat) (fun a v => (P3 [(8, .ar 152010 v eWordEnds.k 0 ((a).length))] [(152010, v, .arr eWordEnds.k 192 (eWordEnds.E a))])) (fun a2 w3 h => ?_) (fun k4 h => ?_)
 ·refine zad ?_
  refine zaa rfl fun K hK => mv rfl rfl ?_
  refine bf hK (P3 [(8, .ar 152010 w3 eWordEnds.k 0 ((a2).length)), (9, hI 0)] [(152010, w3, .arr eWordEnds.k 192 (eWordEnds.E a2))]) ?_
  refine AW.lpR h (by first | exact qaG | exact qbp) (S := (List qaC) × Int) (V := Unit) (fun a v => (P3 [(8, slE eWordEnds a.1), (9, hI a.2)] [])) ?_ (X := (List qaC)) (W := Unit) (fun a v => ⟨[(8, slE eWordEnds a)], []⟩) (fun a15 w16 h => ?_) (fun a5 w6 st7 h hr8=> ?_)
  ·refine qfv (qdN 2 [(152010, w3, .arr eWordEnds.k 192 (eWordEnds.E a2))] (P3 [(8, slE eWordEnds a2), (9, hI 0)] []) ⟨⟨_, rfl, rfl⟩, ⟨_, rfl, rfl⟩, ⟨_, rfl, qbw eWordEnds (l := a2) rfl fun _ _ => rfl⟩, ⟨_, rfl, rfl⟩, trivial⟩ trivial ⟨rfl, trivial⟩ ⟨rfl, trivial⟩ ?_)
   exact to_L ⟨(), rfl⟩
  ·refine zaa rfl fun K hK => mv rfl rfl (mv rfl rfl (mv rfl rfl ?_))
   refine bf hK ⟨[(6, slE eWordEnds a15), (7, hI 0)], []⟩ ?_
   obtain rfl := oi h
   exact AW.ret (qad (.inr rfl) (resT rfl (resT rfl rfl)) rfl ⟨(qai fun _ _ => ⟨trivial, (qai fun _ _ => ⟨trivial, trivial⟩), trivial⟩), trivial, trivial⟩)
  refine zad ?_
  refine zag h (S := Bool) (V := Unit) (fun a v => (P3 [(8, slE eWordEnds a5.1), (9, hI a5.2), (26, .bool a)] [])) (fun a9 w10 h => ?_) (fun k11 h => ?_)
  ·refine zae rfl (fun hc => ?_) (fun hc => ?_)
   ·have h := ifT hc h
    refine zac ?_
    refine zad (zaf ?_)
    refine zaa rfl fun K hK => bv rfl (qab ty27 rfl (qav rfl (lb rfl) rfl)) (mv rfl rfl ?_)
    obtain ⟨x12, h13, h⟩ := bS h
    refine b_op rfl (qaB rfl rfl rfl rfl (zai (qkR h13)) ?_)
    refine mv rfl rfl ?_
    refine bf hK (P3 [(8, slE eWordEnds x12), (9, hI a5.2)] []) ?_
    refine zaa rfl fun K hK => mv rfl rfl (bv rfl (qaI rfl rfl qfX rfl) (bv rfl (qae rfl rfl qbh) ?_))
    refine bf hK (P3 [(8, slE eWordEnds x12), (9, hI a5.2), (34, .bool (decide (4096 < ((x12).length : Int))))] []) ?_
    refine zae rfl (fun hc => ?_) (fun hc => ?_)
    ·obtain ⟨hc, h⟩ := cT hc h
     refine zaa rfl fun K hK => mv rfl rfl (mv rfl rfl ?_)
     refine bf hK ⟨[(6, .v (.slice none 0 0)), (7, hI 4)], []⟩ ?_
     have h := hr8 _ h
     refine AW.to (qct ⟨[(6, slE eWordEnds ([] : List qaC)), (7, hI 4)], []⟩ ⟨⟨_, rfl, .nil _⟩, ⟨_, rfl, .refl _⟩, trivial⟩ trivial ?_)
     obtain rfl := oi h
     exact AW.ret (qad (.inr rfl) (resT rfl (resT rfl rfl)) rfl ⟨(qai fun _ _ => ⟨trivial, (qai fun _ _ => ⟨trivial, trivial⟩), trivial⟩), trivial, trivial⟩)
    obtain ⟨hc, h⟩ := cF hc h
    refine zac ?_
    refine zab rfl fun K hK => mv rfl rfl (bv rfl (qae rfl rfl qa6) (mv rfl rfl ?_))
    refine qah (hK _ ?_)
    exact to_L ⟨(x12, IntKind.wrap .i64 (a5.2 + 1)), (), h, rfl⟩
   have h := ifF (bF' hc) h
   refine AW.exit ?_
   exact to_L ⟨a5.1, (), h, rfl⟩
  refine zab rfl fun K hK => mv rfl rfl (mv rfl rfl (bv rfl (qae rfl rfl qaV) (mv rfl rfl ?_)))
  by_cases hg14 : a5.2 < p2
  ·have h := ifT hg14 h
   refine b_T rfl rfl rfl rfl (decide_eq_true hg14) (qaf rfl (qas rfl rfl).2 ?_)
   refine b_T rfl rfl rfl rfl rfl (qaf rfl (qaI rfl rfl qfX rfl) ?_)
   refine b_T rfl rfl rfl rfl rfl (qaf rfl (qae rfl rfl qbh) ?_)
   refine bv rfl (qaj rfl rfl rfl) ?_
   refine qah (hK _ ?_)
   exact to_L ⟨decide (0 < ((a5.1).length : Int)), (), h, rfl⟩
  have h := ifF hg14 h
  refine b_F rfl rfl rfl rfl rfl (decide_eq_false hg14) ?_
  iterate 2 refine b_F rfl rfl rfl rfl rfl rfl ?_
  refine bv rfl (qak rfl rfl rfl) ?_
  refine qah (hK _ ?_)
  exact to_L ⟨false, (), h, rfl⟩
 refine zae rfl (fun hc => ?_) (fun hc => ?_)
 ·obtain ⟨hc, h⟩ := cT hc h
  refine zab rfl fun K hK => mv rfl rfl (mv rfl rfl ?_)
  refine b_op rfl (qbC (cs := [.str nS, slE eInt p1]) rfl (qea qj6 rfl rfl rfl rfl) ?_)
  refine b_op rfl (qdX rfl rfl (qbV (cs := [.str nS, slE eInt p1]) qfX qj6 rfl rfl rfl rfl rfl) ?_)
  obtain ⟨h18, h⟩ := ifN h
  refine b_op rfl (qdh eWordEnds (l := []) (m := [(nS, p1)]) rfl rfl qfX qfX qj6 rfl rfl rfl rfl rfl h18 (fun v17 => ?_))
  refine mv rfl rfl ?_
  refine qah (hK _ ?_)
  exact to_L ⟨([] : List qaC) ++ [(nS, p1)], v17, h, rfl⟩
 obtain ⟨hc, h⟩ := cF hc h
 refine zac ?_
 exact to_L ⟨[], v1, h, rfl⟩
theorem qj0 {p0 : List (qaC)} {r : (List (List UInt8))} (h : qdk p0 = some r) : Pure Tryz.prog 154 [slE eWordEnds p0] (· = slE eStr r) := by
 unfold qdk at h
 refine zaj Tryz.func154 rfl rfl (lb rfl) fun hf => ?_
 unfold Tryz.f154
 dsimp only [qaH, Nat.reduceAdd]
 refine zaa rfl fun K hK => mv rfl rfl ?_
 let P4 : ASf := fun t H => ⟨(0, slE eWordEnds p0) :: t, H⟩
 refine bf hK (P4 [] []) ?_
 refine zaa rfl fun K hK => b_op rfl (qfE (fid := 154) 154005 rfl rfl rfl (qbV (cs := []) ty22 ty9 rfl rfl rfl rfl rfl) (fun v1 => ?_))
 refine mv rfl rfl ?_
 refine bf hK (P4 [(3, .ar 154005 v1 eStr.k 0 0)] [(154005, v1, .arr eStr.k 9 [])]) ?_
 refine zad ?_
 refine zaa rfl fun K hK => mv rfl rfl ?_
 refine bf hK (P4 [(3, .ar 154005 v1 eStr.k 0 0), (4, hI 0)] [(154005, v1, .arr eStr.k 9 [])]) ?_
 refine AW.lpX h (by first | exact qaG | exact qbp) (S := Int × (List (List UInt8))) (V := Nat) (fun a v => (P4 [(3, .ar 154005 v eStr.k 0 ((a.2).length)), (4, hI a.1)] [(154005, v, .arr eStr.k 9 (eStr.E a.2))])) ?_ (X := (List (List UInt8))) (W := Nat) (fun a v => ⟨[(3, .ar 154005 v eStr.k 0 ((a).length))], [(154005, v, .arr eStr.k 9 (eStr.E a))]⟩) (fun a10 w11 h => ?_) (fun a2 w3 st4 h => ?_)
 ·exact to_L ⟨v1, rfl⟩
 ·refine zaa rfl fun K hK => mv rfl rfl (mv rfl rfl ?_)
  refine bf hK ⟨[(2, .ar 154005 w11 eStr.k 0 ((a10).length))], [(154005, w11, .arr eStr.k 9 (eStr.E a10))]⟩ ?_
  refine AW.to (qdN 2 [(154005, w11, .arr eStr.k 9 (eStr.E a10))] ⟨[(2, slE eStr a10)], []⟩ ⟨⟨_, rfl, qbw eStr (l := a10) rfl fun _ _ => rfl⟩, trivial⟩ trivial ⟨rfl, trivial⟩ ⟨rfl, trivial⟩ ?_)
  obtain rfl := oi h
  exact AW.ret (qad (.inr rfl) (resT rfl rfl) rfl (qai fun _ _ => ⟨trivial, trivial⟩))
 refine zad ?_
 refine zaa rfl fun K hK => mv rfl rfl (mv rfl rfl (bv rfl (qaI rfl rfl qfX rfl) (bv rfl (qae rfl rfl qaV) ?_)))
 refine bf hK (P4 [(3, .ar 154005 w3 eStr.k 0 ((a2.2).length)), (4, hI a2.1), (9, .bool (decide (a2.1 < ((p0).length : Int))))] [(154005, w3, .arr eStr.k 9 (eStr.E a2.2))]) ?_
 refine zae rfl (fun hc => ?_) (fun hc => ?_)
 ·obtain ⟨hc, h⟩ := cT hc h
  refine zac ?_
  refine zad (zaf ?_)
  refine zab rfl fun K hK => mv rfl rfl (mv rfl rfl (mv rfl rfl ?_))
  obtain ⟨x6, h7, h⟩ := bS h
  refine bv rfl (qaJ qfX qrX rfl rfl (qaw h7)) (bv rfl (qac qpn rfl) (bv rfl (qab ty9 rfl (qaL eWordEnds h7 (o := 0) rfl rfl)) ?_))
  refine b_op rfl (qdX rfl rfl (qbV (cs := [.str x6.1]) ty22 ty9 rfl rfl rfl rfl rfl) ?_)
  obtain ⟨h9, h⟩ := ifN h
  refine b_op rfl (qdh eStr (l := a2.2) (m := [x6.1]) rfl rfl ty22 ty22 ty9 rfl rfl rfl rfl rfl h9 (fun v8 => ?_))
  refine mv rfl rfl ?_
  refine bf hK (P4 [(3, .ar 154005 v8 eStr.k 0 ((a2.2 ++ [x6.1]).length)), (4, hI a2.1)] [(154005, v8, .arr eStr.k 9 (eStr.E (a2.2 ++ [x6.1])))]) ?_
  refine zab rfl fun K hK => mv rfl rfl (bv rfl (qae rfl rfl qa6) (mv rfl rfl ?_))
  refine qah (hK _ ?_)
  exact to_L ⟨(IntKind.wrap .i64 (a2.1 + 1), a2.2 ++ [x6.1]), v8, h, rfl⟩
 obtain ⟨hc, h⟩ := cF hc h
 refine AW.exit ?_
 exact to_L ⟨a2.2, w3, h, rfl⟩
theorem qj1 {p0 : qaa} {p1 : Int} {r : (List (List UInt8)) × Int} (h : qcG p0 p1 = some r) : Pure Tryz.prog 101 [gA p0, hI p1] (· = HV.tup [slE eStr r.1, hI r.2]) := by
 unfold qcG at h
 refine zaj Tryz.func101 rfl rfl (lb rfl) fun hf => ?_
 unfold Tryz.f101
 dsimp only [qaH, Nat.reduceAdd]
 refine zaa rfl fun K hK => b_op rfl (qa5 rfl rfl rfl ?_)
 refine mv rfl rfl (mv rfl rfl ?_)
 refine bf hK ⟨[(1, hI p1), (2, gF p0)], []⟩ ?_
 refine zad ?_
 refine zaa rfl fun K hK => bv rfl (qab ty27 rfl (qav rfl (lb rfl) rfl)) (mv rfl rfl ?_)
 obtain ⟨x1, h2, h⟩ := bS h
 refine b_op rfl (qaB rfl rfl rfl rfl (zai (qf4 h2)) ?_)
 refine mv rfl rfl ?_
 refine bf hK ⟨[(1, hI p1), (2, gF p0), (6, hI x1)], []⟩ ?_
 refine zaa rfl fun K hK => mv rfl rfl (bv rfl (qae rfl rfl qcL) ?_)
 refine bf hK ⟨[(1, hI p1), (2, gF p0), (6, hI x1), (13, .bool (decide (x1 ≠ 0)))], []⟩ ?_
 refine zae rfl (fun hc => ?_) (fun hc => ?_)
 ·obtain ⟨hc, h⟩ := cT hc h
  refine zaa rfl fun K hK => mv rfl rfl (mv rfl rfl (mv rfl rfl ?_))
  refine bf hK ⟨[(4, .v (.slice none 0 0)), (5, hI x1)], []⟩ ?_
  refine AW.to (qct ⟨[(4, slE eStr ([] : List (List UInt8))), (5, hI x1)], []⟩ ⟨⟨_, rfl, .nil _⟩, ⟨_, rfl, .refl _⟩, trivial⟩ trivial ?_)
  obtain rfl := oi h
  exact AW.ret (qad (.inr rfl) (resT rfl (resT rfl rfl)) rfl ⟨(qai fun _ _ => ⟨trivial, trivial⟩), trivial, trivial⟩)
 obtain ⟨hc, h⟩ := cF hc h
 refine zac ?_
 refine AW.dgs 10 follows rfl rfl fun K hK => ?_
 refine sv rfl (qab ty27 rfl (qav rfl (lb rfl) rfl)) ?_
 refine sv rfl (qab ty27 rfl (qav rfl (lb rfl) rfl)) ?_
 obtain ⟨x3, h4, h⟩ := bS h
 refine s_op rfl rfl (qaR rfl rfl rfl rfl (zai (qif h4)) ?_)
 refine sm rfl rfl ?_
 obtain ⟨x5, h6, h⟩ := bS h
 refine s_op rfl rfl (qaR rfl rfl rfl rfl (zai (qjZ h6)) ?_)
 refine sm rfl rfl ?_
 refine sv rfl (qaq rfl rfl) ?_
 refine sv rfl (qaq rfl rfl) ?_
 iterate 2 refine sm rfl rfl ?_
 refine qbU ?_
 refine bf hK ⟨[(7, slE eWordEnds x5.1), (8, hI x5.2)], []⟩ ?_
 refine zad ?_
 refine zaa rfl fun K hK => mv rfl rfl (bv rfl (qae rfl rfl qcL) ?_)
 refine bf hK ⟨[(7, slE eWordEnds x5.1), (8, hI x5.2), (24, .bool (decide (x5.2 ≠ 0)))], []⟩ ?_
 refine zae rfl (fun hc => ?_) (fun hc => ?_)
 ·obtain ⟨hc, h⟩ := cT hc h
  refine zaa rfl fun K hK => mv rfl rfl (mv rfl rfl (mv rfl rfl ?_))
  refine bf hK ⟨[(4, .v (.slice none 0 0)), (5, hI x5.2)], []⟩ ?_
  refine AW.to (qct ⟨[(4, slE eStr ([] : List (List UInt8))), (5, hI x5.2)], []⟩ ⟨⟨_, rfl, .nil _⟩, ⟨_, rfl, .refl _⟩, trivial⟩ trivial ?_)
  obtain rfl := oi h
  exact AW.ret (qad (.inr rfl) (resT rfl (resT rfl rfl)) rfl ⟨(qai fun _ _ => ⟨trivial, trivial⟩), trivial, trivial⟩)
 obtain ⟨hc, h⟩ := cF hc h
 refine zac ?_
 refine zaa rfl fun K hK => mv rfl rfl ?_
 obtain ⟨x7, h8, h⟩ := bS h
 refine b_op rfl (qaB rfl rfl rfl rfl (zai (qj0 h8)) ?_)
 refine mv rfl rfl (mv rfl rfl ?_)
 refine bf hK ⟨[(4, slE eStr x7), (5, hI 0)], []⟩ ?_
 obtain rfl := oi h
 exact AW.ret (qad (.inr rfl) (resT rfl (resT rfl rfl)) rfl ⟨(qai fun _ _ => ⟨trivial, trivial⟩), trivial, trivial⟩)
theorem qlQ {p0 : Int} {p1 : Int} {r : (List (List UInt8)) × Int} (h : qdB p0 p1 = some r) : Pure Tryz.prog 102 [hI p0, hI p1] (· = HV.tup [slE eStr r.1, hI r.2]) := by
 unfold qdB at h
 refine zaj Tryz.func102 rfl rfl (lb rfl) fun hf => ?_
 unfold Tryz.f102
 dsimp only [qaH, Nat.reduceAdd]
 refine zaa rfl fun K hK => mv rfl rfl (mv rfl rfl ?_)
 let P5 : ASf := fun t H => ⟨(0, hI p0) :: (1, hI p1) :: t, H⟩
 refine bf hK (P5 [] []) ?_
 refine zad ?_
 refine zag h (S := Bool) (V := Unit) (fun a v => (P5 [(16, .bool a)] [])) (fun a1 w2 h => ?_) (fun k3 h => ?_)
 ·refine zae rfl (fun hc => ?_) (fun hc => ?_)
  ·have h := ifT hc h
   refine zaa rfl fun K hK => mv rfl rfl (mv rfl rfl ?_)
   refine bf hK ⟨[(4, .v (.slice none 0 0)), (5, hI 12)], []⟩ ?_
   refine AW.to (qct ⟨[(4, slE eStr ([] : List (List UInt8))), (5, hI 12)], []⟩ ⟨⟨_, rfl, .nil _⟩, ⟨_, rfl, .refl _⟩, trivial⟩ trivial ?_)
   obtain rfl := oi h
   exact AW.ret (qad (.inr rfl) (resT rfl (resT rfl rfl)) rfl ⟨(qai fun _ _ => ⟨trivial, trivial⟩), trivial, trivial⟩)
  have h := ifF (bF' hc) h
  refine zac ?_
  refine zad ?_
  refine zaa rfl fun K hK => mv rfl rfl (bv rfl (qae rfl rfl qaV) ?_)
  refine bf hK (P5 [(18, .bool (decide (p1 < 0)))] []) ?_
  refine zae rfl (fun hc => ?_) (fun hc => ?_)
  ·obtain ⟨hc, h⟩ := cT hc h
   refine zaa rfl fun K hK => mv rfl rfl (mv rfl rfl ?_)
   refine bf hK ⟨[(4, .v (.slice none 0 0)), (5, hI 2)], []⟩ ?_
   refine AW.to (qct ⟨[(4, slE eStr ([] : List (List UInt8))), (5, hI 2)], []⟩ ⟨⟨_, rfl, .nil _⟩, ⟨_, rfl, .refl _⟩, trivial⟩ trivial ?_)
   obtain rfl := oi h
   exact AW.ret (qad (.inr rfl) (resT rfl (resT rfl rfl)) rfl ⟨(qai fun _ _ => ⟨trivial, trivial⟩), trivial, trivial⟩)
  obtain ⟨hc, h⟩ := cF hc h
  refine zac ?_
  refine zad ?_
  refine zaa rfl fun K hK => mv rfl rfl (bv rfl (qae rfl rfl qbh) ?_)
  refine bf hK (P5 [(20, .bool (decide (65536 < p1)))] []) ?_
  refine zae rfl (fun hc => ?_) (fun hc => ?_)
  ·obtain ⟨hc, h⟩ := cT hc h
   refine zaa rfl fun K hK => mv rfl rfl (mv rfl rfl ?_)
   refine bf hK ⟨[(4, .v (.slice none 0 0)), (5, hI 4)], []⟩ ?_
   refine AW.to (qct ⟨[(4, slE eStr ([] : List (List UInt8))), (5, hI 4)], []⟩ ⟨⟨_, rfl, .nil _⟩, ⟨_, rfl, .refl _⟩, trivial⟩ trivial ?_)
   obtain rfl := oi h
   exact AW.ret (qad (.inr rfl) (resT rfl (resT rfl rfl)) rfl ⟨(qai fun _ _ => ⟨trivial, trivial⟩), trivial, trivial⟩)
  obtain ⟨hc, h⟩ := cF hc h
  refine zac ?_
  refine zaa rfl fun K hK => b_op rfl (qdX rfl rfl (qbV (cs := [.str nS]) ty22 ty9 rfl rfl rfl rfl rfl) ?_)
  refine mv rfl rfl ?_
  refine bf hK (P5 [(6, slE eStr [nS])] []) ?_
  refine zad ?_
  refine zaa rfl fun K hK => mv rfl rfl ?_
  refine bf hK (P5 [(6, slE eStr [nS]), (7, hI 0)] []) ?_
  refine AW.lpR h (by first | exact qaG | exact qbp) (S := (List (List UInt8)) × Int) (V := Unit) (fun a v => (P5 [(6, slE eStr a.1), (7, hI a.2)] [])) ?_ (X := (List (List UInt8))) (W := Unit) (fun a v => ⟨[(6, slE eStr a)], []⟩) (fun a27 w28 h => ?_) (fun a4 w5 st6 h hr7=> ?_)
  ·exact to_L ⟨(), rfl⟩
  ·refine zaa rfl fun K hK => mv rfl rfl (mv rfl rfl (mv rfl rfl ?_))
   refine bf hK ⟨[(4, slE eStr a27), (5, hI 0)], []⟩ ?_
   obtain rfl := oi h
   exact AW.ret (qad (.inr rfl) (resT rfl (resT rfl rfl)) rfl ⟨(qai fun _ _ => ⟨trivial, trivial⟩), trivial, trivial⟩)
  refine zad ?_
  refine zaa rfl fun K hK => mv rfl rfl (mv rfl rfl (bv rfl (qae rfl rfl qaV) ?_))
  refine bf hK (P5 [(6, slE eStr a4.1), (7, hI a4.2), (24, .bool (decide (a4.2 < p1)))] []) ?_
  refine zae rfl (fun hc => ?_) (fun hc => ?_)
  ·obtain ⟨hc, h⟩ := cT hc h
   refine zac ?_
   refine zad (zaf ?_)
   refine zad ?_
   refine zaa rfl fun K hK => mv rfl rfl (bv rfl (qaI rfl rfl ty22 rfl) (mv rfl rfl (bv rfl (qae rfl rfl qpB) (bv rfl (qae rfl rfl qbh) ?_))))
   refine bf hK (P5 [(6, slE eStr a4.1), (7, hI a4.2), (31, .bool (decide (4096 < (IntKind.wrap .i64 (((a4.1).length : Int) * p0)))))] []) ?_
   refine zae rfl (fun hc => ?_) (fun hc => ?_)
   ·obtain ⟨hc, h⟩ := cT hc h
    refine zaa rfl fun K hK => mv rfl rfl (mv rfl rfl ?_)
    refine bf hK ⟨[(4, .v (.slice none 0 0)), (5, hI 4)], []⟩ ?_
    have h := hr7 _ h
    refine AW.to (qct ⟨[(4, slE eStr ([] : List (List UInt8))), (5, hI 4)], []⟩ ⟨⟨_, rfl, .nil _⟩, ⟨_, rfl, .refl _⟩, trivial⟩ trivial ?_)
    obtain rfl := oi h
    exact AW.ret (qad (.inr rfl) (resT rfl (resT rfl rfl)) rfl ⟨(qai fun _ _ => ⟨trivial, trivial⟩), trivial, trivial⟩)
   obtain ⟨hc, h⟩ := cF hc h
   refine zac ?_
   refine zaa rfl fun K hK => b_op rfl (qfE (fid := 102) 102032 rfl rfl rfl (qbV (cs := []) ty22 ty9 rfl rfl rfl rfl rfl) (fun v8 => ?_))
   refine mv rfl rfl ?_
   refine bf hK (P5 [(6, slE eStr a4.1), (7, hI a4.2), (8, .ar 102032 v8 eStr.k 0 0)] [(102032, v8, .arr eStr.k 9 [])]) ?_
   refine zad ?_
   refine zaa rfl fun K hK => mv rfl rfl ?_
   refine bf hK (P5 [(6, slE eStr a4.1), (7, hI a4.2), (8, .ar 102032 v8 eStr.k 0 0), (9, hI 0)] [(102032, v8, .arr eStr.k 9 [])]) ?_
   refine AW.lpX h (by first | exact qaG | exact qbp) (S := Int × (List (List UInt8))) (V := Nat) (fun a v => (P5 [(6, slE eStr a4.1), (7, hI a4.2), (8, .ar 102032 v eStr.k 0 ((a.2).length)), (9, hI a.1)] [(102032, v, .arr eStr.k 9 (eStr.E a.2))])) ?_ (X := (List (List UInt8))) (W := Nat) (fun a v => (P5 [(7, hI a4.2), (8, .ar 102032 v eStr.k 0 ((a).length))] [(102032, v, .arr eStr.k 9 (eStr.E a))])) (fun a25 w26 h => ?_) (fun a9 w10 st11 h => ?_)
   ·exact to_L ⟨v8, rfl⟩
   ·refine zab rfl fun K hK => mv rfl rfl (mv rfl rfl ?_)
    refine bf hK (P5 [(6, .ar 102032 w26 eStr.k 0 ((a25).length)), (7, hI a4.2)] [(102032, w26, .arr eStr.k 9 (eStr.E a25))]) ?_
    refine zab rfl fun K hK => mv rfl rfl (bv rfl (qae rfl rfl qa6) (mv rfl rfl ?_))
    refine qah (hK _ ?_)
    refine qfv (qdN 2 [(102032, w26, .arr eStr.k 9 (eStr.E a25))] (P5 [(6, slE eStr a25), (7, hI (IntKind.wrap .i64 (a4.2 + 1)))] []) ⟨⟨_, rfl, rfl⟩, ⟨_, rfl, rfl⟩, ⟨_, rfl, qbw eStr (l := a25) rfl fun _ _ => rfl⟩, ⟨_, rfl, rfl⟩, trivial⟩ trivial ⟨rfl, trivial⟩ ⟨rfl, trivial⟩ ?_)
    exact to_L ⟨(a25, IntKind.wrap .i64 (a4.2 + 1)), (), h, rfl⟩
   refine zad ?_
   refine zaa rfl fun K hK => mv rfl rfl (mv rfl rfl (bv rfl (qaI rfl rfl ty22 rfl) (bv rfl (qae rfl rfl qaV) ?_)))
   refine bf hK (P5 [(6, slE eStr a4.1), (7, hI a4.2), (8, .ar 102032 w10 eStr.k 0 ((a9.2).length)), (9, hI a9.1), (36, .bool (decide (a9.1 < ((a4.1).length : Int))))] [(102032, w10, .arr eStr.k 9 (eStr.E a9.2))]) ?_
   refine zae rfl (fun hc => ?_) (fun hc => ?_)
   ·obtain ⟨hc, h⟩ := cT hc h
    refine zac ?_
    refine zad (zaf ?_)
    refine zaa rfl fun K hK => mv rfl rfl ?_
    refine bf hK (P5 [(6, slE eStr a4.1), (7, hI a4.2), (8, .ar 102032 w10 eStr.k 0 ((a9.2).length)), (9, hI a9.1), (10, hI 0)] [(102032, w10, .arr eStr.k 9 (eStr.E a9.2))]) ?_
    refine AW.lpX h (by first | exact qaG | exact qbp) (S := Int × (List (List UInt8))) (V := Nat) (fun a v => (P5 [(6, slE eStr a4.1), (7, hI a4.2), (8, .ar 102032 v eStr.k 0 ((a.2).length)), (9, hI a9.1), (10, hI a.1)] [(102032, v, .arr eStr.k 9 (eStr.E a.2))])) ?_ (X := (List (List UInt8))) (W := Nat) (fun a v => (P5 [(6, slE eStr a4.1), (7, hI a4.2), (8, .ar 102032 v eStr.k 0 ((a).length)), (9, hI a9.1)] [(102032, v, .arr eStr.k 9 (eStr.E a))])) (fun a23 w24 h => ?_) (fun a13 w14 st15 h => ?_)
    ·exact to_L ⟨w10, rfl⟩
    ·refine zab rfl fun K hK => mv rfl rfl (bv rfl (qae rfl rfl qa6) (mv rfl rfl ?_))
     refine qah (hK _ ?_)
     exact to_L ⟨(IntKind.wrap .i64 (a9.1 + 1), a23), w24, h, rfl⟩
    refine zad ?_
    refine zaa rfl fun K hK => mv rfl rfl (mv rfl rfl (bv rfl (qae rfl rfl qaV) ?_))
    refine bf hK (P5 [(6, slE eStr a4.1), (7, hI a4.2), (8, .ar 102032 w14 eStr.k 0 ((a13.2).length)), (9, hI a9.1), (10, hI a13.1), (41, .bool (decide (a13.1 < p0)))] [(102032, w14, .arr eStr.k 9 (eStr.E a13.2))]) ?_
    refine zae rfl (fun hc => ?_) (fun hc => ?_)
    ·obtain ⟨hc, h⟩ := cT hc h
     refine zac ?_
     refine zad (zaf ?_)
     refine AW.dg 11 follows rfl rfl fun K hK => ?_
     iterate 3 refine sm rfl rfl ?_
     obtain ⟨x17, h18, h⟩ := bS h
     refine sv rfl (qaJ ty22 es22 rfl rfl (qaw h18)) ?_
     refine sv rfl (qab ty9 rfl (qaL eStr h18 (o := 0) rfl rfl)) ?_
     iterate 2 refine sm rfl rfl ?_
     refine sv rfl (qae rfl rfl qa6) ?_
     obtain ⟨h19, h⟩ := ifN h
     refine sv rfl (qhX ty9 rfl rfl rfl h19) ?_
     obtain ⟨h20, h⟩ := ifN h
     refine sv rfl (qae rfl rfl (qf2 h20)) ?_
     refine s_op rfl rfl (qg9 rfl rfl (qbV (cs := [.str (x17 ++ ((([48, 49, 50, 51, 52, 53, 54, 55, 56, 57, 97, 98, 99, 100, 101, 102] : List UInt8).take (IntKind.wrap .i64 (a13.1 + 1)).toNat).drop (a13.1).toNat))]) ty22 ty9 rfl rfl rfl rfl rfl) ?_)
     refine qbU ?_
     obtain ⟨h22, h⟩ := ifN h
     refine b_op rfl (qdh eStr (l := a13.2) (m := [x17 ++ ((([48, 49, 50, 51, 52, 53, 54, 55, 56, 57, 97, 98, 99, 100, 101, 102] : List UInt8).take (IntKind.wrap .i64 (a13.1 + 1)).toNat).drop (a13.1).toNat)]) rfl rfl ty22 ty22 ty9 rfl rfl rfl rfl rfl h22 (fun v21 => ?_))
     refine mv rfl rfl ?_
     refine bf hK (P5 [(6, slE eStr a4.1), (7, hI a4.2), (8, .ar 102032 v21 eStr.k 0 ((a13.2 ++ [x17 ++ ((([48, 49, 50, 51, 52, 53, 54, 55, 56, 57, 97, 98, 99, 100, 101, 102] : List UInt8).take (IntKind.wrap .i64 (a13.1 + 1)).toNat).drop (a13.1).toNat)]).length)), (9, hI a9.1), (10, hI a13.1)] [(102032, v21, .arr eStr.k 9 (eStr.E (a13.2 ++ [x17 ++ ((([48, 49, 50, 51, 52, 53, 54, 55, 56, 57, 97, 98, 99, 100, 101, 102] : List UInt8).take (IntKind.wrap .i64 (a13.1 + 1)).toNat).drop (a13.1).toNat)])))]) ?_
     refine zab rfl fun K hK => mv rfl rfl (bv rfl (qae rfl rfl qa6) (mv rfl rfl ?_))
     refine qah (hK _ ?_)
     exact to_L ⟨(IntKind.wrap .i64 (a13.1 + 1), a13.2 ++ [x17 ++ ((([48, 49, 50, 51, 52, 53, 54, 55, 56, 57, 97, 98, 99, 100, 101, 102] : List UInt8).take (IntKind.wrap .i64 (a13.1 + 1)).toNat).drop (a13.1).toNat)]), v21, h, rfl⟩
    obtain ⟨hc, h⟩ := cF hc h
    refine AW.exit ?_
    exact to_L ⟨a13.2, w14, h, rfl⟩
   obtain ⟨hc, h⟩ := cF hc h
   refine AW.exit ?_
   exact to_L ⟨a9.2, w10, h, rfl⟩
  obtain ⟨hc, h⟩ := cF hc h
  refine AW.exit ?_
  exact to_L ⟨a4.1, (), h, rfl⟩
 refine zab rfl fun K hK => mv rfl rfl (bv rfl (qae rfl rfl qaV) (mv rfl rfl ?_))
 by_cases hg29 : p0 < 1
 ·have h := ifT hg29 h
  refine b_F rfl rfl rfl rfl rfl (decide_eq_true hg29) ?_
  refine b_F rfl rfl rfl rfl rfl rfl ?_
  refine bv rfl (qaj rfl rfl rfl) ?_
  refine qah (hK _ ?_)
  exact to_L ⟨true, (), h, rfl⟩
 have h := ifF hg29 h
 refine b_T rfl rfl rfl rfl (decide_eq_false hg29) (qaf rfl (qas rfl rfl).2 ?_)
 refine b_T rfl rfl rfl rfl rfl (qaf rfl (qae rfl rfl qbh) ?_)
 refine bv rfl (qak rfl rfl rfl) ?_
 refine qah (hK _ ?_)
 exact to_L ⟨decide (16 < p0), (), h, rfl⟩
theorem qjY {p0 : qaa} {p1 : Int} {p2 : Int} {p3 : Int} {r : qap × Int} (h : qcF p0 p1 p2 p3 = some r) : Pure Tryz.prog 47 [gA p0, hI p1, hI p2, hI p3] (· = HV.tup [.agg [slE eStr r.1.1, slE eStr r.1.2], hI r.2]) := by
 unfold qcF at h
 refine zaj Tryz.func47 rfl rfl (lb rfl) fun hf => ?_
 unfold Tryz.f47
 dsimp only [qaH, Nat.reduceAdd]
 refine zaa rfl fun K hK => b_op rfl (qa5 rfl rfl rfl ?_)
 refine b_op rfl (qba (fid := 47) (zs := [.v (.slice none 0 0), .v (.slice none 0 0)]) 47008 rfl rfl ty24 rfl (fun v1 => ?_))
 refine mv rfl rfl ?_
 let O1 : Nat × Nat × AObj := (47008, v1, .arr 2 24 [.v (.slice none 0 0), .v (.slice none 0 0)])
 let P1 : ASf := fun t H => ⟨(1, hI p1) :: (2, hI p2) :: (3, hI p3) :: (4, gF p0) :: (8, .ptr 47008 v1 0) :: t, O1 :: H⟩
 refine bf hK (P1 [] []) ?_
 refine zad ?_
 refine zaa rfl fun K hK => bv rfl (qab ty27 rfl (qav rfl (lb rfl) rfl)) ?_
 obtain ⟨x2, h3, h⟩ := bS h
 refine b_op rfl (qaB rfl rfl rfl rfl (zai (qd4 h3)) ?_)
 refine bv rfl (qae rfl rfl qcL) ?_
 refine bf hK (P1 [(22, .bool (decide (x2 ≠ 0)))] []) ?_
 refine zae rfl (fun hc => ?_) (fun hc => ?_)
 ·obtain ⟨hc, h⟩ := cT hc h
  refine zaa rfl fun K hK => b_op rfl (qbC (cs := [.v (.slice none 0 0), .v (.slice none 0 0)]) rfl (qea ty24 rfl rfl rfl rfl) ?_)
  refine b_op rfl (qaD (cs := [.v (.slice none 0 0), .v (.slice none 0 0)]) (zs := [.v (.slice none 0 0), .v (.slice none 0 0)]) rfl rfl rfl ty24 rfl rfl rfl rfl rfl ?_)
  refine mv rfl rfl ?_
  refine bf hK ⟨[(8, .ptr 47008 v1 0), (9, hI 1)], [O1]⟩ ?_
  refine AW.to (qcE 47008 v1 (ds := [slE eStr ([] : List (List UInt8)), slE eStr ([] : List (List UInt8))]) rfl (.cons (.nil _) <| .cons (.nil _) <| .nil) ?_)
  obtain rfl := oi h
  exact AW.ret (qad (.inr rfl) (resP ty24 rfl rfl (qav rfl (lb rfl) rfl) (resT rfl rfl)) rfl ⟨⟨(qai fun _ _ => ⟨trivial, trivial⟩), (qai fun _ _ => ⟨trivial, trivial⟩), trivial⟩, trivial, trivial⟩)
 obtain ⟨hc, h⟩ := cF hc h
 refine zac ?_
 refine zad ?_
 refine zaa rfl fun K hK => bv rfl (qac qez rfl) (bv rfl (qab ty3 rfl (qan rfl rfl)) (bv rfl (qae rfl rfl qcL) ?_))
 refine bf hK (P1 [(26, .bool (decide (p0.1 ≠ 2)))] []) ?_
 refine zae rfl (fun hc => ?_) (fun hc => ?_)
 ·obtain ⟨hc, h⟩ := cT hc h
  refine zaa rfl fun K hK => b_op rfl (qbC (cs := [.v (.slice none 0 0), .v (.slice none 0 0)]) rfl (qea ty24 rfl rfl rfl rfl) ?_)
  refine b_op rfl (qaD (cs := [.v (.slice none 0 0), .v (.slice none 0 0)]) (zs := [.v (.slice none 0 0), .v (.slice none 0 0)]) rfl rfl rfl ty24 rfl rfl rfl rfl rfl ?_)
  refine mv rfl rfl ?_
  refine bf hK ⟨[(8, .ptr 47008 v1 0), (9, hI 12)], [O1]⟩ ?_
  refine AW.to (qcE 47008 v1 (ds := [slE eStr ([] : List (List UInt8)), slE eStr ([] : List (List UInt8))]) rfl (.cons (.nil _) <| .cons (.nil _) <| .nil) ?_)
  obtain rfl := oi h
  exact AW.ret (qad (.inr rfl) (resP ty24 rfl rfl (qav rfl (lb rfl) rfl) (resT rfl rfl)) rfl ⟨⟨(qai fun _ _ => ⟨trivial, trivial⟩), (qai fun _ _ => ⟨trivial, trivial⟩), trivial⟩, trivial, trivial⟩)
 obtain ⟨hc, h⟩ := cF hc h
 refine zac ?_
 refine zaa rfl fun K hK => bv rfl (qab ty27 rfl (qav rfl (lb rfl) rfl)) ?_
 obtain ⟨x4, h5, h⟩ := bS h
 refine b_op rfl (qaB rfl rfl rfl rfl (zai (qfn h5)) ?_)
 refine mv rfl rfl (bv rfl (qaq rfl rfl) (bv rfl (qaq rfl rfl) (mv rfl rfl (mv rfl rfl ?_))))
 refine bf hK (P1 [(10, .bool x4.1)] []) ?_
 refine zaa rfl fun K hK => bv rfl (qab ty27 rfl (qav rfl (lb rfl) rfl)) ?_
 obtain ⟨x6, h7, h⟩ := bS h
 refine b_op rfl (qaB rfl rfl rfl rfl (zai (qf5 h7)) ?_)
 refine mv rfl rfl (bv rfl (qaq rfl rfl) (bv rfl (qaq rfl rfl) (mv rfl rfl (mv rfl rfl ?_))))
 refine bf hK (P1 [(10, .bool x4.1), (12, .bool x6.1)] []) ?_
 refine zad ?_
 refine zag h (S := Bool) (V := Unit) (fun a v => (P1 [(43, .bool a)] [])) (fun a8 w9 h => ?_) (fun k10 h => ?_)
 ·refine zae rfl (fun hc => ?_) (fun hc => ?_)
  ·have h := ifT hc h
   refine zaa rfl fun K hK => b_op rfl (qbC (cs := [.v (.slice none 0 0), .v (.slice none 0 0)]) rfl (qea ty24 rfl rfl rfl rfl) ?_)
   refine b_op rfl (qaD (cs := [.v (.slice none 0 0), .v (.slice none 0 0)]) (zs := [.v (.slice none 0 0), .v (.slice none 0 0)]) rfl rfl rfl ty24 rfl rfl rfl rfl rfl ?_)
   refine mv rfl rfl ?_
   refine bf hK ⟨[(8, .ptr 47008 v1 0), (9, hI 8)], [O1]⟩ ?_
   refine AW.to (qcE 47008 v1 (ds := [slE eStr ([] : List (List UInt8)), slE eStr ([] : List (List UInt8))]) rfl (.cons (.nil _) <| .cons (.nil _) <| .nil) ?_)
   obtain rfl := oi h
   exact AW.ret (qad (.inr rfl) (resP ty24 rfl rfl (qav rfl (lb rfl) rfl) (resT rfl rfl)) rfl ⟨⟨(qai fun _ _ => ⟨trivial, trivial⟩), (qai fun _ _ => ⟨trivial, trivial⟩), trivial⟩, trivial, trivial⟩)
  have h := ifF (bF' hc) h
  refine zac ?_
  refine zad ?_
  refine zag h (S := Bool) (V := Unit) (fun a v => (P1 [(66, .bool a)] [])) (fun a11 w12 h => ?_) (fun k13 h => ?_)
  ·refine zae rfl (fun hc => ?_) (fun hc => ?_)
   ·have h := ifT hc h
    refine zaa rfl fun K hK => b_op rfl (qbC (cs := [.v (.slice none 0 0), .v (.slice none 0 0)]) rfl (qea ty24 rfl rfl rfl rfl) ?_)
    refine b_op rfl (qaD (cs := [.v (.slice none 0 0), .v (.slice none 0 0)]) (zs := [.v (.slice none 0 0), .v (.slice none 0 0)]) rfl rfl rfl ty24 rfl rfl rfl rfl rfl ?_)
    refine mv rfl rfl ?_
    refine bf hK ⟨[(8, .ptr 47008 v1 0), (9, hI 2)], [O1]⟩ ?_
    refine AW.to (qcE 47008 v1 (ds := [slE eStr ([] : List (List UInt8)), slE eStr ([] : List (List UInt8))]) rfl (.cons (.nil _) <| .cons (.nil _) <| .nil) ?_)
    obtain rfl := oi h
    exact AW.ret (qad (.inr rfl) (resP ty24 rfl rfl (qav rfl (lb rfl) rfl) (resT rfl rfl)) rfl ⟨⟨(qai fun _ _ => ⟨trivial, trivial⟩), (qai fun _ _ => ⟨trivial, trivial⟩), trivial⟩, trivial, trivial⟩)
   have h := ifF (bF' hc) h
   refine zac ?_
   refine zaa rfl fun K hK => bv rfl (qab ty27 rfl (qav rfl (lb rfl) rfl)) (mv rfl rfl ?_)
   obtain ⟨x14, h15, h⟩ := bS h
   refine b_op rfl (qaB rfl rfl rfl rfl (zai (qj1 h15)) ?_)
   refine mv rfl rfl (bv rfl (qaq rfl rfl) (bv rfl (qaq rfl rfl) (mv rfl rfl (mv rfl rfl ?_))))
   let P2 : ASf := fun t H => ⟨(2, hI p2) :: (3, hI p3) :: (4, gF p0) :: (8, .ptr 47008 v1 0) :: (14, slE eStr x14.1) :: t, O1 :: H⟩
   refine bf hK (P2 [(15, hI x14.2)] []) ?_
   refine zad ?_
   refine zaa rfl fun K hK => mv rfl rfl (bv rfl (qae rfl rfl qcL) ?_)
   refine bf hK (P2 [(15, hI x14.2), (75, .bool (decide (x14.2 ≠ 0)))] []) ?_
   refine zae rfl (fun hc => ?_) (fun hc => ?_)
   ·obtain ⟨hc, h⟩ := cT hc h
    refine zaa rfl fun K hK => b_op rfl (qbC (cs := [.v (.slice none 0 0), .v (.slice none 0 0)]) rfl (qea ty24 rfl rfl rfl rfl) ?_)
    refine mv rfl rfl ?_
    refine b_op rfl (qaD (cs := [.v (.slice none 0 0), .v (.slice none 0 0)]) (zs := [.v (.slice none 0 0), .v (.slice none 0 0)]) rfl rfl rfl ty24 rfl rfl rfl rfl rfl ?_)
    refine mv rfl rfl ?_
    refine bf hK ⟨[(8, .ptr 47008 v1 0), (9, hI x14.2)], [O1]⟩ ?_
    refine AW.to (qcE 47008 v1 (ds := [slE eStr ([] : List (List UInt8)), slE eStr ([] : List (List UInt8))]) rfl (.cons (.nil _) <| .cons (.nil _) <| .nil) ?_)
    obtain rfl := oi h
    exact AW.ret (qad (.inr rfl) (resP ty24 rfl rfl (qav rfl (lb rfl) rfl) (resT rfl rfl)) rfl ⟨⟨(qai fun _ _ => ⟨trivial, trivial⟩), (qai fun _ _ => ⟨trivial, trivial⟩), trivial⟩, trivial, trivial⟩)
   obtain ⟨hc, h⟩ := cF hc h
   refine zac ?_
   refine zaa rfl fun K hK => b_op rfl (qbC (cs := [.v (.slice none 0 0), .v (.slice none 0 0)]) rfl (qea ty24 rfl rfl rfl rfl) ?_)
   refine b_op rfl (qba (fid := 47) (zs := [.v (.slice none 0 0), .v (.slice none 0 0)]) 47016 rfl rfl ty24 rfl (fun v16 => ?_))
   refine b_op rfl (qaD (cs := [.v (.slice none 0 0), .v (.slice none 0 0)]) (zs := [.v (.slice none 0 0), .v (.slice none 0 0)]) rfl rfl rfl ty24 rfl rfl rfl rfl rfl ?_)
   refine bf hK (P2 [(16, .ptr 47016 v16 0)] [(47016, v16, .arr 2 24 [.v (.slice none 0 0), .v (.slice none 0 0)])]) ?_
   refine zaa rfl fun K hK => mv rfl rfl ?_
   obtain ⟨x17, h18, h⟩ := bS h
   refine b_op rfl (qaB rfl rfl rfl rfl (zai (qlQ h18)) ?_)
   refine mv rfl rfl (bv rfl (qaq rfl rfl) (bv rfl (qaq rfl rfl) (bv rfl (qao qhD rfl rfl) ?_)))
   refine b_op rfl (qaD (cs := [slE eStr x17.1]) (zs := [.v (.slice none 0 0), slE eStr x17.1]) rfl rfl rfl ty22 rfl rfl rfl rfl rfl ?_)
   let O2 : Nat × Nat × AObj := (47016, v16, .arr 2 24 [.v (.slice none 0 0), slE eStr x17.1])
   let P3 : ASf := fun t H => ⟨(3, hI p3) :: (4, gF p0) :: (8, .ptr 47008 v1 0) :: (14, slE eStr x14.1) :: (16, .ptr 47016 v16 0) :: t, O1 :: H⟩
   refine bf hK (P3 [] [O2]) ?_
   refine zad ?_
   refine zaa rfl fun K hK => mv rfl rfl ?_
   refine bf hK (P3 [(17, hI 0)] [O2]) ?_
   refine AW.lpX h (by first | exact qaG | exact qbp) (S := Int × (List (List UInt8))) (V := Nat) (fun a v => (P3 [(17, hI a.1)] [(47016, v16, .arr 2 24 [.ar 47156 v eStr.k 0 ((a.2).length), slE eStr x17.1]), (47156, v, .arr eStr.k 9 (eStr.E a.2))])) ?_ (X := (List (List UInt8))) (W := Nat) (fun a v => ⟨[(3, hI p3), (8, .ptr 47008 v1 0), (16, .ptr 47016 v16 0)], [O1, (47016, v16, .arr 2 24 [.ar 47156 v eStr.k 0 ((a).length), slE eStr x17.1]), (47156, v, .arr eStr.k 9 (eStr.E a))]⟩) (fun a68 w69 h => ?_) (fun a19 w20 st21 h => ?_)
   ·refine qfv (qg5 47156 47016 v16 2 0 eStr.k 9 24 rfl rfl (by decide) fun v67 => ?_)
    exact qa9 (s' := (P3 [(17, hI 0)] [(47016, v16, .arr 2 24 [.ar 47156 v67 eStr.k 0 ((([] : List (List UInt8))).length), slE eStr x17.1]), (47156, v67, .arr eStr.k 9 (eStr.E ([] : List (List UInt8))))])) (zak ⟨rfl, rfl, rfl, rfl, rfl, rfl, trivial⟩ ⟨rfl, hle rfl (by first | rfl | simp only [List.length_set, qcP, qbN]), rfl, trivial⟩) ⟨v67, rfl⟩
   ·refine zad ?_
    refine zaa rfl fun K hK => bv rfl (qao qdS rfl rfl) (bv rfl (qar ty22 rfl rfl (qan rfl rfl)) (bv rfl (qhv rfl rfl ty22 rfl rfl) (mv rfl rfl (bv rfl (qae rfl rfl qaV) ?_))))
    refine bf hK ⟨[(8, .ptr 47008 v1 0), (16, .ptr 47016 v16 0), (162, .bool (decide ((((a68).length : Nat) : Int) < p3)))], [O1, (47016, v16, .arr 2 24 [.ar 47156 w69 eStr.k 0 ((a68).length), slE eStr x17.1]), (47156, w69, .arr eStr.k 9 (eStr.E a68))]⟩ ?_
    refine zae rfl (fun hc => ?_) (fun hc => ?_)
    ·obtain ⟨hc, h⟩ := cT hc h
     refine zaa rfl fun K hK => b_op rfl (qbC (cs := [.v (.slice none 0 0), .v (.slice none 0 0)]) rfl (qea ty24 rfl rfl rfl rfl) ?_)
     refine b_op rfl (qaD (cs := [.v (.slice none 0 0), .v (.slice none 0 0)]) (zs := [.v (.slice none 0 0), .v (.slice none 0 0)]) rfl rfl rfl ty24 rfl rfl rfl rfl rfl ?_)
     refine mv rfl rfl ?_
     refine bf hK ⟨[(8, .ptr 47008 v1 0), (9, hI 15)], [O1]⟩ ?_
     refine AW.to (qcE 47008 v1 (ds := [slE eStr ([] : List (List UInt8)), slE eStr ([] : List (List UInt8))]) rfl (.cons (.nil _) <| .cons (.nil _) <| .nil) ?_)
     obtain rfl := oi h
     exact AW.ret (qad (.inr rfl) (resP ty24 rfl rfl (qav rfl (lb rfl) rfl) (resT rfl rfl)) rfl ⟨⟨(qai fun _ _ => ⟨trivial, trivial⟩), (qai fun _ _ => ⟨trivial, trivial⟩), trivial⟩, trivial, trivial⟩)
    obtain ⟨hc, h⟩ := cF hc h
    refine zac ?_
    refine zaa rfl fun K hK => bv rfl (qar ty24 rfl rfl (qav rfl (lb rfl) rfl)) ?_
    refine b_op rfl (qaD (cs := [.ar 47156 w69 eStr.k 0 ((a68).length), slE eStr x17.1]) (zs := [.ar 47156 w69 eStr.k 0 ((a68).length), slE eStr x17.1]) rfl rfl rfl ty24 rfl rfl rfl rfl rfl ?_)
    refine mv rfl rfl ?_
    refine bf hK ⟨[(8, .ptr 47008 v1 0), (9, hI 0)], [(47008, v1, .arr 2 24 [.ar 47156 w69 eStr.k 0 ((a68).length), slE eStr x17.1]), (47156, w69, .arr eStr.k 9 (eStr.E a68))]⟩ ?_
    refine AW.to (qlT 2 [(47156, w69, .arr eStr.k 9 (eStr.E a68))] ⟨[(8, .ptr 47008 v1 0), (9, hI 0)], [(47008, v1, .arr 2 24 [slE eStr a68, slE eStr x17.1])]⟩ ⟨⟨_, rfl, rfl⟩, ⟨_, rfl, rfl⟩, trivial⟩ ⟨.inr ⟨_, _, _, rfl, congrArg (AObj.arr 2 24) (congrArg (fun z : HV => [z, slE eStr x17.1]) (qbw eStr (D := [(47156, w69, .arr eStr.k 9 (eStr.E a68))]) (l := a68) rfl fun _ _ => rfl).symm)⟩, trivial⟩ ⟨rfl, trivial⟩ ⟨rfl, trivial⟩ ?_)
    obtain rfl := oi h
    exact AW.ret (qad (.inr rfl) (resP ty24 rfl rfl (qav rfl (lb rfl) rfl) (resT rfl rfl)) rfl ⟨⟨(qai fun _ _ => ⟨trivial, trivial⟩), (qai fun _ _ => ⟨trivial, trivial⟩), trivial⟩, trivial, trivial⟩)
   refine zad ?_
   let O3 : Nat × Nat × AObj := (47016, v16, .arr 2 24 [.ar 47156 w20 eStr.k 0 ((a19.2).length), slE eStr x17.1])
   let O4 : Nat × Nat × AObj := (47156, w20, .arr eStr.k 9 (eStr.E a19.2))
   refine zag h (S := Bool) (V := Unit) (fun a v => (P3 [(17, hI a19.1), (95, .bool a)] [O3, O4])) (fun a23 w24 h => ?_) (fun k25 h => ?_)
   ·refine zae rfl (fun hc => ?_) (fun hc => ?_)
    ·have h := ifT hc h
     refine zac ?_
     refine zag h (S := (List (List UInt8))) (V := Nat) (fun a v => (P3 [(17, hI a19.1)] [(47016, v16, .arr 2 24 [.ar 47156 v eStr.k 0 ((a).length), slE eStr x17.1]), (47156, v, .arr eStr.k 9 (eStr.E a))])) (fun a26 w27 h => ?_) (fun k28 h => ?_)
     ·refine zab rfl fun K hK => mv rfl rfl (bv rfl (qae rfl rfl qa6) (mv rfl rfl ?_))
      refine qah (hK _ ?_)
      exact to_L ⟨(IntKind.wrap .i64 (a19.1 + 1), a26), w27, h, rfl⟩
     refine zaf ?_
     refine AW.dgs 13 follows rfl rfl fun K hK => ?_
     refine sv rfl (qao qhD rfl rfl) ?_
     refine sv rfl (qar ty22 rfl rfl (qan rfl rfl)) ?_
     refine sv rfl (qab ty27 rfl (qav rfl (lb rfl) rfl)) ?_
     iterate 2 refine sm rfl rfl ?_
     obtain ⟨x29, h30, h⟩ := bS h
     refine sv rfl (qaJ ty22 es22 rfl rfl (qaw h30)) ?_
     refine sv rfl (qab ty9 rfl (qaL eStr h30 (o := 0) rfl rfl)) ?_
     iterate 2 refine sm rfl rfl ?_
     obtain ⟨x31, h32, h⟩ := bS h
     refine sv rfl (qaJ ty22 es22 rfl rfl (qaw h32)) ?_
     refine sv rfl (qab ty9 rfl (qaL eStr h32 (o := 0) rfl rfl)) ?_
     obtain ⟨x33, h34, h⟩ := bS h
     refine s_op rfl rfl (qaR rfl rfl rfl rfl (zai (qeB h34)) ?_)
     refine sm rfl rfl ?_
     refine qbU ?_
     refine bf hK (P3 [(17, hI a19.1), (18, .bool x33)] [O3, O4]) ?_
     refine zad ?_
     refine zaa rfl fun K hK => mv rfl rfl ?_
     refine bf hK (P3 [(17, hI a19.1), (18, .bool x33), (19, hI 0)] [O3, O4]) ?_
     refine AW.lpX h (by first | exact qaG | exact qbp) (S := Bool × Int) (V := Unit) (fun a v => (P3 [(17, hI a19.1), (18, .bool a.1), (19, hI a.2)] [O3, O4])) ?_ (X := Bool) (W := Unit) (fun a v => (P3 [(17, hI a19.1), (18, .bool a)] [O3, O4])) (fun a60 w61 h => ?_) (fun a35 w36 st37 h => ?_)
     ·exact to_L ⟨(), rfl⟩
     ·refine zaa rfl fun K hK => mv rfl rfl ?_
      refine bf hK (P3 [(17, hI a19.1), (148, .bool a60)] [O3, O4]) ?_
      refine zae rfl (fun hc => ?_) (fun hc => ?_)
      ·have h := ifT hc h
       refine AW.dg 7 follows rfl rfl fun K hK => ?_
       refine sv rfl (qao qdS rfl rfl) ?_
       refine sv rfl (qar ty22 rfl rfl (qan rfl rfl)) ?_
       iterate 2 refine sm rfl rfl ?_
       obtain ⟨x62, h63, h⟩ := bS h
       refine sv rfl (qaJ ty22 es22 rfl rfl (qaw h63)) ?_
       refine sv rfl (qab ty9 rfl (qaL eStr h63 (o := 0) rfl rfl)) ?_
       refine s_op rfl rfl (qg9 rfl rfl (qbV (cs := [.str x62]) ty22 ty9 rfl rfl rfl rfl rfl) ?_)
       refine qbU ?_
       obtain ⟨h65, h⟩ := ifN h
       refine b_op rfl (qdh eStr (l := a19.2) (m := [x62]) rfl rfl ty22 ty22 ty9 rfl rfl rfl rfl rfl h65 (fun v64 => ?_))
       refine bv rfl (qao qdS rfl rfl) ?_
       refine b_op rfl (qaD (cs := [.ar 47156 v64 eStr.k 0 ((a19.2 ++ [x62]).length)]) (zs := [.ar 47156 v64 eStr.k 0 ((a19.2 ++ [x62]).length), slE eStr x17.1]) rfl rfl rfl ty22 rfl rfl rfl rfl rfl ?_)
       refine qah (hK _ ?_)
       exact to_L ⟨a19.2 ++ [x62], v64, h, rfl⟩
      have h := ifF (bF' hc) h
      refine zac ?_
      exact to_L ⟨a19.2, w20, h, rfl⟩
     refine zad ?_
     refine zaa rfl fun K hK => mv rfl rfl (bv rfl (qao qdS rfl rfl) (bv rfl (qar ty22 rfl rfl (qan rfl rfl)) (bv rfl (qhv rfl rfl ty22 rfl rfl) (bv rfl (qae rfl rfl qaV) ?_))))
     refine bf hK (P3 [(17, hI a19.1), (18, .bool a35.1), (19, hI a35.2), (114, .bool (decide (a35.2 < (((a19.2).length : Nat) : Int))))] [O3, O4]) ?_
     refine zae rfl (fun hc => ?_) (fun hc => ?_)
     ·obtain ⟨hc, h⟩ := cT hc h
      refine zac ?_
      refine zag h (S := Bool) (V := Unit) (fun a v => (P3 [(17, hI a19.1), (18, .bool a), (19, hI a35.2)] [O3, O4])) (fun a39 w40 h => ?_) (fun k41 h => ?_)
      ·refine zab rfl fun K hK => mv rfl rfl (bv rfl (qae rfl rfl qa6) (mv rfl rfl ?_))
       refine qah (hK _ ?_)
       exact to_L ⟨(a39, IntKind.wrap .i64 (a35.2 + 1)), (), h, rfl⟩
      refine zaf ?_
      refine AW.dg 32 follows rfl rfl fun K hK => ?_
      iterate 2 refine sm rfl rfl ?_
      by_cases hg59 : a35.1 = true
      ·have h := ifT hg59 h
       refine s_T rfl rfl rfl rfl rfl hg59 (qat rfl (qao qhD rfl rfl) ?_)
       refine s_T rfl rfl rfl rfl rfl rfl (qat rfl (qar ty22 rfl rfl (qan rfl rfl)) ?_)
       refine s_T rfl rfl rfl rfl rfl rfl (qat rfl (qab ty27 rfl (qav rfl (lb rfl) rfl)) ?_)
       iterate 2 refine s_T rfl rfl rfl rfl rfl rfl (qat rfl (qas rfl rfl).2 ?_)
       obtain ⟨x42, h43, h⟩ := bS h
       refine s_T rfl rfl rfl rfl rfl rfl (qat rfl (qaJ ty22 es22 rfl rfl (qaw h43)) ?_)
       refine s_T rfl rfl rfl rfl rfl rfl (qat rfl (qab ty9 rfl (qaL eStr h43 (o := 0) rfl rfl)) ?_)
       refine s_T rfl rfl rfl rfl rfl rfl (qat rfl (qao qdS rfl rfl) ?_)
       refine s_T rfl rfl rfl rfl rfl rfl (qat rfl (qar ty22 rfl rfl (qan rfl rfl)) ?_)
       refine s_T rfl rfl rfl rfl rfl rfl (qat rfl (qas rfl rfl).2 ?_)
       obtain ⟨x44, h45, h⟩ := bS h
       refine s_T rfl rfl rfl rfl rfl rfl (qat rfl (qd2 ty22 es22 rfl rfl (qaw h45) rfl) ?_)
       obtain ⟨x46, h47, h⟩ := bS h
       refine s_T rfl rfl rfl rfl rfl rfl (qat rfl (qar ty9 rfl rfl (qaL eStr h47 (o := 0) rfl rfl)) ?_)
       obtain ⟨x48, h49, h⟩ := bS h
       refine s_T rfl rfl rfl rfl rfl rfl (qaR rfl rfl rfl rfl (zai (qeB h49)) ?_)
       refine sv rfl (qaj rfl rfl rfl) ?_
       refine sm rfl rfl ?_
       by_cases hg58 : x48 = true
       ·have h := ifT hg58 h
        refine s_T rfl rfl rfl rfl rfl hg58 (qat rfl (qao qhD rfl rfl) ?_)
        refine s_T rfl rfl rfl rfl rfl rfl (qat rfl (qar ty22 rfl rfl (qan rfl rfl)) ?_)
        refine s_T rfl rfl rfl rfl rfl rfl (qat rfl (qab ty27 rfl (qav rfl (lb rfl) rfl)) ?_)
        refine s_T rfl rfl rfl rfl rfl rfl (qat rfl (qao qdS rfl rfl) ?_)
        refine s_T rfl rfl rfl rfl rfl rfl (qat rfl (qar ty22 rfl rfl (qan rfl rfl)) ?_)
        refine s_T rfl rfl rfl rfl rfl rfl (qat rfl (qas rfl rfl).2 ?_)
        obtain ⟨x50, h51, h⟩ := bS h
        refine s_T rfl rfl rfl rfl rfl rfl (qat rfl (qd2 ty22 es22 rfl rfl (qaw h51) rfl) ?_)
        obtain ⟨x52, h53, h⟩ := bS h
        refine s_T rfl rfl rfl rfl rfl rfl (qat rfl (qar ty9 rfl rfl (qaL eStr h53 (o := 0) rfl rfl)) ?_)
        iterate 2 refine s_T rfl rfl rfl rfl rfl rfl (qat rfl (qas rfl rfl).2 ?_)
        obtain ⟨x54, h55, h⟩ := bS h
        refine s_T rfl rfl rfl rfl rfl rfl (qat rfl (qaJ ty22 es22 rfl rfl (qaw h55)) ?_)
        refine s_T rfl rfl rfl rfl rfl rfl (qat rfl (qab ty9 rfl (qaL eStr h55 (o := 0) rfl rfl)) ?_)
        obtain ⟨x56, h57, h⟩ := bS h
        refine s_T rfl rfl rfl rfl rfl rfl (qaR rfl rfl rfl rfl (zai (qeB h57)) ?_)
        refine sv rfl (qaj rfl rfl rfl) ?_
        refine sm rfl rfl ?_
        refine qbU ?_
        refine qah (hK _ ?_)
        exact to_L ⟨x56, (), h, rfl⟩
       have h := ifF hg58 h
       refine s_F rfl rfl rfl rfl rfl (bF hg58) ?_
       iterate 12 refine s_F rfl rfl rfl rfl rfl rfl ?_
       refine sv rfl (qak rfl rfl rfl) ?_
       refine sm rfl rfl ?_
       refine qbU ?_
       refine qah (hK _ ?_)
       exact to_L ⟨false, (), h, rfl⟩
      have h := ifF hg59 h
      refine s_F rfl rfl rfl rfl rfl (bF hg59) ?_
      iterate 12 refine s_F rfl rfl rfl rfl rfl rfl ?_
      refine sv rfl (qak rfl rfl rfl) ?_
      refine sm rfl rfl ?_
      iterate 13 refine s_F rfl rfl rfl rfl rfl rfl ?_
      refine sv rfl (qak rfl rfl rfl) ?_
      refine sm rfl rfl ?_
      refine qbU ?_
      refine qah (hK _ ?_)
      exact to_L ⟨false, (), h, rfl⟩
     obtain ⟨hc, h⟩ := cF hc h
     refine AW.exit ?_
     exact to_L ⟨a35.1, (), h, rfl⟩
    have h := ifF (bF' hc) h
    refine AW.exit ?_
    exact to_L ⟨a19.2, w20, h, rfl⟩
   refine zab rfl fun K hK => mv rfl rfl (mv rfl rfl (bv rfl (qaI rfl rfl ty22 rfl) (bv rfl (qae rfl rfl qaV) (mv rfl rfl ?_))))
   by_cases hg66 : a19.1 < ((x14.1).length : Int)
   ·have h := ifT hg66 h
    refine b_T rfl rfl rfl rfl (decide_eq_true hg66) (qaf rfl (qao qdS rfl rfl) ?_)
    refine b_T rfl rfl rfl rfl rfl (qaf rfl (qar ty22 rfl rfl (qan rfl rfl)) ?_)
    refine b_T rfl rfl rfl rfl rfl (qaf rfl (qhv rfl rfl ty22 rfl rfl) ?_)
    refine b_T rfl rfl rfl rfl rfl (qaf rfl (qas rfl rfl).2 ?_)
    refine b_T rfl rfl rfl rfl rfl (qaf rfl (qae rfl rfl qaV) ?_)
    refine bv rfl (qaj rfl rfl rfl) ?_
    refine qah (hK _ ?_)
    exact to_L ⟨decide ((((a19.2).length : Nat) : Int) < p3), (), h, rfl⟩
   have h := ifF hg66 h
   refine b_F rfl rfl rfl rfl rfl (decide_eq_false hg66) ?_
   iterate 4 refine b_F rfl rfl rfl rfl rfl rfl ?_
   refine bv rfl (qak rfl rfl rfl) ?_
   refine qah (hK _ ?_)
   exact to_L ⟨false, (), h, rfl⟩
  refine zab rfl fun K hK => mv rfl rfl (bv rfl (qae rfl rfl qaV) (mv rfl rfl ?_))
  by_cases hg74 : p1 < 1
  ·have h := ifT hg74 h
   refine b_F rfl rfl rfl rfl rfl (decide_eq_true hg74) ?_
   refine b_F rfl rfl rfl rfl rfl rfl ?_
   refine bv rfl (qaj rfl rfl rfl) (mv rfl rfl ?_)
   iterate 2 refine b_F rfl rfl rfl rfl rfl rfl ?_
   refine bv rfl (qaj rfl rfl rfl) (mv rfl rfl ?_)
   iterate 2 refine b_F rfl rfl rfl rfl rfl rfl ?_
   refine bv rfl (qaj rfl rfl rfl) (mv rfl rfl ?_)
   iterate 2 refine b_F rfl rfl rfl rfl rfl rfl ?_
   refine bv rfl (qaj rfl rfl rfl) (mv rfl rfl ?_)
   iterate 2 refine b_F rfl rfl rfl rfl rfl rfl ?_
   refine bv rfl (qaj rfl rfl rfl) ?_
   refine qah (hK _ ?_)
   exact to_L ⟨true, (), h, rfl⟩
  have h := ifF hg74 h
  refine b_T rfl rfl rfl rfl (decide_eq_false hg74) (qaf rfl (qas rfl rfl).2 ?_)
  refine b_T rfl rfl rfl rfl rfl (qaf rfl (qae rfl rfl qbh) ?_)
  refine bv rfl (qak rfl rfl rfl) (mv rfl rfl ?_)
  by_cases hg73 : 16 < p1
  ·have h := ifT hg73 h
   refine b_F rfl rfl rfl rfl rfl (decide_eq_true hg73) ?_
   refine b_F rfl rfl rfl rfl rfl rfl ?_
   refine bv rfl (qaj rfl rfl rfl) (mv rfl rfl ?_)
   iterate 2 refine b_F rfl rfl rfl rfl rfl rfl ?_
   refine bv rfl (qaj rfl rfl rfl) (mv rfl rfl ?_)
   iterate 2 refine b_F rfl rfl rfl rfl rfl rfl ?_
   refine bv rfl (qaj rfl rfl rfl) (mv rfl rfl ?_)
   iterate 2 refine b_F rfl rfl rfl rfl rfl rfl ?_
   refine bv rfl (qaj rfl rfl rfl) ?_
   refine qah (hK _ ?_)
   exact to_L ⟨true, (), h, rfl⟩
  have h := ifF hg73 h
  refine b_T rfl rfl rfl rfl (decide_eq_false hg73) (qaf rfl (qas rfl rfl).2 ?_)
  refine b_T rfl rfl rfl rfl rfl (qaf rfl (qae rfl rfl qaV) ?_)
  refine bv rfl (qak rfl rfl rfl) (mv rfl rfl ?_)
  by_cases hg72 : p2 < 0
  ·have h := ifT hg72 h
   refine b_F rfl rfl rfl rfl rfl (decide_eq_true hg72) ?_
   refine b_F rfl rfl rfl rfl rfl rfl ?_
   refine bv rfl (qaj rfl rfl rfl) (mv rfl rfl ?_)
   iterate 2 refine b_F rfl rfl rfl rfl rfl rfl ?_
   refine bv rfl (qaj rfl rfl rfl) (mv rfl rfl ?_)
   iterate 2 refine b_F rfl rfl rfl rfl rfl rfl ?_
   refine bv rfl (qaj rfl rfl rfl) ?_
   refine qah (hK _ ?_)
   exact to_L ⟨true, (), h, rfl⟩
  have h := ifF hg72 h
  refine b_T rfl rfl rfl rfl (decide_eq_false hg72) (qaf rfl (qas rfl rfl).2 ?_)
  refine b_T rfl rfl rfl rfl rfl (qaf rfl (qae rfl rfl qbh) ?_)
  refine bv rfl (qak rfl rfl rfl) (mv rfl rfl ?_)
  by_cases hg71 : 8 < p2
  ·have h := ifT hg71 h
   refine b_F rfl rfl rfl rfl rfl (decide_eq_true hg71) ?_
   refine b_F rfl rfl rfl rfl rfl rfl ?_
   refine bv rfl (qaj rfl rfl rfl) (mv rfl rfl ?_)
   iterate 2 refine b_F rfl rfl rfl rfl rfl rfl ?_
   refine bv rfl (qaj rfl rfl rfl) ?_
   refine qah (hK _ ?_)
   exact to_L ⟨true, (), h, rfl⟩
  have h := ifF hg71 h
  refine b_T rfl rfl rfl rfl (decide_eq_false hg71) (qaf rfl (qas rfl rfl).2 ?_)
  refine b_T rfl rfl rfl rfl rfl (qaf rfl (qae rfl rfl qaV) ?_)
  refine bv rfl (qak rfl rfl rfl) (mv rfl rfl ?_)
  by_cases hg70 : p3 < 1
  ·have h := ifT hg70 h
   refine b_F rfl rfl rfl rfl rfl (decide_eq_true hg70) ?_
   refine b_F rfl rfl rfl rfl rfl rfl ?_
   refine bv rfl (qaj rfl rfl rfl) ?_
   refine qah (hK _ ?_)
   exact to_L ⟨true, (), h, rfl⟩
  have h := ifF hg70 h
  refine b_T rfl rfl rfl rfl (decide_eq_false hg70) (qaf rfl (qas rfl rfl).2 ?_)
  refine b_T rfl rfl rfl rfl rfl (qaf rfl (qae rfl rfl qbh) ?_)
  refine bv rfl (qak rfl rfl rfl) ?_
  refine qah (hK _ ?_)
  exact to_L ⟨decide (256 < p3), (), h, rfl⟩
 refine zab rfl fun K hK => mv rfl rfl (bv rfl (qfu rfl) (mv rfl rfl ?_))
 by_cases hg75 : (!x4.1) = true
 ·have h := ifT hg75 h
  refine b_F rfl rfl rfl rfl rfl hg75 ?_
  refine b_F rfl rfl rfl rfl rfl rfl ?_
  refine bv rfl (qaj rfl rfl rfl) ?_
  refine qah (hK _ ?_)
  exact to_L ⟨true, (), h, rfl⟩
 have h := ifF hg75 h
 refine b_T rfl rfl rfl rfl (bF hg75) (qaf rfl (qas rfl rfl).2 ?_)
 refine b_T rfl rfl rfl rfl rfl (qaf rfl (qfu rfl) ?_)
 refine bv rfl (qak rfl rfl rfl) ?_
 refine qah (hK _ ?_)
 exact to_L ⟨!x6.1, (), h, rfl⟩
theorem qht {p0 : List (List UInt8)} {p1 : List (List UInt8)} {r : Bool} (h : qc5 p0 p1 = some r) : Pure Tryz.prog 103 [slE eStr p0, slE eStr p1] (· = HV.bool r) := by
 unfold qc5 at h
 refine zaj Tryz.func103 rfl rfl (lb rfl) fun hf => ?_
 unfold Tryz.f103
 dsimp only [qaH, Nat.reduceAdd]
 refine zaa rfl fun K hK => mv rfl rfl ?_
 let P4 : ASf := fun t H => ⟨(0, slE eStr p0) :: (1, slE eStr p1) :: t, H⟩
 refine bf hK (P4 [] []) ?_
 refine zad ?_
 refine zaa rfl fun K hK => mv rfl rfl (bv rfl (qaI rfl rfl ty22 rfl) (mv rfl rfl (bv rfl (qaI rfl rfl ty22 rfl) (bv rfl (qae rfl rfl qcL) ?_))))
 refine bf hK (P4 [(10, .bool (decide (((p0).length : Int) ≠ ((p1).length : Int))))] []) ?_
 refine zae rfl (fun hc => ?_) (fun hc => ?_)
 ·obtain ⟨hc, h⟩ := cT hc h
  refine zaa rfl fun K hK => mv rfl rfl ?_
  refine bf hK ⟨[(4, .bool false)], []⟩ ?_
  obtain rfl := oi h
  exact AW.ret (qad (.inr rfl) (resT rfl rfl) rfl trivial)
 obtain ⟨hc, h⟩ := cF hc h
 refine zac ?_
 refine zad ?_
 refine zaa rfl fun K hK => mv rfl rfl ?_
 refine bf hK (P4 [(5, hI 0)] []) ?_
 refine AW.lpR h (by first | exact qaG | exact qbp) (S := Int) (V := Unit) (fun a v => (P4 [(5, hI a)] [])) ?_ (X := Unit) (W := Unit) (fun a v => ⟨[], []⟩) (fun a9 w10 h => ?_) (fun a1 w2 st3 h hr4=> ?_)
 ·exact to_L ⟨(), rfl⟩
 ·refine zaa rfl fun K hK => mv rfl rfl ?_
  refine bf hK ⟨[(4, .bool true)], []⟩ ?_
  obtain rfl := oi h
  exact AW.ret (qad (.inr rfl) (resT rfl rfl) rfl trivial)
 refine zad ?_
 refine zaa rfl fun K hK => mv rfl rfl (mv rfl rfl (bv rfl (qaI rfl rfl ty22 rfl) (bv rfl (qae rfl rfl qaV) ?_)))
 refine bf hK (P4 [(5, hI a1), (14, .bool (decide (a1 < ((p0).length : Int))))] []) ?_
 refine zae rfl (fun hc => ?_) (fun hc => ?_)
 ·obtain ⟨hc, h⟩ := cT hc h
  refine zac ?_
  refine zad (zaf ?_)
  refine AW.dgs 9 follows rfl rfl fun K hK => ?_
  iterate 2 refine sm rfl rfl ?_
  obtain ⟨x5, h6, h⟩ := bS h
  refine sv rfl (qaJ ty22 es22 rfl rfl (qaw h6)) ?_
  refine sv rfl (qab ty9 rfl (qaL eStr h6 (o := 0) rfl rfl)) ?_
  iterate 2 refine sm rfl rfl ?_
  obtain ⟨x7, h8, h⟩ := bS h
  refine sv rfl (qaJ ty22 es22 rfl rfl (qaw h8)) ?_
  refine sv rfl (qab ty9 rfl (qaL eStr h8 (o := 0) rfl rfl)) ?_
  refine sv rfl (qae rfl rfl qsW) ?_
  refine qbU ?_
  refine bf hK (P4 [(5, hI a1), (25, .bool (decide (x5 ≠ x7)))] []) ?_
  refine zae rfl (fun hc => ?_) (fun hc => ?_)
  ·obtain ⟨hc, h⟩ := cT hc h
   refine zaa rfl fun K hK => mv rfl rfl ?_
   refine bf hK ⟨[(4, .bool false)], []⟩ ?_
   have h := hr4 _ h
   obtain rfl := oi h
   exact AW.ret (qad (.inr rfl) (resT rfl rfl) rfl trivial)
  obtain ⟨hc, h⟩ := cF hc h
  refine zac ?_
  refine zab rfl fun K hK => mv rfl rfl (bv rfl (qae rfl rfl qa6) (mv rfl rfl ?_))
  refine qah (hK _ ?_)
  exact to_L ⟨IntKind.wrap .i64 (a1 + 1), (), h, rfl⟩
 obtain ⟨hc, h⟩ := cF hc h
 refine AW.exit ?_
 exact to_L ⟨(), (), h, rfl⟩
theorem qgW {p0 : qap} {p1 : qap} {r : Bool} (h : qby p0 p1 = some r) : Pure Tryz.prog 48 [jA p0, jA p1] (· = HV.bool r) := by
 unfold qby at h
 refine zaj Tryz.func48 rfl rfl (lb rfl) fun hf => ?_
 unfold Tryz.f48
 dsimp only [qaH, Nat.reduceAdd]
 refine zaa rfl fun K hK => b_op rfl (qa5 rfl rfl rfl ?_)
 refine b_op rfl (qa5 rfl rfl rfl ?_)
 refine mv rfl rfl ?_
 refine bf hK ⟨[(2, jF p0), (3, jF p1)], []⟩ ?_
 refine zag h (S := Bool) (V := Unit) (fun a v => ⟨[(4, .bool a)], []⟩) (fun a1 w2 h => ?_) (fun k3 h => ?_)
 ·obtain rfl := oi h
  exact AW.ret (qad (.inr rfl) (resT rfl rfl) rfl trivial)
 refine zab rfl fun K hK => bv rfl (qac qdS rfl) (bv rfl (qab ty22 rfl (qan rfl rfl)) (bv rfl (qac qdS rfl) (bv rfl (qab ty22 rfl (qan rfl rfl)) ?_)))
 obtain ⟨x4, h5, h⟩ := bS h
 refine b_op rfl (qaB rfl rfl rfl rfl (zai (qht h5)) ?_)
 refine mv rfl rfl ?_
 by_cases hg8 : x4 = true
 ·have h := ifT hg8 h
  refine b_T rfl rfl rfl rfl hg8 (qaf rfl (qac qhD rfl) ?_)
  refine b_T rfl rfl rfl rfl rfl (qaf rfl (qab ty22 rfl (qan rfl rfl)) ?_)
  refine b_T rfl rfl rfl rfl rfl (qaf rfl (qac qhD rfl) ?_)
  refine b_T rfl rfl rfl rfl rfl (qaf rfl (qab ty22 rfl (qan rfl rfl)) ?_)
  obtain ⟨x6, h7, h⟩ := bS h
  refine b_T rfl rfl rfl rfl rfl (qaB rfl rfl rfl rfl (zai (qht h7)) ?_)
  refine bv rfl (qaj rfl rfl rfl) (mv rfl rfl ?_)
  refine qah (hK _ ?_)
  exact to_L ⟨x6, (), h, rfl⟩
 have h := ifF hg8 h
 refine b_F rfl rfl rfl rfl rfl (bF hg8) ?_
 iterate 4 refine b_F rfl rfl rfl rfl rfl rfl ?_
 refine bv rfl (qak rfl rfl rfl) (mv rfl rfl ?_)
 refine qah (hK _ ?_)
 exact to_L ⟨false, (), h, rfl⟩
theorem qfo {p0 : qaa} {p1 : Int} {p2 : Int} {p3 : Int} {r : Bool} (h : qbR p0 p1 p2 p3 = some r) : Pure Tryz.prog 10 [gA p0, hI p1, hI p2, hI p3] (· = HV.bool r) := by
 unfold qbR at h
 refine zaj Tryz.func10 rfl rfl (lb rfl) fun hf => ?_
 unfold Tryz.f10
 dsimp only [qaH, Nat.reduceAdd]
 refine zaa rfl fun K hK => b_op rfl (qa5 rfl rfl rfl ?_)
 refine mv rfl rfl ?_
 let P1 : ASf := fun t H => ⟨(1, hI p1) :: (2, hI p2) :: (3, hI p3) :: (4, gF p0) :: t, H⟩
 refine bf hK (P1 [] []) ?_
 refine zad ?_
 refine zag h (S := Bool) (V := Unit) (fun a v => (P1 [(38, .bool a)] [])) (fun a1 w2 h => ?_) (fun k3 h => ?_)
 ·refine zae rfl (fun hc => ?_) (fun hc => ?_)
  ·have h := ifT hc h
   refine zaa rfl fun K hK => ?_
   obtain ⟨x4, h5, h⟩ := bS h
   refine b_op rfl (qaB rfl rfl rfl rfl (zai (qgl h5)) ?_)
   refine mv rfl rfl ?_
   refine bf hK ⟨[(8, .bool x4)], []⟩ ?_
   obtain rfl := oi h
   exact AW.ret (qad (.inr rfl) (resT rfl rfl) rfl trivial)
  have h := ifF (bF' hc) h
  refine zac ?_
  refine zaa rfl fun K hK => bv rfl (qab ty27 rfl (qav rfl (lb rfl) rfl)) (mv rfl rfl (mv rfl rfl (mv rfl rfl ?_)))
  obtain ⟨x6, h7, h⟩ := bS h
  refine b_op rfl (qaB rfl rfl rfl rfl (zai (qim h7)) ?_)
  refine mv rfl rfl (bv rfl (qaq rfl rfl) (bv rfl (qaq rfl rfl) ?_))
  refine b_op rfl (qba (fid := 10) (zs := [.v (.slice none 0 0), .v (.slice none 0 0)]) 10009 rfl rfl ty24 rfl (fun v8 => ?_))
  refine b_op rfl (qaD (cs := [slE eStr x6.1.1, slE eStr x6.1.2]) (zs := [slE eStr x6.1.1, slE eStr x6.1.2]) rfl rfl rfl ty24 rfl rfl rfl rfl rfl ?_)
  refine mv rfl rfl ?_
  refine bf hK (P1 [(9, .ptr 10009 v8 0), (10, hI x6.2)] [(10009, v8, .arr 2 24 [slE eStr x6.1.1, slE eStr x6.1.2])]) ?_
  refine zaa rfl fun K hK => bv rfl (qab ty27 rfl (qav rfl (lb rfl) rfl)) (mv rfl rfl (mv rfl rfl (mv rfl rfl ?_)))
  obtain ⟨x9, h10, h⟩ := bS h
  refine b_op rfl (qaB rfl rfl rfl rfl (zai (qjY h10)) ?_)
  refine mv rfl rfl (bv rfl (qaq rfl rfl) (bv rfl (qaq rfl rfl) ?_))
  refine b_op rfl (qba (fid := 10) (zs := [.v (.slice none 0 0), .v (.slice none 0 0)]) 10011 rfl rfl ty24 rfl (fun v11 => ?_))
  refine b_op rfl (qaD (cs := [slE eStr x9.1.1, slE eStr x9.1.2]) (zs := [slE eStr x9.1.1, slE eStr x9.1.2]) rfl rfl rfl ty24 rfl rfl rfl rfl rfl ?_)
  refine mv rfl rfl ?_
  refine bf hK ⟨[(9, .ptr 10009 v8 0), (10, hI x6.2), (11, .ptr 10011 v11 0), (12, hI x9.2)], [(10009, v8, .arr 2 24 [slE eStr x6.1.1, slE eStr x6.1.2]), (10011, v11, .arr 2 24 [slE eStr x9.1.1, slE eStr x9.1.2])]⟩ ?_
  refine zag h (S := Bool) (V := Unit) (fun a v => ⟨[(8, .bool a)], []⟩) (fun a12 w13 h => ?_) (fun k14 h => ?_)
  ·obtain rfl := oi h
   exact AW.ret (qad (.inr rfl) (resT rfl rfl) rfl trivial)
  refine zab rfl fun K hK => bv rfl (qar ty24 rfl rfl (qav rfl (lb rfl) rfl)) (bv rfl (qar ty24 rfl rfl (qav rfl (lb rfl) rfl)) ?_)
  obtain ⟨x15, h16, h⟩ := bS h
  refine b_op rfl (qaB rfl rfl rfl rfl (zai (qgW h16)) ?_)
  refine mv rfl rfl ?_
  by_cases hg20 : x15 = true
  ·have h := ifT hg20 h
   refine b_T rfl rfl rfl rfl hg20 (qaf rfl (qas rfl rfl).2 ?_)
   refine b_T rfl rfl rfl rfl rfl (qaf rfl (qas rfl rfl).2 ?_)
   refine b_T rfl rfl rfl rfl rfl (qaf rfl (qae rfl rfl qd1) ?_)
   refine bv rfl (qaj rfl rfl rfl) (mv rfl rfl ?_)
   by_cases hg19 : x6.2 = x9.2
   ·have h := ifT hg19 h
    obtain ⟨x17, h18, h⟩ := bS h
    refine b_T rfl rfl rfl rfl (decide_eq_true hg19) (qaB rfl rfl rfl rfl (zai (qgl h18)) ?_)
    refine bv rfl (qaj rfl rfl rfl) (mv rfl rfl ?_)
    refine qah (hK _ ?_)
    exact to_L ⟨x17, (), h, rfl⟩
   have h := ifF hg19 h
   refine b_F rfl rfl rfl rfl rfl (decide_eq_false hg19) ?_
   refine bv rfl (qak rfl rfl rfl) (mv rfl rfl ?_)
   refine qah (hK _ ?_)
   exact to_L ⟨false, (), h, rfl⟩
  have h := ifF hg20 h
  refine b_F rfl rfl rfl rfl rfl (bF hg20) ?_
  iterate 2 refine b_F rfl rfl rfl rfl rfl rfl ?_
  refine bv rfl (qak rfl rfl rfl) (mv rfl rfl ?_)
  refine b_F rfl rfl rfl rfl rfl rfl ?_
  refine bv rfl (qak rfl rfl rfl) (mv rfl rfl ?_)
  refine qah (hK _ ?_)
  exact to_L ⟨false, (), h, rfl⟩
 refine zab rfl fun K hK => bv rfl (qab ty27 rfl (qav rfl (lb rfl) rfl)) ?_
 obtain ⟨x21, h22, h⟩ := bS h
 refine b_op rfl (qaB rfl rfl rfl rfl (zai (qj2 h22)) ?_)
 refine mv rfl rfl ?_
 by_cases hg33 : x21 = true
 ·have h := ifT hg33 h
  refine b_F rfl rfl rfl rfl rfl hg33 ?_
  iterate 2 refine b_F rfl rfl rfl rfl rfl rfl ?_
  refine b_U rfl rfl rfl rfl rfl ?_
  refine b_U rfl rfl rfl rfl rfl ?_
  refine b_F rfl rfl rfl rfl rfl rfl ?_
  refine bv rfl (qaj rfl rfl rfl) (mv rfl rfl ?_)
  iterate 3 refine b_F rfl rfl rfl rfl rfl rfl ?_
  refine b_U rfl rfl rfl rfl rfl ?_
  refine b_U rfl rfl rfl rfl rfl ?_
  refine b_F rfl rfl rfl rfl rfl rfl ?_
  refine bv rfl (qaj rfl rfl rfl) (mv rfl rfl ?_)
  iterate 3 refine b_F rfl rfl rfl rfl rfl rfl ?_
  refine b_U rfl rfl rfl rfl rfl ?_
  refine b_U rfl rfl rfl rfl rfl ?_
  refine b_F rfl rfl rfl rfl rfl rfl ?_
  refine bv rfl (qaj rfl rfl rfl) ?_
  refine qah (hK _ ?_)
  exact to_L ⟨true, (), h, rfl⟩
 have h := ifF hg33 h
 refine b_T rfl rfl rfl rfl (bF hg33) (qaf rfl (qas rfl rfl).2 ?_)
 refine b_T rfl rfl rfl rfl rfl (qaf rfl (qae rfl rfl qbh) ?_)
 refine b_T rfl rfl rfl rfl rfl (qaf rfl (qas rfl rfl).2 ?_)
 by_cases hg32 : 6 < p1
 ·have h := ifT hg32 h
  refine b_T rfl rfl rfl rfl (decide_eq_true hg32) (qaf rfl (qas rfl rfl).2 ?_)
  refine b_T rfl rfl rfl rfl rfl (qaf rfl (qae rfl rfl qhW) ?_)
  refine b_T rfl rfl rfl rfl rfl (qaf rfl (qaj rfl rfl rfl) ?_)
  refine bv rfl (qak rfl rfl rfl) (mv rfl rfl ?_)
  by_cases hg27 : p1 ≤ 16
  ·have h := ifT hg27 h
   refine b_F rfl rfl rfl rfl rfl (decide_eq_true hg27) ?_
   iterate 2 refine b_F rfl rfl rfl rfl rfl rfl ?_
   refine b_U rfl rfl rfl rfl rfl ?_
   refine b_U rfl rfl rfl rfl rfl ?_
   refine b_F rfl rfl rfl rfl rfl rfl ?_
   refine bv rfl (qaj rfl rfl rfl) (mv rfl rfl ?_)
   iterate 3 refine b_F rfl rfl rfl rfl rfl rfl ?_
   refine b_U rfl rfl rfl rfl rfl ?_
   refine b_U rfl rfl rfl rfl rfl ?_
   refine b_F rfl rfl rfl rfl rfl rfl ?_
   refine bv rfl (qaj rfl rfl rfl) ?_
   refine qah (hK _ ?_)
   exact to_L ⟨true, (), h, rfl⟩
  have h := ifF hg27 h
  refine b_T rfl rfl rfl rfl (decide_eq_false hg27) (qaf rfl (qas rfl rfl).2 ?_)
  refine b_T rfl rfl rfl rfl rfl (qaf rfl (qae rfl rfl qbh) ?_)
  refine b_T rfl rfl rfl rfl rfl (qaf rfl (qas rfl rfl).2 ?_)
  by_cases hg26 : 3 < p2
  ·have h := ifT hg26 h
   refine b_T rfl rfl rfl rfl (decide_eq_true hg26) (qaf rfl (qas rfl rfl).2 ?_)
   refine b_T rfl rfl rfl rfl rfl (qaf rfl (qae rfl rfl qhW) ?_)
   refine b_T rfl rfl rfl rfl rfl (qaf rfl (qaj rfl rfl rfl) ?_)
   refine bv rfl (qak rfl rfl rfl) (mv rfl rfl ?_)
   by_cases hg24 : p2 ≤ 8
   ·have h := ifT hg24 h
    refine b_F rfl rfl rfl rfl rfl (decide_eq_true hg24) ?_
    iterate 2 refine b_F rfl rfl rfl rfl rfl rfl ?_
    refine b_U rfl rfl rfl rfl rfl ?_
    refine b_U rfl rfl rfl rfl rfl ?_
    refine b_F rfl rfl rfl rfl rfl rfl ?_
    refine bv rfl (qaj rfl rfl rfl) ?_
    refine qah (hK _ ?_)
    exact to_L ⟨true, (), h, rfl⟩
   have h := ifF hg24 h
   refine b_T rfl rfl rfl rfl (decide_eq_false hg24) (qaf rfl (qas rfl rfl).2 ?_)
   refine b_T rfl rfl rfl rfl rfl (qaf rfl (qae rfl rfl qbh) ?_)
   refine b_T rfl rfl rfl rfl rfl (qaf rfl (qas rfl rfl).2 ?_)
   by_cases hg23 : 8 < p3
   ·have h := ifT hg23 h
    refine b_T rfl rfl rfl rfl (decide_eq_true hg23) (qaf rfl (qas rfl rfl).2 ?_)
    refine b_T rfl rfl rfl rfl rfl (qaf rfl (qae rfl rfl qhW) ?_)
    refine b_T rfl rfl rfl rfl rfl (qaf rfl (qaj rfl rfl rfl) ?_)
    refine bv rfl (qak rfl rfl rfl) ?_
    refine qah (hK _ ?_)
    exact to_L ⟨decide (p3 ≤ 256), (), h, rfl⟩
   have h := ifF hg23 h
   refine b_F rfl rfl rfl rfl rfl (decide_eq_false hg23) ?_
   refine b_F rfl rfl rfl rfl rfl rfl ?_
   refine b_T rfl rfl rfl rfl rfl (qaf rfl (qak rfl rfl rfl) ?_)
   refine bv rfl (qak rfl rfl rfl) ?_
   refine qah (hK _ ?_)
   exact to_L ⟨false, (), h, rfl⟩
  have h := ifF hg26 h
  refine b_F rfl rfl rfl rfl rfl (decide_eq_false hg26) ?_
  refine b_F rfl rfl rfl rfl rfl rfl ?_
  refine b_T rfl rfl rfl rfl rfl (qaf rfl (qak rfl rfl rfl) ?_)
  refine bv rfl (qak rfl rfl rfl) (mv rfl rfl ?_)
  refine b_T rfl rfl rfl rfl rfl (qaf rfl (qas rfl rfl).2 ?_)
  refine b_T rfl rfl rfl rfl rfl (qaf rfl (qae rfl rfl qbh) ?_)
  refine b_T rfl rfl rfl rfl rfl (qaf rfl (qas rfl rfl).2 ?_)
  by_cases hg25 : 8 < p3
  ·have h := ifT hg25 h
   refine b_T rfl rfl rfl rfl (decide_eq_true hg25) (qaf rfl (qas rfl rfl).2 ?_)
   refine b_T rfl rfl rfl rfl rfl (qaf rfl (qae rfl rfl qhW) ?_)
   refine b_T rfl rfl rfl rfl rfl (qaf rfl (qaj rfl rfl rfl) ?_)
   refine bv rfl (qak rfl rfl rfl) ?_
   refine qah (hK _ ?_)
   exact to_L ⟨decide (p3 ≤ 256), (), h, rfl⟩
  have h := ifF hg25 h
  refine b_F rfl rfl rfl rfl rfl (decide_eq_false hg25) ?_
  refine b_F rfl rfl rfl rfl rfl rfl ?_
  refine b_T rfl rfl rfl rfl rfl (qaf rfl (qak rfl rfl rfl) ?_)
  refine bv rfl (qak rfl rfl rfl) ?_
  refine qah (hK _ ?_)
  exact to_L ⟨false, (), h, rfl⟩
 have h := ifF hg32 h
 refine b_F rfl rfl rfl rfl rfl (decide_eq_false hg32) ?_
 refine b_F rfl rfl rfl rfl rfl rfl ?_
 refine b_T rfl rfl rfl rfl rfl (qaf rfl (qak rfl rfl rfl) ?_)
 refine bv rfl (qak rfl rfl rfl) (mv rfl rfl ?_)
 refine b_T rfl rfl rfl rfl rfl (qaf rfl (qas rfl rfl).2 ?_)
 refine b_T rfl rfl rfl rfl rfl (qaf rfl (qae rfl rfl qbh) ?_)
 refine b_T rfl rfl rfl rfl rfl (qaf rfl (qas rfl rfl).2 ?_)
 by_cases hg31 : 3 < p2
 ·have h := ifT hg31 h
  refine b_T rfl rfl rfl rfl (decide_eq_true hg31) (qaf rfl (qas rfl rfl).2 ?_)
  refine b_T rfl rfl rfl rfl rfl (qaf rfl (qae rfl rfl qhW) ?_)
  refine b_T rfl rfl rfl rfl rfl (qaf rfl (qaj rfl rfl rfl) ?_)
  refine bv rfl (qak rfl rfl rfl) (mv rfl rfl ?_)
  by_cases hg29 : p2 ≤ 8
  ·have h := ifT hg29 h
   refine b_F rfl rfl rfl rfl rfl (decide_eq_true hg29) ?_
   iterate 2 refine b_F rfl rfl rfl rfl rfl rfl ?_
   refine b_U rfl rfl rfl rfl rfl ?_
   refine b_U rfl rfl rfl rfl rfl ?_
   refine b_F rfl rfl rfl rfl rfl rfl ?_
   refine bv rfl (qaj rfl rfl rfl) ?_
   refine qah (hK _ ?_)
   exact to_L ⟨true, (), h, rfl⟩
  have h := ifF hg29 h
  refine b_T rfl rfl rfl rfl (decide_eq_false hg29) (qaf rfl (qas rfl rfl).2 ?_)
  refine b_T rfl rfl rfl rfl rfl (qaf rfl (qae rfl rfl qbh) ?_)
  refine b_T rfl rfl rfl rfl rfl (qaf rfl (qas rfl rfl).2 ?_)
  by_cases hg28 : 8 < p3
  ·have h := ifT hg28 h
   refine b_T rfl rfl rfl rfl (decide_eq_true hg28) (qaf rfl (qas rfl rfl).2 ?_)
   refine b_T rfl rfl rfl rfl rfl (qaf rfl (qae rfl rfl qhW) ?_)
   refine b_T rfl rfl rfl rfl rfl (qaf rfl (qaj rfl rfl rfl) ?_)
   refine bv rfl (qak rfl rfl rfl) ?_
   refine qah (hK _ ?_)
   exact to_L ⟨decide (p3 ≤ 256), (), h, rfl⟩
  have h := ifF hg28 h
  refine b_F rfl rfl rfl rfl rfl (decide_eq_false hg28) ?_
  refine b_F rfl rfl rfl rfl rfl rfl ?_
  refine b_T rfl rfl rfl rfl rfl (qaf rfl (qak rfl rfl rfl) ?_)
  refine bv rfl (qak rfl rfl rfl) ?_
  refine qah (hK _ ?_)
  exact to_L ⟨false, (), h, rfl⟩
 have h := ifF hg31 h
 refine b_F rfl rfl rfl rfl rfl (decide_eq_false hg31) ?_
 refine b_F rfl rfl rfl rfl rfl rfl ?_
 refine b_T rfl rfl rfl rfl rfl (qaf rfl (qak rfl rfl rfl) ?_)
 refine bv rfl (qak rfl rfl rfl) (mv rfl rfl ?_)
 refine b_T rfl rfl rfl rfl rfl (qaf rfl (qas rfl rfl).2 ?_)
 refine b_T rfl rfl rfl rfl rfl (qaf rfl (qae rfl rfl qbh) ?_)
 refine b_T rfl rfl rfl rfl rfl (qaf rfl (qas rfl rfl).2 ?_)
 by_cases hg30 : 8 < p3
 ·have h := ifT hg30 h
  refine b_T rfl rfl rfl rfl (decide_eq_true hg30) (qaf rfl (qas rfl rfl).2 ?_)
  refine b_T rfl rfl rfl rfl rfl (qaf rfl (qae rfl rfl qhW) ?_)
  refine b_T rfl rfl rfl rfl rfl (qaf rfl (qaj rfl rfl rfl) ?_)
  refine bv rfl (qak rfl rfl rfl) ?_
  refine qah (hK _ ?_)
  exact to_L ⟨decide (p3 ≤ 256), (), h, rfl⟩
 have h := ifF hg30 h
 refine b_F rfl rfl rfl rfl rfl (decide_eq_false hg30) ?_
 refine b_F rfl rfl rfl rfl rfl rfl ?_
 refine b_T rfl rfl rfl rfl rfl (qaf rfl (qak rfl rfl rfl) ?_)
 refine bv rfl (qak rfl rfl rfl) ?_
 refine qah (hK _ ?_)
 exact to_L ⟨false, (), h, rfl⟩
end Go.AW

namespace Go.AW
open Go
section
variable {g : Gr}
end
def sub (w : List UInt8) (a l : Nat) : List UInt8 := (w.drop a).take l
section
variable {g : Gr}
end
section
variable {g : Gr}
end
theorem qpk {α : Type} {l : List α} {d : α} {i : Nat} (h : i < l.length) : l.getD i d = l[i] := by rw [List.getD_eq_getElem?_getD, List.getElem?_eq_getElem h]; rfl
def qlS (E : List qam) (i : Nat) : Bool := decide ((E.getD i (0, 0, 0)).1 = (E.getD (i + 1) (0, 0, 0)).1) && decide ((E.getD i (0, 0, 0)).2.1 = (E.getD (i + 1) (0, 0, 0)).2.1)
def detX (E : List qam) : Bool := !(List.range (E.length - 1)).any (qlS E)
section
variable {g : Gr}
theorem qsa (he : qaS g = some 0) (hv : VG g) : qbo g = some (detX g.2.2, 0) := by
 unfold qbo
 rw [qep, he, Option.bind_some]
 rw [if_neg (show ¬ (0 : Int) ≠ 0 from fun h => h rfl)]
 have hel := hv.el
 refine lpL (qgz (fun i => ((i + 1 : Nat) : Int)) (g.2.2.length - 1) (qlS g.2.2) (Ou.ret (false, 0)) (Ou.go ()) (fun i hi => ?_) (by rw [if_neg (by omega)]) rfl) ?_
 ·have hi1 : i + 1 < g.2.2.length := by omega
  have e3 : IntKind.wrap .i64 (((i + 1 : Nat) : Int) - 1) = (i : Int) := by rw [w64 (by omega) (by omega)]; omega
  simp only [jp]
  rw [if_pos (by omega), e3, ix (by omega : i < g.2.2.length), ix hi1, Option.bind_some, Option.bind_some]
  unfold qlS
  rw [qpk (show i < g.2.2.length by omega), qpk hi1, nx (by omega : g.2.2.length ≤ _) hi1]
  by_cases c1 : (g.2.2[i]'(by omega)).1 = g.2.2[i + 1].1
  ·rw [if_pos c1]
   simp [c1]
  rw [if_neg c1]
  simp [c1]
 unfold detX
 cases (List.range (g.2.2.length - 1)).any (qlS g.2.2) <;> rfl
theorem qqI (he : qaS g = some 0) (hv : VG g) : qbm g = some (detX g.2.2, 0) := by
 unfold qbm
 rw [he, Option.bind_some]
 rw [if_neg (show ¬ (0 : Int) ≠ 0 from fun h => h rfl)]
 have hel := hv.el
 refine lpL (qgz (fun i => ((i + 1 : Nat) : Int)) (g.2.2.length - 1) (qlS g.2.2) (Ou.ret (false, 0)) (Ou.go ()) (fun i hi => ?_) (by rw [if_neg (by omega)]) rfl) ?_
 ·have hi1 : i + 1 < g.2.2.length := by omega
  have e3 : IntKind.wrap .i64 (((i + 1 : Nat) : Int) - 1) = (i : Int) := by rw [w64 (by omega) (by omega)]; omega
  simp only [jp]
  rw [if_pos (by omega), e3, ix (by omega : i < g.2.2.length), ix hi1, Option.bind_some, Option.bind_some]
  unfold qlS
  rw [qpk (show i < g.2.2.length by omega), qpk hi1, nx (by omega : g.2.2.length ≤ _) hi1]
  by_cases c1 : (g.2.2[i]'(by omega)).1 = g.2.2[i + 1].1
  ·rw [if_pos c1.symm]
   by_cases c2 : (g.2.2[i]'(by omega)).2.1 = g.2.2[i + 1].2.1
   ·simp [c1, c2]
   have c3 : ¬ g.2.2[i + 1].2.1 = (g.2.2[i]'(by omega)).2.1 := fun h => c2 h.symm
   simp [c1, c2, c3]
  rw [if_neg (fun h => c1 h.symm)]
  simp [c1]
 unfold detX
 cases (List.range (g.2.2.length - 1)).any (qlS g.2.2) <;> rfl
theorem VG.comp (hv : VG g) : qlG g := ⟨⟨hv.s0, by have := hv.s1; omega⟩, by have := hv.el; omega, fun e he => by have := hv.ed e he; exact ⟨⟨this.1, this.2.1⟩, this.2.2.1, this.2.2.2.1⟩⟩
theorem qi5 (g : Gr) (n : Nat) : (qda g n).length ≤ n := by
 unfold qda
 rw [List.length_map]
 exact Nat.le_trans (List.length_filter_le _ _) (by simp)
def irrB (g : Gr) : Bool := decide ((qda g g.2.1.toNat).length = 1) && decide (0 < g.2.2.length)
theorem qs7 (he : qaS g = some 0) (hv : VG g) : qbd g = some (irrB g, 0) := by
 have hs1 := hv.s1
 have hcl := qi5 g g.2.1.toNat
 have h1 : qcT g = some (qda g g.2.1.toNat, 0) := by
  unfold qcT qc0 qbK
  rw [qep, he, Option.bind_some, if_neg (show ¬ (0 : Int) ≠ 0 from fun h => h rfl), if_pos hv.comp, Option.bind_some]
  have hf : forL (X := Unit) (fun a7 (x9 : List Int) => (qbs x9).bind fun x13 => if x13 = true then (if fits 24 ((a7 : List (List Int)).length + ([x9]).length) then some (Stp.next (a7 ++ [x9])) else none) else some (Stp.next a7)) (qda g g.2.1.toNat) ([] : List (List Int)) = some (.go (qda g g.2.1.toNat)) := by
   have key : ∀ (L a : List (List Int)), a.length + L.length ≤ 1000 → forL (X := Unit) (fun a7 (x9 : List Int) => (qbs x9).bind fun x13 => if x13 = true then (if fits 24 ((a7 : List (List Int)).length + ([x9]).length) then some (Stp.next (a7 ++ [x9])) else none) else some (Stp.next a7)) L a = some (.go (a ++ L)) := by
    intro L
    induction L with
    | nil => intro a _; rw [List.append_nil]; rfl
    | cons x L ih =>
     intro a ha
     simp only [List.length_cons] at ha
     have : (qbs x).bind (fun x13 => if x13 = true then (if fits 24 (a.length + ([x]).length) then some (Stp.next (X := Unit) (a ++ [x])) else none) else some (Stp.next a)) = some (Stp.next (a ++ [x])) := by
      unfold qbs
      rw [Option.bind_some, if_pos rfl, if_pos (qdD (by simp only [List.length_singleton]; omega) (by simp only [List.length_singleton]; omega))]
     simp only [forL, this]
     rw [ih (a ++ [x]) (by simp only [List.length_append, List.length_singleton]; omega), List.append_assoc]
     rfl
   exact key _ [] (by simp; omega)
  rw [hf]
  rfl
 unfold qbd
 rw [h1, Option.bind_some]
 simp only [jp, if_true]
 unfold irrB
 by_cases c : (qda g g.2.1.toNat).length = 1
 ·rw [if_pos (by omega), c]
  simp
 rw [if_neg (by omega), decide_eq_false c, Bool.false_and]
theorem qk8 (E : List qam) : ∀ (n : Nat) (o : List Bool), rnds E (n + 1) o = rnd E (rnds E n o)
 | 0, _ => rfl
 | n + 1, o => by
  show rnds E (n + 1) (rnd E o) = rnd E (rnds E n (rnd E o))
  exact qk8 E n (rnd E o)
theorem qnH (hv : VG g) {s : Nat} (hs : s < g.2.1.toNat) : qcw g (s : Int) = some (rowR g s) := by
 have hs0 := hv.s0
 have hs1 := hv.s1
 have hel := hv.el
 obtain ⟨S, hS⟩ := Int.eq_ofNat_of_zero_le hs0
 have hrr : rowR g s = rnds g.2.2 S ((List.replicate S false).set s true) := by
  unfold rowR
  rw [hS, Int.toNat_natCast]
  exact qnI (fun e he => by have := hv.ed e he; rw [hS] at this; exact ⟨⟨this.1, this.2.1⟩, this.2.2.1, this.2.2.2.1⟩) (by omega)
 have hS64 : S ≤ 64 := by omega
 have hsS : s < S := by omega
 unfold qcw
 rw [hS]
 rw [if_pos (by omega), Int.toNat_natCast, ix (show s < (List.replicate S (false : Bool)).length by simpa using hsS), Option.bind_some, Int.toNat_natCast]
 have hlen0 : ((List.replicate S false).set s true).length = S := by simp
 refine qfN (qch (fun i => ((i : Int), rnds g.2.2 i ((List.replicate S false).set s true))) S (rnds g.2.2 S ((List.replicate S false).set s true)) (fun i hi => ?_) (by dsimp only; rw [if_neg (qaP _)]) rfl) (by rw [hrr])
 dsimp only
 rw [if_pos (qcd hi), nx (by omega : S ≤ _) hi]
 have hli : (rnds g.2.2 i ((List.replicate S false).set s true)).length = S := by rw [qkh, hlen0]
 rw [qk8]
 generalize rnds g.2.2 i ((List.replicate S false).set s true) = o at hli
 refine qfN (qch (fun k => ((k : Int), rnd (g.2.2.take k) o)) g.2.2.length (rnd g.2.2 o) (fun k hk => ?_) (by dsimp only; rw [if_neg (qaP _), List.take_length]) rfl) rfl
 dsimp only
 have hed := hv.ed _ (List.getElem_mem hk)
 have hlk : (rnd (g.2.2.take k) o).length = S := by rw [qg8, hli]
 have hrk : rnd (g.2.2.take (k + 1)) o = rndE (rnd (g.2.2.take k) o) g.2.2[k] := by
  unfold rnd
  rw [← List.take_append_getElem hk, List.foldl_append]
  rfl
 rw [if_pos (qcd hk), ix hk, nx (by omega : g.2.2.length ≤ _) hk, hrk]
 generalize rnd (g.2.2.take k) o = o2 at hlk
 generalize g.2.2[k] = x at hed
 obtain ⟨x1, x2, x3⟩ := x
 dsimp only at hed
 obtain ⟨a, rfl⟩ := Int.eq_ofNat_of_zero_le hed.1
 obtain ⟨b, rfl⟩ := Int.eq_ofNat_of_zero_le hed.2.2.1
 have ha : a < o2.length := by omega
 have hb : b < o2.length := by omega
 simp only [jp, Option.bind_some]
 rw [ix ha, ix hb]
 simp only [Option.bind_some, Int.toNat_natCast]
 unfold rndE
 dsimp only
 rw [Int.toNat_natCast, Int.toNat_natCast, qpk ha]
 split <;> rfl
end
section
variable {g : Gr}
theorem qmc (g : Gr) (s n : Nat) : (lstB g s n).Pairwise (· < ·) := by
 unfold lstB
 rw [List.pairwise_map]
 refine (List.Pairwise.filter _ List.pairwise_lt_range).imp fun {a b} h => ?_
 show (a : Int) < (b : Int)
 omega
theorem qkw {s n t : Nat} (ht : t < n) (h : inC g s t = true) : (t : Int) ∈ lstB g s n := List.mem_map.2 ⟨t, List.mem_filter.2 ⟨List.mem_range.2 ht, h⟩, rfl⟩
theorem qm4 {s n : Nat} {x : Int} (h : x ∈ lstB g s n) : ∃ t : Nat, x = (t : Int) ∧ t < n ∧ inC g s t = true := by
 obtain ⟨t, ht, rfl⟩ := List.mem_map.1 h
 obtain ⟨h1, h2⟩ := List.mem_filter.1 ht
 exact ⟨t, rfl, List.mem_range.1 h1, h2⟩
theorem qmm {l : List Int} (h : l.Pairwise (· < ·)) {x : Int} (hx : l.head? = some x) : ∀ y ∈ l, x ≤ y := by
 cases l with
 | nil => cases hx
 | cons a l =>
  cases hx
  intro y hy
  rcases List.mem_cons.1 hy with rfl | hy
  ·exact Int.le_refl _
  exact Int.le_of_lt ((List.pairwise_cons.1 h).1 y hy)
theorem qh9 (hv : VG g) {s : Nat} (hs : s < g.2.1.toNat) : inC g s s = true := (qiW hv.comp hs hs).2 ⟨.refl s, .refl s⟩
def firB (g : Gr) (s n : Nat) : Bool := (lstB g s n).all fun y => decide ((s : Int) ≤ y)
theorem qly (hv : VG g) {s : Nat} (hs : s < g.2.1.toNat) : firB g s g.2.1.toNat = true ↔ (lstB g s g.2.1.toNat).head? = some (s : Int) := by
 have hm := qkw (g := g) hs (qh9 hv hs)
 unfold firB
 rw [List.all_eq_true]
 constructor
 ·intro h
  obtain ⟨x, hx⟩ : ∃ x, (lstB g s g.2.1.toNat).head? = some x := by
   cases hl : lstB g s g.2.1.toNat with
   | nil => rw [hl] at hm; cases hm
   | cons x l => exact ⟨x, rfl⟩
  have h1 := qmm (qmc g s _) hx _ hm
  have h2 := h x (List.mem_of_head? hx)
  simp only [decide_eq_true_eq] at h2
  rw [hx, show x = (s : Int) by omega]
 intro h y hy
 simpa using qmm (qmc g s _) h y hy
theorem qpp (g : Gr) (s n : Nat) : firB g s (n + 1) = if inC g s n = true then (firB g s n && decide ((s : Int) ≤ (n : Int))) else firB g s n := by
 unfold firB
 rw [qiT]
 split
 ·rw [List.all_append]
  simp
 rfl
theorem qoy (g : Gr) (n : Nat) : (qbO g n).length = n := by unfold qbO; rw [List.length_map, List.length_range]
theorem qmQ (g : Gr) {n i : Nat} (h : i < n) : idx (qbO g n) (i : Int) = some (rowR g i) := by
 unfold qbO
 rw [qfI, List.getElem?_map, List.getElem?_range h]
 rfl
theorem qoA (g : Gr) {s i : Nat} (h : i < g.2.1.toNat) : idx (rowR g s) (i : Int) = some ((rowR g s).getD i false) := by
 have hl := qmR g s
 rw [qfI, List.getD_eq_getElem?_getD, List.getElem?_eq_getElem (by omega)]
 rfl
theorem qq9 (he : qaS g = some 0) (hv : VG g) : qef g = some (qda g g.2.1.toNat, 0) := by
 have hs0 := hv.s0
 have hs1 := hv.s1
 obtain ⟨S, hS⟩ := Int.eq_ofNat_of_zero_le hs0
 have hS64 : S ≤ 64 := by omega
 have hn : g.2.1.toNat = S := by omega
 unfold qef
 rw [he, Option.bind_some, if_neg (show ¬ (0 : Int) ≠ 0 from fun h => h rfl), hn]
 simp only [hS]
 refine qfN (qch (fun i => ((i : Int), qbO g i)) S (qbO g S) (fun i hi => ?_) (by dsimp only; rw [if_neg (qaP _)]) rfl) ?_
 ·dsimp only
  have hl := qoy g i
  rw [if_pos (qcd hi), qnH hv (by omega), Option.bind_some, if_pos (qdD (by simp only [List.length_singleton]; omega) (by simp only [List.length_singleton]; omega)), nx (by omega : S ≤ _) hi]
  have : qbO g (i + 1) = qbO g i ++ [rowR g i] := by unfold qbO; rw [List.range_succ, List.map_append]; rfl
  rw [this]
 refine qfN (qch (fun i => ((i : Int), qda g i)) S (qda g S) (fun i hi => ?_) (by dsimp only; rw [if_neg (qaP _)]) rfl) rfl
 dsimp only
 have hcl := qi5 g i
 rw [if_pos (qcd hi)]
 simp only [jp]
 refine qfN (qch (fun t => (firB g i t, (t : Int), lstB g i t)) S (lstB g i S, firB g i S) (fun t ht => ?_) (by dsimp only; rw [if_neg (qaP _)]) rfl) ?_
 ·dsimp only
  have hll := qkx g i t
  rw [if_pos (qcd ht), qmQ g hi, qmQ g ht, nx (by omega : S ≤ _) ht, qpp, qiT]
  simp only [Option.bind_some]
  rw [qoA g (show t < g.2.1.toNat by omega), qoA g (show i < g.2.1.toNat by omega)]
  simp only [Option.bind_some]
  have hin : inC g i t = ((rowR g i).getD t false && (rowR g t).getD i false) := rfl
  rw [hin]
  cases (rowR g i).getD t false with
  | false => simp
  | true =>
   cases (rowR g t).getD i false with
   | false => simp
   | true =>
    simp only [if_true, Bool.and_self]
    rw [if_pos (qdD (by simp only [List.length_singleton]; omega) (by simp only [List.length_singleton]; omega))]
    cases firB g i t with
    | false => simp
    | true => simp
 dsimp only
 have hf := qly hv (show i < g.2.1.toNat by omega)
 rw [hn] at hf
 rw [qhh, hn, nx (by omega : S ≤ _) hi]
 by_cases c : firB g i S = true
 ·rw [if_pos c, if_pos (hf.1 c), if_pos (qdD (by simp only [List.length_singleton]; omega) (by simp only [List.length_singleton]; omega))]
 rw [if_neg c, if_neg (fun h => c (hf.2 h))]
theorem qqt {l : List Int} (hl : l.length ≤ 1000000) (x : Int) : qdA l x = some (decide (x ∈ l)) := by
 unfold qdA
 refine lpE (qlh (fun i => (i : Int)) l (fun y => decide (y = x)) (Ou.ret true) (Ou.go ()) (fun i hi => ?_) (by rw [if_neg (qaP _)]) rfl) ?_
 ·rw [if_pos (qcd hi), ix hi, Option.bind_some, nx (by omega : l.length ≤ _) hi]
  simp
 by_cases h : x ∈ l
 ·rw [if_pos (List.any_eq_true.2 ⟨x, h, by simp⟩), decide_eq_true h]
  rfl
 rw [if_neg (fun ha => by
  obtain ⟨y, hy, he⟩ := List.any_eq_true.1 ha
  simp only [decide_eq_true_eq] at he
  subst he
  exact h hy), decide_eq_false h]
 rfl
def cycB (E : List qam) (l : List Int) : Bool := E.any fun e => decide (e.1 ∈ l) && decide (e.2.2 ∈ l)
theorem qn6 (he : qaS g = some 0) (hv : VG g) : qcS g = some ((qda g g.2.1.toNat).filter (cycB g.2.2), 0) := by
 have hs1 := hv.s1
 have hel := hv.el
 have hcl := qi5 g g.2.1.toNat
 unfold qcS
 rw [qq9 he hv, Option.bind_some]
 dsimp only
 have hll : ∀ l ∈ qda g g.2.1.toNat, l.length ≤ 1000000 := fun l hl => by
  unfold qda at hl
  obtain ⟨s, _, rfl⟩ := List.mem_map.1 hl
  have := qkx g s g.2.1.toNat
  omega
 generalize qda g g.2.1.toNat = C at hcl hll
 refine qfN (qch (fun i => ((i : Int), (C.take i).filter (cycB g.2.2))) C.length (C.filter (cycB g.2.2)) (fun i hi => ?_) (by dsimp only; rw [if_neg (qaP _), List.take_length]) rfl) rfl
 dsimp only
 have hm := hll _ (List.getElem_mem hi)
 have htk : C.take (i + 1) = C.take i ++ [C[i]] := (List.take_append_getElem hi).symm
 rw [if_pos (qcd hi), ix hi, nx (by omega : C.length ≤ _) hi, htk, List.filter_append]
 simp only [jp, Option.bind_some]
 have hfl : ((C.take i).filter (cycB g.2.2)).length ≤ 64 := by
  refine Nat.le_trans (List.length_filter_le _ _) ?_
  rw [List.length_take]
  omega
 generalize C[i] = l at hm
 refine qfN (qch (fun k => ((g.2.2.take k).any (fun e => decide (e.1 ∈ l) && decide (e.2.2 ∈ l)), (k : Int))) g.2.2.length (cycB g.2.2 l) (fun k hk => ?_) (by dsimp only; rw [if_neg (qaP _), List.take_length]; rfl) rfl) ?_
 ·dsimp only
  have htk2 : g.2.2.take (k + 1) = g.2.2.take k ++ [g.2.2[k]] := (List.take_append_getElem hk).symm
  rw [if_pos (qcd hk), ix hk, nx (by omega : g.2.2.length ≤ _) hk, htk2, List.any_append]
  simp only [Option.bind_some, qqt hm]
  generalize g.2.2[k] = x
  cases (g.2.2.take k).any fun e => decide (e.1 ∈ l) && decide (e.2.2 ∈ l) with
  | true => simp
  | false =>
   by_cases c1 : x.1 ∈ l
   ·simp [c1]
   simp [c1]
 cases c : cycB g.2.2 l with
 | true =>
  rw [if_pos rfl, if_pos (qdD (by simp only [List.length_singleton]; omega) (by simp only [List.length_singleton]; omega))]
  simp [List.filter_cons, c]
 | false =>
  rw [if_neg (by decide)]
  simp [List.filter_cons, c]
theorem sel (hv : VG g) : ∀ (n t : Nat), t ≤ n → t < g.2.1.toNat → ∃ s, s < g.2.1.toNat ∧ (lstB g s g.2.1.toNat).head? = some (s : Int) ∧ inC g s t = true := by
 intro n
 induction n with
 | zero =>
  intro t ht hts
  obtain rfl : t = 0 := by omega
  refine ⟨0, hts, (qly hv hts).1 ?_, qh9 hv hts⟩
  unfold firB
  rw [List.all_eq_true]
  intro y hy
  obtain ⟨t, rfl, _, _⟩ := qm4 hy
  simp
 | succ n ih =>
  intro t ht hts
  by_cases c : (lstB g t g.2.1.toNat).head? = some (t : Int)
  ·exact ⟨t, hts, c, qh9 hv hts⟩
  have hm := qkw (g := g) hts (qh9 hv hts)
  obtain ⟨x, hx⟩ : ∃ x, (lstB g t g.2.1.toNat).head? = some x := by
   cases hl : lstB g t g.2.1.toNat with
   | nil => rw [hl] at hm; cases hm
   | cons x l => exact ⟨x, rfl⟩
  have h1 := qmm (qmc g t _) hx _ hm
  obtain ⟨u, rfl, hu, hut⟩ := qm4 (List.mem_of_head? hx)
  have hne : u ≠ t := fun e => c (by rw [hx, e])
  obtain ⟨s, hs, hsh, hsu⟩ := ih u (by omega) hu
  refine ⟨s, hs, hsh, ?_⟩
  have a1 := (qiW hv.comp hs hu).1 hsu
  have a2 := (qiW hv.comp hts hu).1 hut
  exact (qiW hv.comp hs hts).2 ⟨a1.1.trans a2.2, a2.1.trans a1.2⟩
theorem qr9 (he : qaS g = some 0) (hv : VG g) : qbE g = some (irrB g, 0) := by
 have hs1 := hv.s1
 unfold qbE
 rw [qq9 he hv, qn6 he hv]
 simp only [Option.bind_some, jp, if_true]
 unfold irrB
 by_cases c : (qda g g.2.1.toNat).length = 1
 ·rw [if_pos (by omega), decide_eq_true c, Bool.true_and]
  congr 2
  have hcyc : ∀ l, qda g g.2.1.toNat = [l] → cycB g.2.2 l = decide (0 < g.2.2.length) := by
   intro l hl
   have hall : ∀ x : Int, 0 ≤ x ∧ x < g.2.1 → x ∈ l := by
    intro x hx
    obtain ⟨t, rfl⟩ := Int.eq_ofNat_of_zero_le hx.1
    obtain ⟨s, hs, hsh, hst⟩ := sel hv t t (Nat.le_refl _) (by omega)
    have hmem : lstB g s g.2.1.toNat ∈ qda g g.2.1.toNat := by
     unfold qda
     exact List.mem_map.2 ⟨s, List.mem_filter.2 ⟨List.mem_range.2 hs, by rw [hsh]; simp⟩, rfl⟩
    rw [hl] at hmem
    rw [← List.mem_singleton.1 hmem]
    exact qkw (by omega) hst
   unfold cycB
   cases hE : g.2.2 with
   | nil => rfl
   | cons e E =>
    have hed := hv.ed e (by rw [hE]; exact List.mem_cons_self ..)
    rw [List.any_cons, decide_eq_true (hall e.1 ⟨hed.1, hed.2.1⟩), decide_eq_true (hall e.2.2 ⟨hed.2.2.1, hed.2.2.2.1⟩)]
    simp
  generalize qda g g.2.1.toNat = C at c hcyc
  match C, c with
  | [l], _ =>
   have := hcyc l rfl
   cases hE : decide (0 < g.2.2.length) with
   | true => rw [hE] at this; simp [List.filter_cons, this, of_decide_eq_true hE]
   | false => rw [hE] at this; simp [List.filter_cons, this]
 rw [if_neg (by omega), decide_eq_false c, Bool.false_and]
end
def qgd (p0 : Int) (p1 : Int) : Option ((List (List UInt8)) × Int) :=
 jp (fun (a1 : Bool) =>
   if a1 = true then
    some ([], 12)
   else
    if p1 < 0 then
     some ([], 2)
    else
     if 65536 < p1 then
      some ([], 4)
     else
      lpO (qgA (S := (List (List UInt8)) × Int) (X := Ou ((List (List UInt8))) ((List (List UInt8)) × Int)) (fun a4 =>
          if a4.2 < p1 then
           if 4096 < (IntKind.wrap .i64 (((a4.1).length : Int) * p0)) then
            some (Stp.exit (Ou.ret ([], 4)))
           else
            (qgA (S := Int × (List (List UInt8))) (X := (List (List UInt8))) (fun a9 =>
                if a9.1 < ((a4.1).length : Int) then
                 (qgA (S := Int × (List (List UInt8))) (X := (List (List UInt8))) (fun a13 =>
                     if a13.1 < p0 then
                      (idx a4.1 a9.1).bind fun x17 =>
                      if 0 ≤ (a13.1 : Int) ∧ (a13.1 : Int) ≤ IntKind.wrap .i64 (a13.1 + 1) ∧ IntKind.wrap .i64 (a13.1 + 1) ≤ (([48, 49, 50, 51, 52, 53, 54, 55, 56, 57, 97, 98, 99, 100, 101, 102] : List UInt8).length : Int) then
                       if x17.length + ((([48, 49, 50, 51, 52, 53, 54, 55, 56, 57, 97, 98, 99, 100, 101, 102] : List UInt8).take (IntKind.wrap .i64 (a13.1 + 1)).toNat).drop (a13.1).toNat).length ≤ maxLen then
                        if fits 16 ((a13.2 : List (List UInt8)).length + ([x17 ++ ((([48, 49, 50, 51, 52, 53, 54, 55, 56, 57, 97, 98, 99, 100, 101, 102] : List UInt8).take (IntKind.wrap .i64 (a13.1 + 1)).toNat).drop (a13.1).toNat)]).length) then
                         some (Stp.next (IntKind.wrap .i64 (a13.1 + 1), a13.2 ++ [x17 ++ ((([48, 49, 50, 51, 52, 53, 54, 55, 56, 57, 97, 98, 99, 100, 101, 102] : List UInt8).take (IntKind.wrap .i64 (a13.1 + 1)).toNat).drop (a13.1).toNat)]))
                        else none
                       else none
                      else none
                     else
                      some (Stp.exit a13.2)) (0, a9.2)).bind fun a23 =>
                 some (Stp.next (IntKind.wrap .i64 (a9.1 + 1), a23))
                else
                 some (Stp.exit a9.2)) (0, [])).bind fun a25 =>
            some (Stp.next (a25, IntKind.wrap .i64 (a4.2 + 1)))
          else
           some (Stp.exit (Ou.go a4.1))) ([([] : List UInt8)], 0)) (fun a27 =>
          some (a27, 0)) some)
   fun k3 =>
  if p0 < 1 then
   k3 true
  else
   k3 (decide (16 < p0))
set_option maxHeartbeats 1600000 in
theorem le_ref07_All {p0 : Int} {p1 : Int} : Lq (qgd p0 p1) (qdB p0 p1) := by
 unfold qgd qdB
 repeat' with_reducible first | intro _ | exact Lq.refl _ | exact Lq.none | apply zax | apply Lq.bind | apply Lq.jp | apply Lq.loop | apply Lq.lpO | apply Lq.forL | apply_assumption
def qfM (p0 : Int) : Option (Bool) :=
 jp (fun (a1 : Bool) =>
  some a1)
  fun k3 =>
  if 1 ≤ p0 then
   k3 (decide (p0 ≤ 16))
  else
   k3 false
set_option maxHeartbeats 1600000 in
theorem qky {p0 : Int} : Lq (qfM p0) (qcc p0) := by
 unfold qfM qcc
 repeat' with_reducible first | intro _ | exact Lq.refl _ | exact Lq.none | apply zax | apply Lq.bind | apply Lq.jp | apply Lq.loop | apply Lq.lpO | apply Lq.forL | apply_assumption
def qhi (p0 : Int) (p1 : Int) : Option ((List (List UInt8)) × Int) :=
 (qfM p0).bind fun x1 =>
 if (!x1) = true then
  some ([], 12)
 else
  if p1 < 0 then
   some ([], 2)
  else
   if 65536 < p1 then
    some ([], 4)
   else
    if p0 = 1 then
     (qcY [48] p1).bind fun x3 =>
     some ([x3], 0)
    else
     lpO (qgA (S := (List (List UInt8)) × Int) (X := Ou ((List (List UInt8))) ((List (List UInt8)) × Int)) (fun a5 =>
       if a5.2 < p1 then
        if 4096 < (IntKind.wrap .i64 (((a5.1).length : Int) * p0)) then
         some (Stp.exit (Ou.ret ([], 4)))
        else
         if 0 ≤ (0 : Int) ∧ (0 : Int) ≤ IntKind.wrap .i64 (((a5.1).length : Int) * p0) ∧ (IntKind.wrap .i64 (((a5.1).length : Int) * p0) : Int) * 16 ≤ 281474976710656 then
          (qgA (S := Int × (List (List UInt8))) (X := (List (List UInt8))) (fun a11 =>
            if a11.1 < ((a5.1).length : Int) then
             (idx a5.1 a11.1).bind fun x15 =>
             (qgA (S := Int × (List (List UInt8))) (X := (List (List UInt8))) (fun a17 =>
               if a17.1 < p0 then
                if 0 ≤ (a17.1 : Int) ∧ (a17.1 : Int) ≤ IntKind.wrap .i64 (a17.1 + 1) ∧ IntKind.wrap .i64 (a17.1 + 1) ≤ (([48, 49, 50, 51, 52, 53, 54, 55, 56, 57, 97, 98, 99, 100, 101, 102] : List UInt8).length : Int) then
                 if x15.length + ((([48, 49, 50, 51, 52, 53, 54, 55, 56, 57, 97, 98, 99, 100, 101, 102] : List UInt8).take (IntKind.wrap .i64 (a17.1 + 1)).toNat).drop (a17.1).toNat).length ≤ maxLen then
                  if fits 16 ((a17.2 : List (List UInt8)).length + ([x15 ++ ((([48, 49, 50, 51, 52, 53, 54, 55, 56, 57, 97, 98, 99, 100, 101, 102] : List UInt8).take (IntKind.wrap .i64 (a17.1 + 1)).toNat).drop (a17.1).toNat)]).length) then
                   some (Stp.next (IntKind.wrap .i64 (a17.1 + 1), a17.2 ++ [x15 ++ ((([48, 49, 50, 51, 52, 53, 54, 55, 56, 57, 97, 98, 99, 100, 101, 102] : List UInt8).take (IntKind.wrap .i64 (a17.1 + 1)).toNat).drop (a17.1).toNat)]))
                  else none
                 else none
                else none
               else
                some (Stp.exit a17.2)) (0, a11.2)).bind fun a25 =>
             some (Stp.next (IntKind.wrap .i64 (a11.1 + 1), a25))
            else
             some (Stp.exit a11.2)) (0, List.replicate (0 : Int).toNat (([] : List UInt8) : List UInt8))).bind fun a27 =>
          some (Stp.next (a27, IntKind.wrap .i64 (a5.2 + 1)))
         else none
       else
        some (Stp.exit (Ou.go a5.1))) ([([] : List UInt8)], 0)) (fun a29 =>
       some (a29, 0)) some
set_option maxHeartbeats 1600000 in
theorem le_word_All {p0 : Int} {p1 : Int} : Lq (qhi p0 p1) (qee p0 p1) := by
 unfold qhi qee
 repeat' with_reducible first | intro _ | exact Lq.refl _ | exact Lq.none | apply zax | apply Lq.bind | apply Lq.jp | apply Lq.loop | apply Lq.lpO | apply Lq.forL | apply_assumption | apply qky
theorem qlM : ∀ r ∈ [0, 1, 2, 3], qhi 2 ((r : Nat) : Int) = some (allW [48, 49] r, 0) ∧ qgd 2 ((r : Nat) : Int) = some (allW [48, 49] r, 0) := by decide +kernel
theorem qoa {r : Nat} (h : r ≤ 3) : qee 2 (r : Int) = some (allW [48, 49] r, 0) := le_word_All.ap _ (qlM r (by simp only [List.mem_cons, List.not_mem_nil, or_false]; omega)).1
theorem qqc {r : Nat} (h : r ≤ 3) : qdB 2 (r : Int) = some (allW [48, 49] r, 0) := le_ref07_All.ap _ (qlM r (by simp only [List.mem_cons, List.not_mem_nil, or_false]; omega)).2
theorem qq8 {x : List UInt8} (h : ∀ c ∈ x, c ∈ [(48 : UInt8), 49]) : bitW x := fun c hc => by
 have := h c hc
 simp only [List.mem_cons, List.not_mem_nil, or_false] at this
 rcases this with rfl | rfl <;> rfl
def SmW (l : List (List UInt8)) : Prop := l.length ≤ 1000 ∧ ∀ x ∈ l, bitW x ∧ x.length ≤ 16
section
variable {g : Gr}
theorem qpd (hv : VG g) (h2 : g.1 = 2) {ms : List (List UInt8)} (hm : SmW ms) {a b : List UInt8} (ha : bitW a) (hb : bitW b) (la : a.length ≤ 16) (lb : b.length ≤ 16) : qbG g ms a b = some (qbW g ms a b) := by
 unfold qbG
 have := hm.1
 rw [qgT (fun m => inW g (a ++ m ++ b)) (by omega) fun m h => qpe hv h2 ha (hm.2 m h).1 hb la (hm.2 m h).2 lb]
 rfl
theorem qmj (hv : VG g) (h2 : g.1 = 2) {ms : List (List UInt8)} (hms : SmW ms) {a b : List UInt8} (ha : bitW a) (hb : bitW b) (la : a.length ≤ 16) (lb : b.length ≤ 16) : qa7 ms g a b = some (qbW g ms a b) := by
 unfold qa7
 have h256 := hms.1
 refine lpE (qlh (fun i => (i : Int)) ms (fun m => inW g (a ++ m ++ b)) (Ou.ret true) (Ou.go ()) (fun i hi => ?_) (by rw [if_neg (qaP _)]) rfl) ?_
 ·obtain ⟨hm, lm⟩ := hms.2 _ (List.getElem_mem hi)
  rw [if_pos (qcd hi), ix hi]
  simp only [Option.bind_some]
  rw [if_pos (by simp only [maxLen]; omega), if_pos (by simp only [maxLen, List.length_append]; omega), qkl hv h2 (qia.2 ⟨qia.2 ⟨ha, hm⟩, hb⟩) (by simp only [List.length_append]; omega)]
  simp only [Option.bind_some, nx (show ms.length ≤ 9223372036854775807 by omega) hi]
 unfold qbW
 cases ms.any fun m => inW g (a ++ m ++ b) <;> rfl
def qo9 (g : Gr) (ms out : List (List UInt8)) (w : List UInt8) : Bool := !qbW g ms w w || out.any fun v => !qbW g ms v w || !qbW g ms w v
def qds (g : Gr) (ms out : List (List UInt8)) (w : List UInt8) : List (List UInt8) := if qo9 g ms out w = true then out else out ++ [w]
def qqL (g : Gr) (ms all : List (List UInt8)) : List (List UInt8) := all.foldl (qds g ms) []
theorem qgu (ms out : List (List UInt8)) (w : List UInt8) : (qds g ms out w).length ≤ out.length + 1 ∧ out.length ≤ (qds g ms out w).length := by
 unfold qds
 split
 ·omega
 rw [List.length_append, List.length_singleton]; omega
theorem qkV {ms out : List (List UInt8)} {w x : List UInt8} (h : x ∈ qds g ms out w) : x ∈ out ∨ x = w := by
 unfold qds at h
 split at h
 ·exact .inl h
 rcases List.mem_append.1 h with h | h
 ·exact .inl h
 exact .inr (List.mem_singleton.1 h)
theorem qgs (ms : List (List UInt8)) : ∀ (l out : List (List UInt8)), (∃ m, l.foldl (qds g ms) out = out ++ m) ∧ (l.foldl (qds g ms) out).length ≤ out.length + l.length ∧ ∀ x ∈ l.foldl (qds g ms) out, x ∈ out ∨ x ∈ l
 | [], out => ⟨⟨[], by simp⟩, by simp, fun x hx => .inl hx⟩
 | w :: l, out => by
  obtain ⟨⟨m, hm⟩, h2, h3⟩ := qgs ms l (qds g ms out w)
  have h4 := qgu (g := g) ms out w
  refine ⟨?_, by rw [List.foldl_cons, List.length_cons]; omega, fun x hx => ?_⟩
  ·rw [List.foldl_cons, hm]
   unfold qds
   split
   ·exact ⟨m, rfl⟩
   exact ⟨w :: m, by rw [List.append_assoc]; rfl⟩
  rw [List.foldl_cons] at hx
  rcases h3 x hx with h | h
  ·rcases qkV h with h | rfl
   ·exact .inl h
   exact .inr (List.mem_cons_self ..)
  exact .inr (List.mem_cons_of_mem _ h)
theorem qr1 (hv : VG g) (h2 : g.1 = 2) {ms : List (List UInt8)} (hms : SmW ms) {out : List (List UInt8)} (ho : SmW out) {w : List UInt8} (hw : bitW w) (lw : w.length ≤ 16) : qnU g ms out w = some (qo9 g ms out w) := by
 unfold qnU qo9
 rw [qpd hv h2 hms hw hw lw lw, Option.bind_some]
 have hol := ho.1
 by_cases c : (!qbW g ms w w) = true
 ·rw [if_pos c, c, Bool.true_or]
 rw [if_neg c]
 have c' : (!qbW g ms w w) = false := by simpa using c
 rw [c', Bool.false_or]
 refine qgT (fun v => !qbW g ms v w || !qbW g ms w v) (by omega) fun v hvm => ?_
 obtain ⟨hb, hl⟩ := ho.2 v hvm
 unfold qcg
 rw [qpd hv h2 hms hb hw hl lw, qpd hv h2 hms hw hb lw hl]
 simp only [jp, Option.bind_some]
 cases qbW g ms v w <;> simp
theorem qqK (hv : VG g) (h2 : g.1 = 2) {ms : List (List UInt8)} (hms : SmW ms) : ∀ (l out : List (List UInt8)), SmW out → out.length + l.length ≤ 1000 → (∀ x ∈ l, bitW x ∧ x.length ≤ 16) → tkW (qnU g ms) l out = some (l.foldl (qds g ms) out)
 | [], _, _, _, _ => rfl
 | w :: l, out, ho, hl, hw => by
  obtain ⟨hb, lw⟩ := hw w (List.mem_cons_self ..)
  simp only [List.length_cons] at hl
  have ho' : SmW (qds g ms out w) := by
   refine ⟨by have := (qgu (g := g) ms out w).1; omega, fun x hx => ?_⟩
   rcases qkV hx with h | rfl
   ·exact ho.2 x h
   exact ⟨hb, lw⟩
  have ih := qqK hv h2 hms l (qds g ms out w) ho' (by have := (qgu (g := g) ms out w).1; omega) fun x hx => hw x (List.mem_cons_of_mem _ hx)
  rw [List.foldl_cons, ← ih]
  simp only [tkW]
  rw [qr1 hv h2 hms ho hb lw, Option.bind_some]
  unfold qds
  split <;> rfl
def fstB (m : Int) (a24 : List (List UInt8)) (x26 : List UInt8) : Option (Stp (List (List UInt8)) (List (List UInt8))) := if fits 16 ((a24 : List (List UInt8)).length + ([x26]).length) then (if (((a24 ++ [x26]).length : Nat) : Int) = m then some (Stp.exit (a24 ++ [x26])) else some (Stp.next (a24 ++ [x26]))) else none
theorem qnh {m : Nat} : ∀ (T a : List (List UInt8)), a.length < m → a.length + T.length ≤ 1000 →
  forL (fstB (m : Int)) T a = some (if m ≤ a.length + T.length then .ret ((a ++ T).take m) else .go (a ++ T))
 | [], a, h1, h2 => by
  simp only [List.length_nil, Nat.add_zero, List.append_nil]
  rw [if_neg (by omega)]
  rfl
 | x :: T, a, h1, h2 => by
  simp only [List.length_cons] at h2 ⊢
  have hl : (a ++ [x]).length = a.length + 1 := by rw [List.length_append, List.length_singleton]
  have hbody : fstB (m : Int) a x = if a.length + 1 = m then some (Stp.exit (a ++ [x])) else some (Stp.next (a ++ [x])) := by
   unfold fstB
   rw [if_pos (qdD (by simp only [List.length_singleton]; omega) (by simp only [List.length_singleton]; omega)), hl]
   by_cases c : a.length + 1 = m
   ·rw [if_pos (by omega), if_pos c]
   rw [if_neg (by omega), if_neg c]
  by_cases c : a.length + 1 = m
  ·rw [if_pos c] at hbody
   simp only [forL, hbody]
   rw [if_pos (by omega)]
   have e : a ++ x :: T = (a ++ [x]) ++ T := by rw [List.append_assoc]; rfl
   rw [e, ← c, ← hl, List.take_left]
  rw [if_neg c] at hbody
  simp only [forL, hbody]
  rw [qnh T (a ++ [x]) (by omega) (by omega), hl, List.append_assoc]
  have e : a.length + 1 + T.length = a.length + (T.length + 1) := by omega
  rw [e]
  rfl
end
section
variable {g : Gr}
def qdb (g : Gr) (n : Nat) : List (List UInt8) := (allW (lets g) n).filter (accB g)
def mrgs (r : Nat) : List (List UInt8) := allW [48, 49] r
theorem qsC (h2 : g.1 = 2) : lets g = [48, 49] := by unfold lets; rw [h2]; rfl
theorem qma {r : Nat} (h : r ≤ 3) : SmW (mrgs r) := by
 refine ⟨?_, fun x hx => ?_⟩
 ·unfold mrgs
  rw [qib]
  have : [(48 : UInt8), 49].length ^ r ≤ 2 ^ 3 := Nat.pow_le_pow_right (by decide) h
  omega
 obtain ⟨h1, h2⟩ := qe4.1 hx
 exact ⟨qq8 h2, by omega⟩
theorem qgV (h2 : g.1 = 2) {n : Nat} (h : n ≤ 6) : (qdb g n).length ≤ 64 := by
 unfold qdb
 refine Nat.le_trans (List.length_filter_le _ _) ?_
 rw [qib, qsC h2]
 have : [(48 : UInt8), 49].length ^ n ≤ 2 ^ 6 := Nat.pow_le_pow_right (by decide) h
 omega
theorem qjj (h2 : g.1 = 2) {n : Nat} {x : List UInt8} (h : x ∈ qdb g n) : x.length = n ∧ bitW x := by
 have := (List.mem_filter.1 h).1
 rw [qsC h2] at this
 obtain ⟨h1, h3⟩ := qe4.1 this
 exact ⟨h1, qq8 h3⟩
theorem qs1 (hv : VG g) (h2 : g.1 = 2) {n : Nat} (h : n ≤ 6) : qbe g (n : Int) = some (qdb g n, 0) ∧ qcG g (n : Int) = some (qdb g n, 0) := by
 have h1 : qbe g (n : Int) = some (qdb g n, 0) := qqH hv (by omega) (by omega) fun j j1 j2 => by
  have : g.1.toNat ^ j ≤ 2 ^ 6 := by
   rw [h2]
   exact Nat.pow_le_pow_right (by decide) (by omega)
  omega
 obtain ⟨r, hr, hr2, _⟩ := qjV g (n : Int)
 rw [h1] at hr
 cases hr
 exact ⟨h1, hr2⟩
def qgt (g : Gr) (n r : Nat) : List (List UInt8) := qqL g (mrgs r) (qdb g n)
def bldE (g : Gr) (n r m : Nat) : qap × Int := if m ≤ (qgt g n r).length then (((qgt g n r).take m, mrgs r), 0) else (([], []), 15)
theorem qpU (hv : VG g) (h2 : g.1 = 2) {n r : Nat} (hn : n ≤ 6) (hr : r ≤ 3) : qbX (qdb g n) g (mrgs r) = some (qgt g n r) := by
 have hl := qgV h2 hn
 unfold qbX
 rw [if_pos (by omega)]
 exact qqK hv h2 (qma hr) _ [] ⟨by simp, fun x hx => nomatch hx⟩ (by simp; omega) fun x hx => by
  obtain ⟨h1, h3⟩ := qjj h2 hx
  exact ⟨h3, by omega⟩
theorem qjo (h2 : g.1 = 2) {n r : Nat} (hn : n ≤ 6) : (qgt g n r).length ≤ 64 := by
 have h := (qgs (g := g) (mrgs r) (qdb g n) []).2.1
 have hl := qgV h2 hn
 unfold qgt qqL
 simp only [List.length_nil] at h
 omega
theorem qqb (hv : VG g) (h2 : g.1 = 2) {n r m : Nat} (hn : n ≤ 6) (hr : r ≤ 3) (hm1 : 1 ≤ m) (hm8 : m ≤ 8) :
    loopW (S := Int × (List (List UInt8))) (X := (List (List UInt8))) (fun a19 =>
              jp (fun (a23 : Bool) =>
                if a23 = true then
                 jp (fun (a26 : (List (List UInt8))) =>
                   some (Stp.next (IntKind.wrap .i64 (a19.1 + 1), a26)))
                   fun k28 =>
                  (idx (qdb g n) a19.1).bind fun x29 =>
                  (idx (qdb g n) a19.1).bind fun x31 =>
                  (qa7 (mrgs r) g x29 x31).bind fun x33 =>
                  (loopW (S := Bool × Int) (X := Bool) (fun a35 =>
                      if a35.2 < (((a19.2).length : Nat) : Int) then
                       jp (fun (a39 : Bool) =>
                         some (Stp.next (a39, IntKind.wrap .i64 (a35.2 + 1))))
                         fun k41 =>
                        if a35.1 = true then
                         (idx (qdb g n) a19.1).bind fun x42 =>
                         (idx a19.2 a35.2).bind fun x44 =>
                         (idx a19.2 a35.2).bind fun x46 =>
                         (qa7 (mrgs r) g x42 x46).bind fun x48 =>
                         if x48 = true then
                          (idx a19.2 a35.2).bind fun x50 =>
                          (idx a19.2 a35.2).bind fun x52 =>
                          (idx (qdb g n) a19.1).bind fun x54 =>
                          (qa7 (mrgs r) g x52 x54).bind fun x56 =>
                          k41 x56
                         else
                          k41 false
                        else
                         k41 false
                      else
                       some (Stp.exit a35.1)) (x33, 0)).bind fun a60 =>
                  if a60 = true then
                   (idx (qdb g n) a19.1).bind fun x62 =>
                   if fits 16 ((a19.2 : List (List UInt8)).length + ([x62]).length) then
                    k28 (a19.2 ++ [x62])
                   else none
                  else
                   k28 a19.2
                else
                 some (Stp.exit a19.2))
                fun k25 =>
               if a19.1 < (((qdb g n)).length : Int) then
                k25 (decide ((((a19.2).length : Nat) : Int) < (m : Int)))
               else
                k25 false) (0, ([] : List (List UInt8))) = some ((qgt g n r).take m) := by
  have hl := qgV h2 hn
  have hwm := fun x (hx : x ∈ qdb g n) => qjj h2 hx
  have hT : qgt g n r = (qdb g n).foldl (qds g (mrgs r)) [] := rfl
  rw [hT]
  generalize qdb g n = W at hl hwm
  have hsm := qma hr
  suffices h : ∃ x, loopW _ _ = some x ∧ x = (W.foldl (qds g (mrgs r)) []).take m by
    obtain ⟨x, hx, rfl⟩ := h
    exact hx
  refine qme (Q := fun x => x = (W.foldl (qds g (mrgs r)) []).take m) W.length (fun i (s : Int × List (List UInt8)) => s = ((i : Int), (W.take i).foldl (qds g (mrgs r)) []) ∧ ((W.take i).foldl (qds g (mrgs r)) []).length ≤ m) (fun i s hi ⟨hs, hlm⟩ => ?_) (fun s ⟨hs, hlm⟩ => ?_) 0 (0, []) (Nat.zero_le _) ⟨by simp, by simp⟩
  · subst hs
    obtain ⟨-, hFl, hFm⟩ := qgs (g := g) (mrgs r) (W.take i) []
    obtain ⟨⟨M, hM⟩, -, -⟩ := qgs (g := g) (mrgs r) (W.drop i) ((W.take i).foldl (qds g (mrgs r)) [])
    rw [← List.foldl_append, List.take_append_drop] at hM
    have hsucc : (W.take (i + 1)).foldl (qds g (mrgs r)) [] = qds g (mrgs r) ((W.take i).foldl (qds g (mrgs r)) []) W[i] := by
      rw [← List.take_append_getElem hi, List.foldl_append]
      rfl
    have hwi := hwm _ (List.getElem_mem hi)
    have hFb : ∀ x ∈ (W.take i).foldl (qds g (mrgs r)) [], bitW x ∧ x.length ≤ 16 := fun x hx => by
      have := hwm x (List.mem_of_mem_take ((hFm x hx).resolve_left (by simp)))
      exact ⟨this.2, by omega⟩
    rw [hsucc]
    generalize hF : (W.take i).foldl (qds g (mrgs r)) [] = F at hlm hM hFb
    clear hF hFl hFm hsucc
    dsimp only
    simp only [jp]
    rw [if_pos (qcd hi)]
    by_cases hc : F.length < m
    · refine .inl ⟨_, ?_, rfl, by have := (qgu (g := g) (mrgs r) F W[i]).1; omega⟩
      rw [if_pos (by simpa using hc), ix hi]
      simp only [Option.bind_some]
      rw [nx (by omega : W.length ≤ _) hi]
      generalize W[i] = w at hwi
      obtain ⟨lw, hw⟩ := hwi
      rw [qmj hv h2 hsm hw hw (by omega) (by omega)]
      simp only [Option.bind_some]
      refine qfN (qch (fun k => (qbW g (mrgs r) w w && (F.take k).all (fun v => qbW g (mrgs r) w v && qbW g (mrgs r) v w), (k : Int))) F.length (qbW g (mrgs r) w w && F.all (fun v => qbW g (mrgs r) w v && qbW g (mrgs r) v w)) (fun k hk => ?_) (by dsimp only; rw [if_neg (qaP _), List.take_length]) (by simp)) ?_
      · dsimp only
        have htk : F.take (k + 1) = F.take k ++ [F[k]] := (List.take_append_getElem hk).symm
        obtain ⟨hv1, hv2⟩ := hFb _ (List.getElem_mem hk)
        rw [if_pos (qcd hk), ix hk, nx (by omega : F.length ≤ _) hk, htk, List.all_append]
        simp only [Option.bind_some]
        generalize F[k] = v at hv1 hv2
        rw [qmj hv h2 hsm hw hv1 (by omega) hv2, qmj hv h2 hsm hv1 hw hv2 (by omega)]
        simp only [Option.bind_some, List.all_cons, List.all_nil, Bool.and_true]
        rw [← Bool.and_assoc]
        cases (qbW g (mrgs r) w w && (F.take k).all fun v => qbW g (mrgs r) w v && qbW g (mrgs r) v w) with
        | false => simp
        | true =>
          cases qbW g (mrgs r) w v with
          | false => simp
          | true => simp
      have hleft : qo9 g (mrgs r) F w = !(qbW g (mrgs r) w w && F.all fun v => qbW g (mrgs r) w v && qbW g (mrgs r) v w) := by
        unfold qo9
        rw [Bool.not_and, List.not_all_eq_any_not]
        congr 1
        refine congrArg (fun p => F.any p) (funext fun v => ?_)
        rw [Bool.not_and, Bool.or_comm]
      unfold qds
      rw [hleft]
      cases qbW g (mrgs r) w w && F.all fun v => qbW g (mrgs r) w v && qbW g (mrgs r) v w with
      | true =>
        rw [if_pos rfl, if_pos (qdD (by simp only [List.length_singleton]; omega) (by simp only [List.length_singleton]; omega))]
        simp
      | false => simp
    refine .inr ⟨F, ?_, ?_⟩
    · rw [if_neg (by simpa using hc)]
    have e : F.length = m := by omega
    rw [hM, ← e, List.take_left]
  subst hs
  rw [List.take_length] at hlm ⊢
  refine ⟨_, ?_, (List.take_of_length_le hlm).symm⟩
  dsimp only
  simp only [jp]
  rw [if_neg (qaP _), if_neg (by decide)]
end
theorem qlN {l : List (List UInt8)} (hl : l.length ≤ 1000000) : qc5 l l = some true := by
 unfold qc5
 rw [if_neg (fun h => h rfl)]
 refine lpL (qch (fun i => (i : Int)) l.length (Ou.go ()) (fun i hi => ?_) (by rw [if_neg (qaP _)]) rfl) rfl
 rw [if_pos (qcd hi), ix hi]
 simp only [Option.bind_some]
 rw [if_neg (fun h => h rfl), nx (by omega : l.length ≤ _) hi]
section
variable {g : Gr}
theorem qqB (h2 : g.1 = 2) {n r m : Nat} (hn : n ≤ 6) (hr : r ≤ 3) : (bldE g n r m).1.1.length ≤ 1000 ∧ (bldE g n r m).1.2.length ≤ 1000 := by
 have h1 := qjo (g := g) (r := r) h2 hn
 have h3 := (qma hr).1
 unfold bldE
 split
 ·exact ⟨by dsimp only; rw [List.length_take]; omega, h3⟩
 exact ⟨by simp, by simp⟩
theorem qrZ (hv : VG g) (h2 : g.1 = 2) {n r m : Nat} (hn : n ≤ 6) (hr : r ≤ 3) (hm1 : 1 ≤ m) (hm8 : m ≤ 8) :
    (qbX (qdb g n) g (mrgs r)).bind (fun L22 =>
           lpO (forL (S := (List (List UInt8))) (X := (List (List UInt8))) (fun a24 (x26 : (List UInt8)) =>
               if fits 16 ((a24 : List (List UInt8)).length + ([x26]).length) then
                if (((a24 ++ [x26]).length : Nat) : Int) = (m : Int) then
                 some (Stp.exit (a24 ++ [x26]))
                else
                 some (Stp.next (a24 ++ [x26]))
               else none) L22 ([] : List (List UInt8))) (fun a32 =>
               some ((([], []) : qap), (15 : Int))) fun a34 =>
               some ((a34, mrgs r), 0)) = some (bldE g n r m) := by
  have hl := qjo (g := g) (r := r) h2 hn
  rw [qpU hv h2 hn hr, Option.bind_some]
  have h := qnh (m := m) (qgt g n r) [] (by simp only [List.length_nil]; omega) (by simp; omega)
  refine lpL (h : forL _ _ _ = _) ?_
  unfold bldE
  simp only [List.length_nil, Nat.zero_add, List.nil_append]
  split <;> rfl
def BOk (g : Gr) (n r m : Int) (x : qap × Int) : Prop := VG g ∧ g.1 = 2 ∧ qaS g = some 0 ∧ detX g.2.2 = true ∧ irrB g = true ∧ ∃ n' r' m' : Nat, n = n' ∧ r = r' ∧ m = m' ∧ 1 ≤ n' ∧ n' ≤ 6 ∧ r' ≤ 3 ∧ 1 ≤ m' ∧ m' ≤ 8 ∧ x = bldE g n' r' m'
theorem qn7 (g : Gr) {n r m : Int} (hn : n ≤ 6 ∨ 16 < n) (hr : r ≤ 3 ∨ 8 < r) (hm : m ≤ 8 ∨ 256 < m) : ∃ x : qap × Int, qb8 g n r m = some x ∧ qcF g n r m = some x ∧ x.1.1.length ≤ 1000 ∧ x.1.2.length ≤ 1000 ∧
  (x.2 = 0 → BOk g n r m x) ∧ (x.2 ≠ 0 → x.1 = ([], [])) := by
 obtain ⟨e, he, hz⟩ := qgU g
 have done : ∀ c : Int, c ≠ 0 → (((([], []) : qap), c) : qap × Int).1.1.length ≤ 1000 ∧ (((([], []) : qap), c) : qap × Int).1.2.length ≤ 1000 ∧
  ((((([], []) : qap), c) : qap × Int).2 = 0 → BOk g n r m ((([], []) : qap), c)) ∧ ((((([], []) : qap), c) : qap × Int).2 ≠ 0 → (((([], []) : qap), c) : qap × Int).1 = ([], [])) := fun c hc => ⟨by simp, by simp, fun h => absurd h hc, fun _ => rfl⟩
 unfold qb8 qcF
 rw [qep, he]
 simp only [Option.bind_some]
 by_cases h0 : e = 0
 case neg => rw [if_pos h0, if_pos h0]; exact ⟨_, rfl, rfl, done 1 (by decide)⟩
 subst h0
 have hv := hz.1 rfl
 rw [if_neg (show ¬ (0 : Int) ≠ 0 from fun h => h rfl), if_neg (show ¬ (0 : Int) ≠ 0 from fun h => h rfl)]
 by_cases h2 : g.1 = 2
 case neg => rw [if_pos h2, if_pos h2]; exact ⟨_, rfl, rfl, done 12 (by decide)⟩
 rw [if_neg (fun h => h h2), if_neg (fun h => h h2), qsa he hv, qqI he hv, qs7 he hv, qr9 he hv]
 simp only [Option.bind_some, jp, ne_eq, not_true_eq_false, if_false]
 cases hd : detX g.2.2 with
 | false => exact ⟨_, rfl, rfl, done 8 (by decide)⟩
 | true =>
 cases hi : irrB g with
 | false => exact ⟨_, rfl, rfl, done 8 (by decide)⟩
 | true =>
 simp only [Bool.not_true, Bool.false_eq_true, if_false]
 by_cases c1 : n < 1
 ·rw [if_pos c1, if_pos c1]; exact ⟨_, rfl, rfl, done 2 (by decide)⟩
 rw [if_neg c1, if_neg c1]
 by_cases c2 : 16 < n
 ·rw [if_pos c2, if_pos c2]; exact ⟨_, rfl, rfl, done 2 (by decide)⟩
 rw [if_neg c2, if_neg c2]
 by_cases c3 : r < 0
 ·rw [if_pos c3, if_pos c3]; exact ⟨_, rfl, rfl, done 2 (by decide)⟩
 rw [if_neg c3, if_neg c3]
 by_cases c4 : 8 < r
 ·rw [if_pos c4, if_pos c4]; exact ⟨_, rfl, rfl, done 2 (by decide)⟩
 rw [if_neg c4, if_neg c4]
 by_cases c5 : m < 1
 ·rw [if_pos c5, if_pos c5]; exact ⟨_, rfl, rfl, done 2 (by decide)⟩
 rw [if_neg c5, if_neg c5]
 by_cases c6 : 256 < m
 ·rw [decide_eq_true c6]; exact ⟨_, rfl, rfl, done 2 (by decide)⟩
 rw [decide_eq_false c6]
 simp only [Bool.false_eq_true, if_false]
 obtain ⟨n', rfl⟩ := Int.eq_ofNat_of_zero_le (show 0 ≤ n by omega)
 obtain ⟨r', rfl⟩ := Int.eq_ofNat_of_zero_le (show 0 ≤ r by omega)
 obtain ⟨m', rfl⟩ := Int.eq_ofNat_of_zero_le (show 0 ≤ m by omega)
 have hn6 : n' ≤ 6 := by omega
 have hr3 : r' ≤ 3 := by omega
 have hm1 : 1 ≤ m' := by omega
 have hm8 : m' ≤ 8 := by omega
 obtain ⟨w1, w2⟩ := qs1 hv h2 hn6
 have hlen := qqB (g := g) (m := m') h2 hn6 hr3
 rw [w1, w2, qoa hr3, qqc hr3]
 simp only [Option.bind_some, if_false]
 refine ⟨bldE g n' r' m', qrZ hv h2 hn6 hr3 hm1 hm8, ?_, hlen.1, hlen.2, fun _ => ⟨hv, h2, he, hd, hi, n', r', m', rfl, rfl, rfl, by omega, hn6, hr3, hm1, hm8, rfl⟩, fun hx => ?_⟩
 ·refine qfN (qqb hv h2 hn6 hr3 hm1 hm8) ?_
  unfold bldE
  by_cases c : m' ≤ (qgt g n' r').length
  ·rw [if_neg (by rw [List.length_take]; omega), if_pos c]
   rfl
  rw [if_pos (by rw [List.length_take]; omega), if_neg c]
 unfold bldE at hx ⊢
 split at hx
 ·exact absurd rfl hx
 rename_i c
 rw [if_neg c]
theorem qlk (g : qaa) (n r m : Int) : qbR g n r m = some true := by
  obtain ⟨b, hb, hg⟩ := qpP g
  have main : (n ≤ 6 ∨ 16 < n) → (r ≤ 3 ∨ 8 < r) → (m ≤ 8 ∨ 256 < m) → ((qb8 g n r m).bind fun x6 =>
    (qcF g n r m).bind fun x9 =>
    jp (fun (a12 : Bool) =>
      some a12)
      fun k14 =>
     (qby x6.1 x9.1).bind fun x15 =>
     if x15 = true then
      if x6.2 = x9.2 then
       (m_law31_awake).bind fun x17 =>
       k14 x17
      else
       k14 false
     else
      k14 false) = some true := by
    intro h1 h2 h3
    obtain ⟨x, e1, e2, l1, l2, _⟩ := qn7 g h1 h2 h3
    rw [e1, e2]
    simp only [Option.bind_some, jp]
    have : qby x.1 x.1 = some true := by
      unfold qby
      simp only [jp]
      rw [qlN (by omega), Option.bind_some, if_pos rfl, qlN (by omega)]
      rfl
    rw [this]
    simp [m_law31_awake]
  unfold qbR
  simp only [jp] at main ⊢
  rw [hb, Option.bind_some]
  cases b with
  | true => rfl
  | false =>
    simp only [Bool.false_eq_true, if_false, if_true]
    have hA : (m_law31_awake.bind fun x4 => some x4) = some true := rfl
    by_cases c1 : 6 < n
    · rw [if_pos c1]
      by_cases c2 : n ≤ 16
      · rw [if_pos c2]; exact hA
      rw [if_neg c2]
      by_cases c3 : 3 < r
      · rw [if_pos c3]
        by_cases c4 : r ≤ 8
        · rw [if_pos c4]; exact hA
        rw [if_neg c4]
        by_cases c5 : 8 < m
        · rw [if_pos c5]
          by_cases c6 : m ≤ 256
          · rw [decide_eq_true c6]; exact hA
          rw [decide_eq_false c6]
          simpa using main (by omega) (by omega) (by omega)
        rw [if_neg c5]
        simpa using main (by omega) (by omega) (by omega)
      rw [if_neg c3]
      by_cases c5 : 8 < m
      · rw [if_pos c5]
        by_cases c6 : m ≤ 256
        · rw [decide_eq_true c6]; exact hA
        rw [decide_eq_false c6]
        simpa using main (by omega) (by omega) (by omega)
      rw [if_neg c5]
      simpa using main (by omega) (by omega) (by omega)
    rw [if_neg c1]
    by_cases c3 : 3 < r
    · rw [if_pos c3]
      by_cases c4 : r ≤ 8
      · rw [if_pos c4]; exact hA
      rw [if_neg c4]
      by_cases c5 : 8 < m
      · rw [if_pos c5]
        by_cases c6 : m ≤ 256
        · rw [decide_eq_true c6]; exact hA
        rw [decide_eq_false c6]
        simpa using main (by omega) (by omega) (by omega)
      rw [if_neg c5]
      simpa using main (by omega) (by omega) (by omega)
    rw [if_neg c3]
    by_cases c5 : 8 < m
    · rw [if_pos c5]
      by_cases c6 : m ≤ 256
      · rw [decide_eq_true c6]; exact hA
      rw [decide_eq_false c6]
      simpa using main (by omega) (by omega) (by omega)
    rw [if_neg c5]
    simpa using main (by omega) (by omega) (by omega)
end
section
open Go Go.ChangeShapes Go.WideShapes Go.ChangeAt Go.RowKit
def Kept (W W' : World) : Prop := W'.os = W.os ∧ W'.output = W.output ∧ W.heap.size ≤ W'.heap.size ∧ ∀ b : Nat, b < W.heap.size → W'.heap[b]? = W.heap[b]?
theorem Kept.frame {W W' : World} (h : Kept W W') (may : MemPlace → Prop) : W.keptBut W' may := by
 refine ⟨h.1, h.2.1, fun i hi => ?_⟩
 rw [h.2.2.2 i hi]
 cases W.heap[i]? with
 | none => rfl
 | some o => cases o with
  | cells c t fr => exact ⟨rfl, rfl, rfl, fun _ _ => rfl⟩
  | map es clock => exact .inr ⟨rfl, rfl⟩
  | _ => rfl
theorem Kept.frozen {W W' : World} (h : Kept W W') (a : Addr) (ha : a.block < W.heap.size) : W'.frozen? a = W.frozen? a := by
 simp only [World.frozen?, h.2.2.2 _ ha]
def Mu.zero : Mu := { nx := 0, loc := fun _ => none, held := fun _ => False }
theorem SR.zero (W : World) : SR W Mu.zero [] :=
 ⟨(fun _ _ _ h => by cases h), (fun _ _ _ h => by cases h), (fun _ _ h => by cases h), (fun _ _ _ _ _ h => by cases h), (fun _ h => h.elim)⟩
theorem qkK {P : Program} {f : FuncId} {args : List HV} {vs : List Value} {W : World} (hp : Pure P f args (· = .bool true)) (hr : RepL W Mu.zero args vs) (hgl : GlOk W Mu.zero := by exact fun _ h => by cases h) :
  Calls P f vs.toArray W fun e W' => e = .returned (.bool true) ∧ Kept W W' := by
 refine (hp.2 Mu.zero W vs (SR.zero W) hr hgl).mono ?_
 rintro e W' ⟨v, r, H', μ', rfl, ⟨rfl, _, _⟩, hs, hv, E⟩
 have hv' : v = .bool true := hv
 subst hv'
 exact ⟨rfl, E.os, E.output, E.size, fun b hb => E.keep b hb fun ⟨_, _, hl⟩ => by cases hl⟩
theorem qlc {H : Type} {enc : TypeId × Value → H} {P : Program} {f : Func} {s : ChangeSpec} {apart fresh handsOn again : Bool} {W W' : World} {args : Array Value} {v : Value} {ds gs : List (DataW H)} {before pa pv : List MemPlace}
  (hW : DataW.Whole enc P f.params.toList s.vars apart W args.toList ds gs before)
  (hres : ∀ (b : Nat) (sp : Nat → Bool) (hd : Bool), DataW.TrodAll enc P W' b sp hd f.resultTypes.toList (v.resultList f.resultTypes.size) (s.fn H (ds ++ gs)).results [])
  (hargs : ∀ sp : Nat → Bool, (∀ p ∈ before, sp p.block = true) → DataW.TrodAll enc P W' 0 sp true f.params.toList args.toList (s.fn H (ds ++ gs)).args pa)
  (hvars : ∀ sp : Nat → Bool, (∀ p ∈ before, sp p.block = true) → DataW.TrodVars enc P W' sp s.vars (s.fn H (ds ++ gs)).vars pv)
  (hps : before = pa ++ pv) (hk : Kept W W')
  (hok : ∀ (j : Nat) (t : TypeId) (r : Value), f.resultTypes[j]? = some t → (v.resultList f.resultTypes.size)[j]? = some r → Value.okWide P W' .any 0 t r) :
  s.post enc P f apart fresh handsOn again W args v W' := by
 have hold : ∀ p ∈ before, (fun b => decide (b < W.heap.size)) p.block = true := fun p hp => by simpa using hW.lt p hp
 refine ⟨ds, gs, before, [], pa, pv, hW, hres _ _ _, hargs _ hold, hvars _ hold, World.keptBut_mono (fun p hp => ⟨hp, ?_⟩) (hk.frame (· ∈ before)), fun _ => ?_⟩
 ·rw [hps, List.mem_append] at hp
  exact Or.inr hp
 have hlt := hW.lt
 obtain ⟨_, _, _, _, _, hz, hn⟩ := hW
 refine ⟨hok, _, _, ([] ++ pa) ++ pv, ⟨[] ++ pa, pv, trodAll_append (hargs _ (fun _ _ => rfl)) (hres _ _ _), hvars _ (fun _ _ => rfl), rfl, ?_, ?_⟩, ?_⟩
 ·intro b off hp
  have hp' : MemPlace.cell b off ∈ before := by rw [hps]; simpa using hp
  rw [hk.frozen _ (hlt _ hp')]
  exact hz b off hp'
 ·intro ha
  have := hn ha
  rw [hps] at this
  simpa using this
 intro p hp _
 rw [hps]
 simpa using hp
end
section
open Go Go.ChangeShapes Go.WideShapes Go.ChangeAt Go.RowKit
theorem qp8 {p : Program} {fits : TypeId → Bool} {d : Nat} {e : TypeId} {count off n : Nat} (h : rowAt p fits d e count off n = true) : off ≤ count * p.cellsOf e := by
 cases d with
 | zero => simp [rowAt] at h
 | succ d =>
  unfold rowAt at h
  simp only at h
  split at h
  ·cases h
  rename_i hs
  have hs' : 0 < p.cellsOf e := Nat.pos_of_ne_zero hs
  have hd := Nat.div_add_mod off (p.cellsOf e)
  rw [Nat.mul_comm] at hd
  simp only [Bool.or_eq_true, Bool.and_eq_true, beq_iff_eq, decide_eq_true_eq] at h
  rcases h with ⟨⟨h0, h1⟩, _⟩ | ⟨h1, _⟩
  ·rw [← hd, h0, Nat.add_zero]
   exact Nat.mul_le_mul_right _ (by omega)
  have hm := Nat.mod_lt off hs'
  have : (off / p.cellsOf e + 1) * p.cellsOf e ≤ count * p.cellsOf e := Nat.mul_le_mul_right _ h1
  rw [Nat.add_mul] at this
  omega
theorem qo8 {p : Program} {d : Nat} {e u : TypeId} {count off n : Nat} (h : liesAt p d e count off u n = true) : off ≤ count * p.cellsOf e := by
 induction d generalizing u n with
 | zero => simp [liesAt] at h
 | succ d ih =>
  unfold liesAt at h
  rw [Bool.or_eq_true] at h
  rcases h with h | h
  ·exact qp8 h
  split at h
  ·exact ih h
  cases h
theorem qrQ {P : Program} {W : World} {r : Reach} {base : Nat} {a : Addr} {e : TypeId} {cap : Nat} (h : W.has P r base a e cap) {vs : List Value} (hc : ∀ i (hi : i < vs.length), W.cell? (a.add i) = some vs[i]) :
  ∃ b off, a = ⟨b, off, none⟩ ∧ Seg W b off vs := by
 obtain ⟨_, hsp, row, cells, hsh, hl⟩ := h
 obtain ⟨b, off, spot⟩ := a
 dsimp only at hsp hsh hl
 subst hsp
 refine ⟨b, off, rfl, ?_⟩
 unfold World.shape? at hsh
 split at hsh
 ·rename_i cur e' fr hb
  simp only [Option.some.injEq, Prod.mk.injEq] at hsh
  obtain ⟨rfl, rfl⟩ := hsh
  have hoff : off ≤ cur.size := Nat.le_trans (qo8 hl) (Nat.div_mul_le_self _ _)
  have hget : ∀ i (hi : i < vs.length), cur.toList[off + i]? = some vs[i] := fun i hi => by
   have := hc i hi
   rw [add_plain] at this
   unfold World.cell? at this
   rw [hb] at this
   simpa using this
  refine ⟨cur, e', fr, cur.toList.take off, cur.toList.drop (off + vs.length), hb, ?_, by simp [hoff]⟩
  have hvs : vs = (cur.toList.drop off).take vs.length := by
   apply List.ext_getElem?
   intro i
   rcases Nat.lt_or_ge i vs.length with hi | hi
   ·rw [List.getElem?_take_of_lt hi, List.getElem?_drop, hget i hi, List.getElem?_eq_getElem hi]
   rw [List.getElem?_eq_none hi, List.getElem?_eq_none (by simp; omega)]
  have : vs ++ cur.toList.drop (off + vs.length) = cur.toList.drop off := by
   conv => lhs; arg 1; rw [hvs]
   rw [← List.drop_drop]
   exact List.take_append_drop _ _
  rw [List.append_assoc, this, List.take_append_drop]
 cases hsh
theorem nown (b : Nat) : ¬ Mu.zero.owns b := fun h => h.elim (fun ⟨_, _, h⟩ => by cases h) id
theorem qkm {H : Type} {enc : TypeId × Value → H} {P : Program} {W : World} {base : Nat} {t : TypeId} {k : IntKind} {v : Value} {d : DataW H} {ps : List MemPlace} (ht : P.underlying t = some (.int k))
  (hval : Value.okWide P W .any base t v) (h : DataW.Trod enc P W 0 (fun _ => true) true t v d ps) : ∃ n : Int, (Lit.int k n).wf = true ∧ Rep W Mu.zero (.int k n) v := by
 obtain ⟨n, rfl, _, _, hw⟩ := open_int ht hval h
 exact ⟨n, hw, rfl, hw⟩
theorem qgr {H : Type} {enc : TypeId × Value → H} {P : Program} (hl : laidOutB P = true) {W W' : World} {sp : Nat → Bool} : ∀ {ts : List TypeId} {vs : List Value} {ds : List (DataW H)} {ps : List MemPlace},
  (ts.all fun t => P.readableRec t && decide (t < P.types.size)) = true → DataW.TrodAll enc P W 0 (fun _ => true) true ts vs ds ps → (∀ p ∈ ps, W.sameAt W' p) → (∀ p ∈ ps, sp p.block = true) → DataW.TrodAll enc P W' 0 sp true ts vs ds ps
 | [], vs, ds, ps, _, h, _, _ => by
  obtain ⟨rfl, rfl, rfl⟩ := trodAll_nil h
  exact trodAll_mk0
 | t :: ts, vs, ds, ps, ht, h, h1, h2 => by
  obtain ⟨v, vs', d, ds', p, q, rfl, rfl, rfl, h3, h4⟩ := trodAll_cons h
  simp only [List.all_cons, Bool.and_eq_true, decide_eq_true_eq] at ht
  exact trodAll_cons_mk (WideElems.Trod_stays hl ht.1.1 ht.1.2 h3 (fun x hx => h1 x (List.mem_append_left _ hx)) (fun x hx => h2 x (List.mem_append_left _ hx)))
   (qgr hl ht.2 h4 (fun x hx => h1 x (List.mem_append_right _ hx)) (fun x hx => h2 x (List.mem_append_right _ hx)))
theorem Kept.same {W W' : World} (h : Kept W W') (p : MemPlace) (hp : p.block < W.heap.size) : W.sameAt W' p := by
 cases p with
 | cell b off =>
  show W'.cell? ⟨b, off, none⟩ = W.cell? ⟨b, off, none⟩
  unfold World.cell?
  rw [h.2.2.2 b hp]
 | map b => exact h.2.2.2 b hp
theorem qlb {H : Type} {enc : TypeId × Value → H} {P : Program} {f : Func} {s : ChangeSpec} {apart fresh handsOn again : Bool} {W W' : World} {args : Array Value} {ds gs : List (DataW H)} {before : List MemPlace} {t : TypeId}
  (hl : laidOutB P = true) (hps : (f.params.toList.all fun t => P.readableRec t && decide (t < P.types.size)) = true) (hres : f.resultTypes = #[t]) (ht : P.underlying t = some .bool) (hv : s.vars = [])
  (hW : DataW.Whole enc P f.params.toList s.vars apart W args.toList ds gs before) (hk : Kept W W')
  (h1 : (s.fn H (ds ++ gs)).results = [.lit (.bool true)]) (h2 : (s.fn H (ds ++ gs)).args = ds) (h3 : (s.fn H (ds ++ gs)).vars = []) :
  s.post enc P f apart fresh handsOn again W args (.bool true) W' := by
 have hlt := hW.lt
 have hW' := hW
 obtain ⟨p, q, hA, hV, rfl, _, _⟩ := hW
 rw [hv] at hV
 obtain ⟨rfl, rfl⟩ := trodVars_none hV
 refine qlc (pa := p) (pv := []) hW' (fun _ _ _ => ?_) (fun sp hsp => ?_) (fun _ _ => ?_) (by simp) hk (ok_one hres rfl (okWide_bool_mk ht _))
 ·rw [hres, h1]
  exact trodAll_cons_mk (shut_bool ht _) trodAll_mk0
 ·rw [h2]
  exact qgr hl hps hA (fun x hx => hk.same x (hlt x (by simpa using hx))) (fun x hx => hsp x (by simpa using hx))
 rw [h3, hv]
 rfl
end
section
open Go Go.ChangeShapes Go.WideShapes Go.ChangeAt Go.RowKit
section
variable {H : Type} {enc : TypeId × Value → H} {P : Program} {W : World} {base : Nat}
theorem qmW {μ : Mu} : ∀ {hs ks : List HV} {vs us : List Value}, RepL W μ hs vs → RepL W μ ks us → RepL W μ (hs ++ ks) (vs ++ us)
 | [], _, _, _, h, h' => by cases h; exact h'
 | _ :: _, _, _, _, ⟨x, xs, rfl, h1, h2⟩, h' => ⟨x, _, rfl, h1, qmW h2 h'⟩
theorem qqF (a : Addr) (i j : Nat) : (a.add i).add j = a.add (i + j) := by
 unfold Addr.add
 repeat' split
 all_goals simp_all [Nat.add_assoc]
theorem qoJ {α : Type} (c : EncL α) {fuel : Nat} {t e : TypeId} {cs : List Value} {x : DataW H × List MemPlace} (ht : P.underlying t = some (.slice e)) (hk : P.cellsOf e = c.k) (hone : ∀ x, ones (c.C x))
  (hel : ∀ n cs y, DataW.trod enc P W 0 (fun _ => true) true n e cs = some y → ∃ x : α, RepL W Mu.zero (c.C x) cs)
  (hhas : ∀ a len cap, cs = [.slice (some a) len cap] → W.has P .any base a e cap) (h : DataW.trod enc P W 0 (fun _ => true) true fuel t cs = some x) : ∃ l : List α, RepL W Mu.zero [slE c l] cs := by
 rcases DataW.trod_slice ht h with ⟨rfl, _⟩ | ⟨a, len, cap, elems, rest, n, _, rfl, _, _, hl, hm, hlen, hel', _, _⟩
 ·refine ⟨[], _, _, rfl, ?_, rfl⟩
  show _ ∧ _
  exact ⟨(by rw [c.nil]; exact fun _ h => nomatch h), (by rw [c.nil]; simp), Nat.zero_le _, .inl ⟨rfl, none, rfl⟩⟩
 have each : ∀ i, i < len → ∃ cs' x, W.cells? 0 (a.add (i * c.k)) c.k = some cs' ∧ RepL W Mu.zero (c.C x) cs' := fun i hi => by
  have h1 := hel' i hi
  rw [List.getElem?_eq_getElem (by omega), Option.bind_eq_some_iff, hk] at h1
  obtain ⟨cs', h2, h3⟩ := h1
  obtain ⟨x, hx⟩ := hel _ _ _ h3
  exact ⟨cs', x, h2, hx⟩
 have build : ∀ m, m ≤ len → ∃ (l : List α) (vs : List Value), l.length = m ∧ vs.length = m * c.k ∧ RepL W Mu.zero (c.E l) vs ∧ ∀ i (hi : i < vs.length), W.cell? (a.add i) = some vs[i] := by
  intro m
  induction m with
  | zero => exact fun _ => ⟨[], [], rfl, by simp, by rw [c.nil]; rfl, fun i hi => by simp at hi⟩
  | succ m ih =>
   intro hm
   obtain ⟨l, vs, h1, h2, h3, h4⟩ := ih (by omega)
   obtain ⟨cs', x, h5, h6⟩ := each m (by omega)
   obtain ⟨_, h7, h8⟩ := World.cells?_some h5
   refine ⟨l ++ [x], vs ++ cs', by simp [h1], by rw [List.length_append, h2, h7, Nat.succ_mul], by rw [c.append, c.one]; exact qmW h3 h6, fun i hi => ?_⟩
   rcases Nat.lt_or_ge i vs.length with hi' | hi'
   ·rw [List.getElem_append_left hi']; exact h4 i hi'
   rw [List.getElem_append_right hi']
   rw [List.length_append] at hi
   have := h8 (i - vs.length) (by omega)
   rw [qqF, h2, show m * c.k + (i - m * c.k) = i by omega] at this
   rw [this, List.getElem?_eq_getElem (by omega)]
   simp only [h2]
 obtain ⟨l, vs, h1, h2, h3, h4⟩ := build len (Nat.le_refl _)
 obtain ⟨b, off, rfl, hseg⟩ := qrQ (hhas _ _ _ rfl) h4
 refine ⟨l, _, _, rfl, ?_, rfl⟩
 show _ ∧ _
 refine ⟨fun d hd => ?_, c.len l, by omega, .inr ⟨b, off, cap, vs, by rw [h1], by omega, nown b, hseg, h3⟩⟩
 rw [c.hE] at hd
 obtain ⟨x, _, hdx⟩ := List.mem_flatMap.1 hd
 exact hone x d hdx
theorem qst {t : TypeId} {f0 f1 f2 : Field} {fuel : Nat} {cs : List Value} {x : DataW H × List MemPlace} (ht : P.underlying t = some (.struct #[f0, f1, f2])) (o0 : f0.offset = 0) (o1 : f1.offset = 1) (o2 : f2.offset = 2) (c : P.cellsOf t = 3)
  (c0 : P.cellsOf f0.type = 1) (c1 : P.cellsOf f1.type = 1) (c2 : P.cellsOf f2.type = 1) (h : DataW.trod enc P W 0 (fun _ => true) true fuel t cs = some x) :
  ∃ v0 v1 v2 y0 y1 y2 n, cs = [v0, v1, v2] ∧ DataW.trod enc P W 0 (fun _ => true) true n f0.type [v0] = some y0 ∧ DataW.trod enc P W 0 (fun _ => true) true n f1.type [v1] = some y1 ∧ DataW.trod enc P W 0 (fun _ => true) true n f2.type [v2] = some y2 := by
 obtain ⟨xs, n, _, rfl, hl, hlen, hf⟩ := DataW.trod_struct ht h
 rw [c] at hl
 match cs, hl with
 | [v0, v1, v2], _ =>
  match xs, hlen with
  | [y0, y1, y2], _ =>
   refine ⟨v0, v1, v2, y0, y1, y2, n, rfl, ?_, ?_, ?_⟩
   ·have := hf 0 f0 rfl; rw [o0, c0] at this; exact this
   ·have := hf 1 f1 rfl; rw [o1, c1] at this; exact this
   have := hf 2 f2 rfl; rw [o2, c2] at this; exact this
theorem qiF {n : Int} {ti : TypeId} {m : Nat} {v : Value} {y : DataW H × List MemPlace} (hti : P.underlying ti = some (.int .i64)) (h : DataW.trod enc P W 0 (fun _ => true) true m ti [v] = some y) : ∃ n : Int, Rep W Mu.zero (.int .i64 n) v := by
 obtain ⟨n, hv, _, hw⟩ := DataW.trod_int hti h
 cases hv
 exact ⟨n, rfl, hw⟩
theorem qnJ {t ti ts te : TypeId} {f0 f1 f2 e0 e1 e2 : Field} {v : Value} {d : DataW H} {ps : List MemPlace} (ht : P.underlying t = some (.struct #[f0, f1, f2])) (o : f0.offset = 0 ∧ f1.offset = 1 ∧ f2.offset = 2) (y : f0.type = ti ∧ f1.type = ti ∧ f2.type = ts)
  (c : P.cellsOf t = 3) (ci : P.cellsOf ti = 1) (cs : P.cellsOf ts = 1) (ct : P.cellTypes P.depth t = some [ti, ti, ts]) (hti : P.underlying ti = some (.int .i64)) (hts : P.underlying ts = some (.slice te))
  (hte : P.underlying te = some (.struct #[e0, e1, e2])) (oe : e0.offset = 0 ∧ e1.offset = 1 ∧ e2.offset = 2) (ye : e0.type = ti ∧ e1.type = ti ∧ e2.type = ti) (ce : P.cellsOf te = 3)
  (hval : Value.okWide P W .any base t v) (h : DataW.Trod enc P W 0 (fun _ => true) true t v d ps) : ∃ g : qaa, Rep W Mu.zero (.agg [.int .i64 g.1, .int .i64 g.2.1, slE eFromLabelTo g.2.2]) v := by
 obtain ⟨y0, y1, y2⟩ := y
 obtain ⟨z0, z1, z2⟩ := ye
 simp only [Value.okWide, ht] at hval
 obtain ⟨arr, rfl, _, hrow⟩ := hval
 obtain ⟨fuel, hf⟩ := h
 obtain ⟨v0, v1, v2, a0, a1, a2, n, hcs, h0, h1, h2⟩ := qst ht o.1 o.2.1 o.2.2 c (by rw [y0]; exact ci) (by rw [y1]; exact ci) (by rw [y2]; exact cs) hf
 have harr : arr = #[v0, v1, v2] := by
  have : arr.toList = [v0, v1, v2] := hcs
  cases arr
  simp_all
 subst harr
 rw [y0] at h0
 rw [y1] at h1
 rw [y2] at h2
 obtain ⟨l, r0⟩ := qiF (n := 0) hti h0
 obtain ⟨s, r1⟩ := qiF (n := 0) hti h1
 obtain ⟨es, _, _, r2, r2', r2''⟩ := qoJ (base := base) eFromLabelTo hts ce (fun x d hd => by
   have hd : d ∈ [HV.int .i64 x.1, HV.int .i64 x.2.1, HV.int .i64 x.2.2] := hd
   simp only [List.mem_cons, List.not_mem_nil, or_false] at hd
   rcases hd with rfl | rfl | rfl <;> rfl) (fun m cs' y hy => by
   obtain ⟨w0, w1, w2, b0, b1, b2, n', rfl, k0, k1, k2⟩ := qst hte oe.1 oe.2.1 oe.2.2 ce (by rw [z0]; exact ci) (by rw [z1]; exact ci) (by rw [z2]; exact ci) hy
   rw [z0] at k0
   rw [z1] at k1
   rw [z2] at k2
   obtain ⟨p0, q0⟩ := qiF (n := 0) hti k0
   obtain ⟨p1, q1⟩ := qiF (n := 0) hti k1
   obtain ⟨p2, q2⟩ := qiF (n := 0) hti k2
   exact ⟨(p0, p1, p2), _, _, rfl, q0, _, _, rfl, q1, _, _, rfl, q2, rfl⟩) (fun a len cap e => by
   cases e
   obtain ⟨tys, ht1, _, hcell⟩ := hrow
   rw [ct] at ht1
   cases ht1
   obtain ⟨u, hu, hok⟩ := hcell 2 (.slice (some a) len cap) rfl
   cases hu
   simp only [Cell.okWide, hts, Cell.ok] at hok
   exact hok.2.2) h2
 cases r2
 refine ⟨(l, s, es), ?_⟩
 show _ ∧ _
 refine ⟨fun d hd => ?_, _, rfl, _, _, rfl, r0, _, _, rfl, r1, _, _, rfl, r2', rfl⟩
 simp only [List.mem_cons, List.not_mem_nil, or_false] at hd
 rcases hd with rfl | rfl | rfl <;> rfl
end
end
section
open Go Go.ChangeShapes Go.WideShapes Go.ChangeAt Go.RowKit
section
variable {H : Type} {enc : TypeId × Value → H} {P : Program} {W : World} {base : Nat}
end
end
section
open Go Go.ChangeShapes Go.WideShapes Go.ChangeAt Go.RowKit
section
variable {H : Type} {enc : TypeId × Value → H} {P : Program} {W : World} {base : Nat}
end
end
section
open Go Go.ChangeShapes Go.WideShapes Go.ChangeAt Go.RowKit
section
variable {H : Type} {enc : TypeId × Value → H} {P : Program} {W : World} {base : Nat}
end
end
end Go.AW
namespace Go.Proofs.YtlddcjolelmpmaaGreat
open Go Go.AW Go.ChangeShapes Go.WideShapes Go.ChangeAt Go.RowKit Go.ChangeMaps
theorem ownM : ownKnob Tryz.prog.godebug = none := by kernel_rfl
theorem qtD : laidOutB Tryz.prog = true := by kernel_rfl
theorem wLaw (a0 : qaa) (a1 : Int) (a2 : Int) (a3 : Int) : Pure Tryz.prog 10 [HV.agg [HV.int .i64 a0.1, HV.int .i64 a0.2.1, slE eFromLabelTo a0.2.2], .int .i64 a1, .int .i64 a2, .int .i64 a3] (· = .bool true) := qfo (qlk a0 a1 a2 a3)
set_option maxRecDepth 100000 in
theorem qrI (os : Os) (started : os.Started) (H : Type) (enc : TypeId × Value → H) :
  ReturnsInHanded {} Tryz.checked os 10 .any (Rows.mergingBuildsSpec.pre6 enc Tryz.prog Tryz.f10 Rows.mergingBuildsRow.domain false) (Rows.mergingBuildsSpec.post enc Tryz.prog Tryz.f10 false true false false) := by
 refine returnsInHanded_of_change (C := Tryz.checked) ownM started (by kernel_rfl) Tryz.func10
  (ChangeSpec.witness6 (enc := enc) (C := Tryz.checked) false ⟨#[], #[.agg #[.int .i64 0, .int .i64 0, .slice none 0 0], .int .i64 0, .int .i64 0, .int .i64 0], []⟩ 8 (by kernel_rfl) (by kernel_rfl) (by kernel_rfl) (by kernel_rfl)) ?_
 intro W base args ds gs before hval0 hW hcnd _
 have hval : ∀ (j : Nat) t v, Tryz.f10.params[j]? = some t → args[j]? = some v → Value.okWide Tryz.prog W .any base t v := hval0
 have hW' := hW
 obtain ⟨p, q, hA0, hV, rfl, hfz, hnd⟩ := hW
 have hA : DataW.TrodAll enc Tryz.prog W 0 (fun _ => true) true Tryz.f10.params.toList args.toList ds p := hA0
 rw [Tryz.params10] at hA hval
 obtain ⟨v0, vs0, d0, ds0, p0, q0, hargs, rfl, rfl, h0, r0⟩ := trodAll_cons hA
 obtain ⟨v1, vs1, d1, ds1, p1, q1, rfl, rfl, rfl, h1, r1⟩ := trodAll_cons r0
 obtain ⟨v2, vs2, d2, ds2, p2, q2, rfl, rfl, rfl, h2, r2⟩ := trodAll_cons r1
 obtain ⟨v3, vs3, d3, ds3, p3, q3, rfl, rfl, rfl, h3, r3⟩ := trodAll_cons r2
 obtain ⟨rfl, rfl, rfl⟩ := trodAll_nil r3
 obtain rfl : args = #[v0, v1, v2, v3] := by cases args; simp_all
 obtain ⟨rfl, rfl⟩ := trodVars_none hV
 obtain ⟨a0, hr0⟩ := qnJ Tryz.underlying27 ⟨rfl, rfl, rfl⟩ ⟨rfl, rfl, rfl⟩ (by kernel_rfl) (by kernel_rfl) (by kernel_rfl) (by kernel_rfl) Tryz.underlying3 Tryz.underlying25 Tryz.underlying128 ⟨rfl, rfl, rfl⟩ ⟨rfl, rfl, rfl⟩ (by kernel_rfl) (hval 0 27 v0 rfl rfl) h0
 obtain ⟨a1, _, hr1⟩ := qkm Tryz.underlying3 (hval 1 3 v1 rfl rfl) h1
 obtain ⟨a2, _, hr2⟩ := qkm Tryz.underlying3 (hval 2 3 v2 rfl rfl) h2
 obtain ⟨a3, _, hr3⟩ := qkm Tryz.underlying3 (hval 3 3 v3 rfl rfl) h3
 refine (qkK (vs := [v0, v1, v2, v3]) (wLaw a0 a1 a2 a3) ⟨_, _, rfl, hr0, _, _, rfl, hr1, _, _, rfl, hr2, _, _, rfl, hr3, rfl⟩).mono fun e W' ⟨he, hk⟩ => ?_
 subst he
 exact ⟨_, rfl, qlb qtD (by kernel_rfl) rfl Tryz.underlying4 rfl hW' hk rfl rfl rfl⟩
theorem fIn : Program.inPlace Tryz.pinned.checked.prog 10 = Rows.mergingBuildsRow.inPlace := by kernel_rfl
theorem fUn : Program.unfollowed Tryz.pinned.checked.prog 10 = Rows.mergingBuildsRow.unfollowed := by kernel_rfl
theorem fRe : Program.recurses Tryz.pinned.checked.prog 10 = Rows.mergingBuildsRow.recurses := by kernel_rfl
theorem fNa : Program.varsNamed Tryz.pinned.checked.prog 10 = Rows.mergingBuildsRow.named := by kernel_rfl
theorem qr2 : joinedFacts Tryz.pinned.checked.prog 10 Tryz.f10 Rows.mergingBuildsSpec Rows.mergingBuildsRow = true := by
 unfold joinedFacts
 rw [fIn, fUn, fRe, fNa]
 kernel_rfl
theorem mergingBuildsProved : Rows.MergingBuildsSaid :=
 OpenClaim.holds_of_wide 10 Tryz.f10 rfl rfl rfl rfl rfl rfl rfl ⟨rfl, rfl, rfl, rfl, rfl⟩ rfl rfl rfl rfl rfl (by kernel_rfl) Tryz.func10 qr2
  (of_decide_eq_true (by kernel_rfl)) (by unfold Func.isWrapper; first | (rw [if_pos (by decide +kernel)]; kernel_rfl) | (rw [if_neg (by decide +kernel)]; exact ⟨rfl, rfl⟩))
  (fun os started H enc _ => qrI os started H enc)
#print axioms mergingBuildsProved
end Go.Proofs.YtlddcjolelmpmaaGreat
