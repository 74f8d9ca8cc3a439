import Derived.Test.YtnjepajbbkejeaaGreatSr2
import Derived.Lib.Bytealg
import Derived.Lib.IndexBytes
import Derived.Lib.Slices
import Derived.Lib.Strings
import Derived.Lib.Walk
import Derived.Shelf.SortM.Plain
import Derived.Shelf.SortM.SortNone
import Derived.Shelf.Strings.Shaped
import Derived.Test.YtnjepajbbkejeaaGreatChecked
import Derived.Test.YtnjepajbbkejeaaGreatProg
namespace Go.AW
open Go
set_option linter.unusedVariables false
abbrev TWordEnds := (List UInt8) × (List (Int))
abbrev cWordEnds (x : TWordEnds) : List HV := [HV.str x.1, slE eInt x.2]
abbrev eWordEnds : EncL TWordEnds := encF 2 cWordEnds (fun _ => rfl)
noncomputable def m_graph_list (p0 : TFromLabelTo) : Option ((List (Int))) :=
 some [p0.1, p0.2.1, p0.2.2]
noncomputable def m_cmp_isNaN_int (p0 : Int) : Option (Bool) :=
 some (decide (p0 ≠ p0))
noncomputable def m_cmp_Compare_int (p0 : Int) (p1 : Int) : Option (Int) :=
 (m_cmp_isNaN_int p0).bind fun x1 =>
 (m_cmp_isNaN_int p1).bind fun x3 =>
 if x1 = true then
  if x3 = true then
   some 0
  else
   some (-1)
 else
  if x3 = true then
   some 1
  else
   if p0 < p1 then
    some (-1)
   else
    if p1 < p0 then
     some 1
    else
     some 0
noncomputable def m_slices_Compare_Lint_int (p0 : List (Int)) (p1 : List (Int)) : Option (Int) :=
 lpO (loopW (S := Int) (X := Ou (Unit) (Int)) (fun a1 =>
   if a1 < ((p0).length : Int) then
    (idx p0 a1).bind fun x5 =>
    if ((p1).length : Int) ≤ a1 then
     some (Stp.exit (Ou.ret 1))
    else
     (idx p1 a1).bind fun x7 =>
     (m_cmp_Compare_int x5 x7).bind fun x9 =>
     if x9 ≠ 0 then
      some (Stp.exit (Ou.ret x9))
     else
      some (Stp.next (IntKind.wrap .i64 (a1 + 1)))
   else
    some (Stp.exit (Ou.go ()))) 0) (fun a11 =>
   if ((p0).length : Int) < ((p1).length : Int) then
    some (-1)
   else
    some 0) some
noncomputable def m_graph_by_api_Edge_1 (p0 : TFromLabelTo) (p1 : TFromLabelTo) : Option (Int) :=
 (m_graph_list p0).bind fun x1 =>
 (m_graph_list p1).bind fun x3 =>
 (m_slices_Compare_Lint_int x1 x3).bind fun x5 =>
 some x5
noncomputable def m_graph_Check (p0 : TLabelsStatesEdges) : Option (Int) :=
 jp (fun (a1 : Bool) =>
  if a1 = true then
   some 12
  else
   if p0.2.1 < 0 then
    some 2
   else
    jp (fun (a4 : Bool) =>
     if a4 = true then
      some 4
     else
      lpO (loopW (S := Int) (X := Ou (Unit) (Int)) (fun a7 =>
        if a7 < ((p0.2.2).length : Int) then
         (idx p0.2.2 a7).bind fun x11 =>
         jp (fun (a14 : Bool) =>
          if a14 = true then
           some (Stp.exit (Ou.ret 2))
          else
           jp (fun (a17 : Bool) =>
            if a17 = true then
             some (Stp.exit (Ou.ret 10))
            else
             some (Stp.next (IntKind.wrap .i64 (a7 + 1))))
            fun k19 =>
            if 0 < a7 then
             (idx p0.2.2 (IntKind.wrap .i64 (a7 - 1))).bind fun x20 =>
             (m_graph_by_api_Edge_1 x20 x11).bind fun x22 =>
             k19 (decide (0 ≤ x22))
            else
             k19 false)
          fun k16 =>
          if (min (min x11.1 x11.2.1) x11.2.2) < 0 then
           k16 true
          else
           if p0.2.1 ≤ (max x11.1 x11.2.2) then
            k16 true
           else
            k16 (decide (p0.1 ≤ x11.2.1))
        else
         some (Stp.exit (Ou.go ()))) 0) (fun a27 =>
        some 0) some)
     fun k6 =>
     if 64 < p0.2.1 then
      k6 true
     else
      k6 (decide (1024 < ((p0.2.2).length : Int))))
  fun k3 =>
  if p0.1 < 1 then
   k3 true
  else
   k3 (decide (256 < p0.1))
noncomputable def m_graph_checkSet (p0 : TLabelsStatesEdges) (p1 : List (Int)) : Option (Int) :=
 lpO (loopW (S := Int) (X := Ou (Unit) (Int)) (fun a1 =>
   if a1 < ((p1).length : Int) then
    (idx p1 a1).bind fun x5 =>
    jp (fun (a7 : Bool) =>
     if a7 = true then
      some (Stp.exit (Ou.ret 25))
     else
      jp (fun (a10 : Bool) =>
       if a10 = true then
        some (Stp.exit (Ou.ret 10))
       else
        some (Stp.next (IntKind.wrap .i64 (a1 + 1))))
       fun k12 =>
       if 0 < a1 then
        (idx p1 (IntKind.wrap .i64 (a1 - 1))).bind fun x13 =>
        k12 (decide (x5 ≤ x13))
       else
        k12 false)
     fun k9 =>
     if x5 < 0 then
      k9 true
     else
      k9 (decide (p0.2.1 ≤ x5))
   else
    some (Stp.exit (Ou.go ()))) 0) (fun a17 =>
   some 0) some
noncomputable def m_graph_Step (p0 : TLabelsStatesEdges) (p1 : List (Int)) (p2 : Int) : Option ((List (Int)) × Int) :=
 (m_graph_Check p0).bind fun x1 =>
 if x1 ≠ 0 then
  some ([], 1)
 else
  (m_graph_checkSet p0 p1).bind fun x3 =>
  if x3 ≠ 0 then
   some ([], x3)
  else
   jp (fun (a5 : Bool) =>
    if a5 = true then
     some ([], 2)
    else
     (loopW (S := Int × (List Int)) (X := (List Int)) (fun a9 =>
       if a9.1 < ((p1).length : Int) then
        (idx p1 a9.1).bind fun x13 =>
        (y_graph_leaving p0 x13).bind fun L15 =>
        lpO (forL (S := (List Int)) (X := Unit) (fun a17 (x19 : Int × TFromLabelTo) =>
          if x19.2.2.1 = p2 then
           if fits 8 ((a17 : List Int).length + ([x19.2.2.2]).length) then
            some (Stp.next (a17 ++ [x19.2.2.2]))
           else none
          else
           some (Stp.next a17)) L15 a9.2) (fun a26 =>
          some (Stp.next (IntKind.wrap .i64 (a9.1 + 1), a26))) fun a28 =>
          none
       else
        some (Stp.exit a9.2)) (0, ([] : List Int))).bind fun a31 =>
     if (a31).length < 4611686018427387904 then
      some (compact_ (sortI a31), 0)
     else none)
    fun k7 =>
    if p2 < 0 then
     k7 true
    else
     k7 (decide (p0.1 ≤ p2))
noncomputable def m_ref09_Compare (p0 : TFromLabelTo) (p1 : TFromLabelTo) : Option (Int) :=
 lpO (loopW (S := Int) (X := Ou (Unit) (Int)) (fun a1 =>
   if a1 < 3 then
    (idx [p0.1, p0.2.1, p0.2.2] a1).bind fun x5 =>
    (idx [p1.1, p1.2.1, p1.2.2] a1).bind fun x7 =>
    if x5 < x7 then
     some (Stp.exit (Ou.ret (-1)))
    else
     (idx [p0.1, p0.2.1, p0.2.2] a1).bind fun x9 =>
     (idx [p1.1, p1.2.1, p1.2.2] a1).bind fun x11 =>
     if x11 < x9 then
      some (Stp.exit (Ou.ret 1))
     else
      some (Stp.next (IntKind.wrap .i64 (a1 + 1)))
   else
    some (Stp.exit (Ou.go ()))) 0) (fun a13 =>
   some 0) some
noncomputable def m_ref09_Check (p0 : TLabelsStatesEdges) : Option (Int) :=
 jp (fun (a1 : Bool) =>
  if a1 = true then
   some 12
  else
   if p0.2.1 < 0 then
    some 2
   else
    jp (fun (a4 : Bool) =>
     if a4 = true then
      some 4
     else
      lpO (loopW (S := Int) (X := Ou (Unit) (Int)) (fun a7 =>
        if a7 < ((p0.2.2).length : Int) then
         (idx p0.2.2 a7).bind fun x11 =>
         jp (fun (a14 : Bool) =>
          if a14 = true then
           some (Stp.exit (Ou.ret 2))
          else
           jp (fun (a17 : Bool) =>
            if a17 = true then
             some (Stp.exit (Ou.ret 10))
            else
             some (Stp.next (IntKind.wrap .i64 (a7 + 1))))
            fun k19 =>
            if 0 < a7 then
             (idx p0.2.2 (IntKind.wrap .i64 (a7 - 1))).bind fun x20 =>
             (m_ref09_Compare x20 x11).bind fun x22 =>
             k19 (decide (0 ≤ x22))
            else
             k19 false)
          fun k16 =>
          if x11.1 < 0 then
           k16 true
          else
           if p0.2.1 ≤ x11.1 then
            k16 true
           else
            if x11.2.2 < 0 then
             k16 true
            else
             if p0.2.1 ≤ x11.2.2 then
              k16 true
             else
              if x11.2.1 < 0 then
               k16 true
              else
               k16 (decide (p0.1 ≤ x11.2.1))
        else
         some (Stp.exit (Ou.go ()))) 0) (fun a30 =>
        some 0) some)
     fun k6 =>
     if 64 < p0.2.1 then
      k6 true
     else
      k6 (decide (1024 < ((p0.2.2).length : Int))))
  fun k3 =>
  if p0.1 < 1 then
   k3 true
  else
   k3 (decide (256 < p0.1))
noncomputable def m_ref11_check (p0 : TLabelsStatesEdges) : Option (Int) :=
 (m_ref09_Check p0).bind fun x1 =>
 if x1 ≠ 0 then
  some 1
 else
  if 16 < p0.1 then
   some 12
  else
   some 0
noncomputable def m_ref11_checkNumber (p0 : TLabelsStatesEdges) (p1 : Int) : Option (Int) :=
 (m_ref11_check p0).bind fun x1 =>
 if x1 ≠ 0 then
  some x1
 else
  jp (fun (a3 : Bool) =>
   if a3 = true then
    some 2
   else
    some 0)
   fun k5 =>
   if p1 < 0 then
    k5 true
   else
    k5 (decide (4096 < p1))
noncomputable def m_ref11_has (p0 : List (Int)) (p1 : Int) : Option (Bool) :=
 lpO (loopW (S := Int) (X := Ou (Unit) (Bool)) (fun a1 =>
   if a1 < ((p0).length : Int) then
    (idx p0 a1).bind fun x5 =>
    if x5 = p1 then
     some (Stp.exit (Ou.ret true))
    else
     some (Stp.next (IntKind.wrap .i64 (a1 + 1)))
   else
    some (Stp.exit (Ou.go ()))) 0) (fun a7 =>
   some false) some
noncomputable def m_ref11_Step (p0 : TLabelsStatesEdges) (p1 : List (Int)) (p2 : Int) : Option ((List (Int))) :=
 (loopW (S := Int × (List Int)) (X := (List Int)) (fun a2 =>
   if a2.1 < p0.2.1 then
    jp (fun (a6 : (List Int)) =>
     some (Stp.next (IntKind.wrap .i64 (a2.1 + 1), a6)))
     fun k8 =>
     (loopW (S := Bool × Int) (X := Bool) (fun a9 =>
       if a9.2 < ((p0.2.2).length : Int) then
        jp (fun (a13 : Bool) =>
         some (Stp.next (a13, IntKind.wrap .i64 (a9.2 + 1))))
         fun k15 =>
         jp (fun (a16 : Bool) =>
          if a16 = true then
           k15 true
          else
           k15 a9.1)
          fun k18 =>
          (idx p0.2.2 a9.2).bind fun x19 =>
          if x19.2.2 = a2.1 then
           (idx p0.2.2 a9.2).bind fun x21 =>
           if x21.2.1 = p2 then
            (idx p0.2.2 a9.2).bind fun x23 =>
            (m_ref11_has p1 x23.1).bind fun x25 =>
            k18 x25
           else
            k18 false
          else
           k18 false
       else
        some (Stp.exit a9.1)) (false, 0)).bind fun a29 =>
     if a29 = true then
      if fits 8 ((a2.2 : List Int).length + ([a2.1]).length) then
       k8 (a2.2 ++ [a2.1])
      else none
     else
      k8 a2.2
   else
    some (Stp.exit a2.2)) (0, [])).bind fun a33 =>
 some a33
noncomputable def m_ref11_grow (p0 : TLabelsStatesEdges) (p1 : List (TWordEnds)) : Option ((List (TWordEnds))) :=
 (loopW (S := Int × (List TWordEnds)) (X := (List TWordEnds)) (fun a2 =>
   if a2.1 < ((p1).length : Int) then
    (loopW (S := Int × (List TWordEnds)) (X := (List TWordEnds)) (fun a6 =>
      if a6.1 < p0.1 then
       jp (fun (a10 : (List TWordEnds)) =>
        some (Stp.next (IntKind.wrap .i64 (a6.1 + 1), a10)))
        fun k12 =>
        (idx p1 a2.1).bind fun x13 =>
        (m_ref11_Step p0 x13.2 a6.1).bind fun x15 =>
        if 0 < ((x15).length : Int) then
         (idx p1 a2.1).bind fun x17 =>
         if 0 ≤ (a6.1 : Int) ∧ (a6.1 : Int) ≤ IntKind.wrap .i64 (a6.1 + 1) ∧ IntKind.wrap .i64 (a6.1 + 1) ≤ (([48, 49, 50, 51, 52, 53, 54, 55, 56, 57, 97, 98, 99, 100, 101, 102] : List UInt8).length : Int) then
          if x17.1.length + ((([48, 49, 50, 51, 52, 53, 54, 55, 56, 57, 97, 98, 99, 100, 101, 102] : List UInt8).take (IntKind.wrap .i64 (a6.1 + 1)).toNat).drop (a6.1).toNat).length ≤ maxLen then
           if fits 40 ((a6.2 : List TWordEnds).length + ([(x17.1 ++ ((([48, 49, 50, 51, 52, 53, 54, 55, 56, 57, 97, 98, 99, 100, 101, 102] : List UInt8).take (IntKind.wrap .i64 (a6.1 + 1)).toNat).drop (a6.1).toNat), x15)]).length) then
            k12 (a6.2 ++ [(x17.1 ++ ((([48, 49, 50, 51, 52, 53, 54, 55, 56, 57, 97, 98, 99, 100, 101, 102] : List UInt8).take (IntKind.wrap .i64 (a6.1 + 1)).toNat).drop (a6.1).toNat), x15)])
           else none
          else none
         else none
        else
         k12 a6.2
      else
       some (Stp.exit a6.2)) (0, a2.2)).bind fun a23 =>
    some (Stp.next (IntKind.wrap .i64 (a2.1 + 1), a23))
   else
    some (Stp.exit a2.2)) (0, [])).bind fun a25 =>
 some a25
noncomputable def m_ref11_words (p0 : TLabelsStatesEdges) (p1 : List (Int)) (p2 : Int) : Option ((List (TWordEnds)) × Int) :=
 jp (fun (a2 : (List TWordEnds)) =>
  lpO (loopW (S := (List TWordEnds) × Int) (X := Ou ((List TWordEnds)) ((List (TWordEnds)) × Int)) (fun a5 =>
    jp (fun (a9 : Bool) =>
     if a9 = true then
      (m_ref11_grow p0 a5.1).bind fun x12 =>
      if 4096 < ((x12).length : Int) then
       some (Stp.exit (Ou.ret ([], 4)))
      else
       some (Stp.next (x12, IntKind.wrap .i64 (a5.2 + 1)))
     else
      some (Stp.exit (Ou.go a5.1)))
     fun k11 =>
     if a5.2 < p2 then
      k11 (decide (0 < ((a5.1).length : Int)))
     else
      k11 false) (a2, 0)) (fun a15 =>
    some (a15, 0)) some)
  fun k4 =>
  if 0 < ((p1).length : Int) then
   if fits 40 (([] : List TWordEnds).length + ([(([] : List UInt8), p1)]).length) then
    k4 (([] : List TWordEnds) ++ [(([] : List UInt8), p1)])
   else none
  else
   k4 []
noncomputable def m_ref11_All (p0 : TLabelsStatesEdges) : Option ((List (Int))) :=
 (loopW (S := Int × (List Int)) (X := (List Int)) (fun a2 =>
   if a2.1 < p0.2.1 then
    if fits 8 ((a2.2 : List Int).length + ([a2.1]).length) then
     some (Stp.next (IntKind.wrap .i64 (a2.1 + 1), a2.2 ++ [a2.1]))
    else none
   else
    some (Stp.exit a2.2)) (0, [])).bind fun a8 =>
 some a8
noncomputable def m_ref11_texts (p0 : List (TWordEnds)) : Option ((List (List UInt8))) :=
 (loopW (S := Int × (List (List UInt8))) (X := (List (List UInt8))) (fun a2 =>
   if a2.1 < ((p0).length : Int) then
    (idx p0 a2.1).bind fun x6 =>
    if fits 16 ((a2.2 : List (List UInt8)).length + ([x6.1]).length) then
     some (Stp.next (IntKind.wrap .i64 (a2.1 + 1), a2.2 ++ [x6.1]))
    else none
   else
    some (Stp.exit a2.2)) (0, [])).bind fun a10 =>
 some a10
noncomputable def m_ref11_Words (p0 : TLabelsStatesEdges) (p1 : Int) : Option ((List (List UInt8)) × Int) :=
 (m_ref11_checkNumber p0 p1).bind fun x1 =>
 if x1 ≠ 0 then
  some ([], x1)
 else
  (m_ref11_All p0).bind fun x3 =>
  (m_ref11_words p0 x3 p1).bind fun x5 =>
  if x5.2 ≠ 0 then
   some ([], x5.2)
  else
   (m_ref11_texts x5.1).bind fun x7 =>
   some (x7, 0)
noncomputable def m_language_step (p0 : TLabelsStatesEdges) (p1 : List (Int)) (p2 : Int) : Option ((List (Int))) :=
 (m_strings_IndexByte [48, 49, 50, 51, 52, 53, 54, 55, 56, 57, 97, 98, 99, 100, 101, 102] p2).bind fun x1 =>
 (m_graph_Step p0 p1 x1).bind fun x3 =>
 some x3.1
noncomputable def m_language_states (p0 : TLabelsStatesEdges) : Option ((List (Int))) :=
 if 0 ≤ (p0.2.1 : Int) ∧ (p0.2.1 : Int) ≤ p0.2.1 ∧ (p0.2.1 : Int) * 8 ≤ 281474976710656 then
  (loopW (S := Int × (List Int)) (X := (List Int)) (fun a3 =>
    if a3.1 < (((List.replicate (p0.2.1).toNat (0 : Int)).length : Nat) : Int) then
     (idx a3.2 a3.1).bind fun x7 =>
     some (Stp.next (IntKind.wrap .i64 (a3.1 + 1), (a3.2).set (a3.1).toNat a3.1))
    else
     some (Stp.exit a3.2)) (0, List.replicate (p0.2.1).toNat (0 : Int))).bind fun a9 =>
  some a9
 else none
noncomputable def m_language_check (p0 : TLabelsStatesEdges) : Option (Int) :=
 (m_graph_Check p0).bind fun x1 =>
 if x1 ≠ 0 then
  some 1
 else
  if 16 < p0.1 then
   some 12
  else
   some 0
noncomputable def m_language_lengths (p0 : TLabelsStatesEdges) (p1 : Int) : Option (Int) :=
 (m_language_check p0).bind fun x1 =>
 if x1 ≠ 0 then
  some x1
 else
  jp (fun (a3 : Bool) =>
   if a3 = true then
    some 2
   else
    some 0)
   fun k5 =>
   if p1 < 0 then
    k5 true
   else
    k5 (decide (4096 < p1))
noncomputable def m_word_known (p0 : Int) : Option (Bool) :=
 jp (fun (a1 : Bool) =>
  some a1)
  fun k3 =>
  if 1 ≤ p0 then
   k3 (decide (p0 ≤ 16))
  else
   k3 false
noncomputable def m_word_Check (p0 : Int) (p1 : List UInt8) : Option (Int) :=
 (m_word_known p0).bind fun x1 =>
 if (!x1) = true then
  some 12
 else
  if 65536 < ((p1).length : Int) then
   some 4
  else
   lpO (loopW (S := Int) (X := Ou (Unit) (Int)) (fun a3 =>
     if a3 < ((p1).length : Int) then
      if 0 ≤ (0 : Int) ∧ (0 : Int) ≤ p0 ∧ p0 ≤ (([48, 49, 50, 51, 52, 53, 54, 55, 56, 57, 97, 98, 99, 100, 101, 102] : List UInt8).length : Int) then
       (idx p1 a3).bind fun x8 =>
       (m_strings_IndexByte ((([48, 49, 50, 51, 52, 53, 54, 55, 56, 57, 97, 98, 99, 100, 101, 102] : List UInt8).take (p0).toNat).drop (0 : Int).toNat) (x8.toNat : Int)).bind fun x10 =>
       if x10 < 0 then
        some (Stp.exit (Ou.ret 13))
       else
        some (Stp.next (IntKind.wrap .i64 (a3 + 1)))
      else none
     else
      some (Stp.exit (Ou.go ()))) 0) (fun a12 =>
     some 0) some
noncomputable def m_language_spells (p0 : TLabelsStatesEdges) (p1 : List UInt8) : Option (Int) :=
 (m_language_check p0).bind fun x1 =>
 if x1 ≠ 0 then
  some x1
 else
  (m_word_Check p0.1 p1).bind fun x3 =>
  some x3
abbrev TNegMag := Bool × (List UInt8)
abbrev TNumDen := TNegMag × TNegMag
abbrev cNumDen (x : TNumDen) : List HV := [HV.bool x.1.1, HV.str x.1.2, HV.bool x.2.1, HV.str x.2.2]
abbrev hI (n : Int) : HV := .int .i64 n
abbrev nS : List UInt8 := []
abbrev jF (j : List (List UInt8) × List (List UInt8)) : HV := .fptr [slE eStr j.1, slE eStr j.2] 0
abbrev jA (j : List (List UInt8) × List (List UInt8)) : HV := .agg [slE eStr j.1, slE eStr j.2]
abbrev gF (g : TLabelsStatesEdges) : HV := .fptr [.int .i64 g.1, .int .i64 g.2.1, slE eFromLabelTo g.2.2] 0
abbrev gA (g : TLabelsStatesEdges) : HV := .agg [.int .i64 g.1, .int .i64 g.2.1, slE eFromLabelTo g.2.2]
abbrev zND : List HV := [.bool false, .str [], .bool false, .str []]
theorem to_L {s s' : AS} {G : AS → Prop} (h : G s') (h1 : gets s.slots s'.slots = somes s'.slots := by exact rfl) (h2 : hgets s.heap s'.heap = hsomes s'.heap := by exact rfl) : s.to G := to_le (le_q h1 h2) h
theorem bf {P : Program} {ro : Option Nat} {N : Nat} {all : Array Oper} {s : AS} {c : Code} {Q : Exit → AS → Prop} {K : AS → Prop} (hK : ∀ s', AW P ro N c Q s' → K s') (s' : AS) (h : AW P ro N c Q s') (h1 : gets s.slots s'.slots = somes s'.slots := by exact rfl) (h2 : hgets s.heap s'.heap = hsomes s'.heap := by exact rfl) : bops P ro N all [] K s := b_fin hK (le_q h1 h2) h
theorem lg {P : Program} {ro : Option Nat} {N : Nat} {ops : Array Oper} {s s' : AS} {K : AS → Prop} {F : List Nat → AS → Prop} {L L' : List Nat} (hF : F = AnyL P ro N ops K) (h : F L' s') (hsame : (List.range ops.size).all (fun i => L.contains i == L'.contains i) = true := by exact rfl) (h1 : gets s.slots s'.slots = somes s'.slots := by exact rfl) (h2 : hgets s.heap s'.heap = hsomes s'.heap := by exact rfl) : F L s := l_go hF hsame h (le_q h1 h2)
theorem cT {p : Prop} [Decidable p] {R : Type} {a b : Option R} {r : R} (hc : decide p = true) (h : (if p then a else b) = some r) : p ∧ a = some r := ⟨of_decide_eq_true hc, ifT (of_decide_eq_true hc) h⟩
theorem cF {p : Prop} [Decidable p] {R : Type} {a b : Option R} {r : R} (hc : decide p = false) (h : (if p then a else b) = some r) : ¬ p ∧ b = some r := ⟨of_decide_eq_false hc, ifF (of_decide_eq_false hc) h⟩
theorem lb {n m : Nat} (h : Nat.ble n m = true) : n ≤ m := Nat.le_of_ble_eq_true h
theorem l_ov {P : Program} {ro : Option Nat} {N i d : Nat} {ops : Array Oper} {o : Oper} {G : AS → Prop} {v : HV} {sl : List (Nat × HV)} {H : Heap} (ho : ops[i]? = some o) (hg : o.guard = none) (hN : okd N o.dst = true) (h0 : (o.dst, isVal o.op) = (some d, true)) (hv : aval P o.op ⟨sl, H⟩ (· = v)) (k : G ⟨(d, v) :: sl, H⟩) : AOpI P ro N ops i G ⟨sl, H⟩ := l_op (fid := 0) (mt := []) ho hg hN (o_val h0 hv (b_nil k))
end Go.AW
namespace Go.AW
open Go Go.Proofs
theorem ty1 : ty Tryz.prog 1 = some { desc := TypeDesc.func #[] #[] false, size := 1, bytes := 8, zero := Value.nilFunc } := by kernel_rfl
theorem ty2 : ty Tryz.prog 2 = some { desc := TypeDesc.int IntKind.i64, size := 1, bytes := 8, zero := Value.int IntKind.i64 (0) } := by kernel_rfl
theorem ty3 : ty Tryz.prog 3 = some { desc := TypeDesc.int IntKind.i64, size := 1, bytes := 8, zero := Value.int IntKind.i64 (0) } := by kernel_rfl
theorem ty4 : ty Tryz.prog 4 = some { desc := TypeDesc.bool, size := 1, bytes := 1, zero := Value.bool false } := by kernel_rfl
theorem ty5 : ty Tryz.prog 5 = some { desc := TypeDesc.int IntKind.u8, size := 1, bytes := 1, zero := Value.int IntKind.u8 (0) } := by kernel_rfl
theorem ty6 : ty Tryz.prog 6 = some { desc := TypeDesc.int IntKind.u8, size := 1, bytes := 1, zero := Value.int IntKind.u8 (0) } := by kernel_rfl
theorem ty9 : ty Tryz.prog 9 = some { desc := TypeDesc.string, size := 1, bytes := 16, zero := Value.string { data := #[] } } := by kernel_rfl
theorem ty10 : ty Tryz.prog 10 = some { desc := TypeDesc.string, size := 1, bytes := 16, zero := Value.string { data := #[] } } := by kernel_rfl
theorem ty11 : ty Tryz.prog 11 = some { desc := TypeDesc.string, size := 1, bytes := 16, zero := Value.string { data := #[] } } := by kernel_rfl
theorem ty12 : ty Tryz.prog 12 = some { desc := TypeDesc.int IntKind.u64, size := 1, bytes := 8, zero := Value.int IntKind.u64 (0) } := by kernel_rfl
theorem ty15 : ty Tryz.prog 15 = some { desc := TypeDesc.pointer 190, size := 1, bytes := 8, zero := Value.pointer none } := by kernel_rfl
theorem ty16 : ty Tryz.prog 16 = some { desc := TypeDesc.pointer 193, size := 1, bytes := 8, zero := Value.pointer none } := by kernel_rfl
theorem ty17 : ty Tryz.prog 17 = some { desc := TypeDesc.pointer 200, size := 1, bytes := 8, zero := Value.pointer none } := by kernel_rfl
theorem ty21 : ty Tryz.prog 21 = some { desc := TypeDesc.int IntKind.i32, size := 1, bytes := 4, zero := Value.int IntKind.i32 (0) } := by kernel_rfl
theorem ty22 : ty Tryz.prog 22 = some { desc := TypeDesc.slice 44, size := 1, bytes := 24, zero := Value.slice none 0 0 } := by kernel_rfl
theorem ty23 : ty Tryz.prog 23 = some { desc := TypeDesc.struct { toList := [{ name := "Labels", type := 3, offset := 0, embedded := false, tag := "", pkgPath := "", byteOffset := 0 }, { name := "States", type := 3, offset := 1, embedded := false, tag := "", pkgPath := "", byteOffset := 8 }, { name := "Edges", type := 22, offset := 2, embedded := false, tag := "", pkgPath := "", byteOffset := 16 }] }, size := 3, bytes := 40, zero := Value.agg #[Value.int IntKind.i64 (0), Value.int IntKind.i64 (0), Value.slice none 0 0] } := by kernel_rfl
theorem ty24 : ty Tryz.prog 24 = some { desc := TypeDesc.struct { toList := [{ name := "Labels", type := 3, offset := 0, embedded := false, tag := "", pkgPath := "", byteOffset := 0 }, { name := "States", type := 3, offset := 1, embedded := false, tag := "", pkgPath := "", byteOffset := 8 }, { name := "Edges", type := 22, offset := 2, embedded := false, tag := "", pkgPath := "", byteOffset := 16 }] }, size := 3, bytes := 40, zero := Value.agg #[Value.int IntKind.i64 (0), Value.int IntKind.i64 (0), Value.slice none 0 0] } := by kernel_rfl
theorem ty27 : ty Tryz.prog 27 = some { desc := TypeDesc.slice 9, size := 1, bytes := 24, zero := Value.slice none 0 0 } := by kernel_rfl
theorem ty28 : ty Tryz.prog 28 = some { desc := TypeDesc.int IntKind.i64, size := 1, bytes := 8, zero := Value.int IntKind.i64 (0) } := by kernel_rfl
theorem ty43 : ty Tryz.prog 43 = some { desc := TypeDesc.struct { toList := [{ name := "From", type := 3, offset := 0, embedded := false, tag := "", pkgPath := "", byteOffset := 0 }, { name := "Label", type := 3, offset := 1, embedded := false, tag := "", pkgPath := "", byteOffset := 8 }, { name := "To", type := 3, offset := 2, embedded := false, tag := "", pkgPath := "", byteOffset := 16 }] }, size := 3, bytes := 24, zero := Value.agg { toList := [Value.int IntKind.i64 (0), Value.int IntKind.i64 (0), Value.int IntKind.i64 (0)] } } := by kernel_rfl
theorem ty44 : ty Tryz.prog 44 = some { desc := TypeDesc.struct { toList := [{ name := "From", type := 3, offset := 0, embedded := false, tag := "", pkgPath := "", byteOffset := 0 }, { name := "Label", type := 3, offset := 1, embedded := false, tag := "", pkgPath := "", byteOffset := 8 }, { name := "To", type := 3, offset := 2, embedded := false, tag := "", pkgPath := "", byteOffset := 16 }] }, size := 3, bytes := 24, zero := Value.agg { toList := [Value.int IntKind.i64 (0), Value.int IntKind.i64 (0), Value.int IntKind.i64 (0)] } } := by kernel_rfl
theorem ty55 : ty Tryz.prog 55 = some { desc := TypeDesc.slice 3, size := 1, bytes := 24, zero := Value.slice none 0 0 } := by kernel_rfl
theorem ty59 : ty Tryz.prog 59 = some { desc := TypeDesc.map 9 55, size := 1, bytes := 8, zero := Value.map none } := by kernel_rfl
theorem ty77 : ty Tryz.prog 77 = some { desc := TypeDesc.pointer 91, size := 1, bytes := 8, zero := Value.pointer none } := by kernel_rfl
theorem ty79 : ty Tryz.prog 79 = some { desc := TypeDesc.slice 81, size := 1, bytes := 24, zero := Value.slice none 0 0 } := by kernel_rfl
theorem ty81 : ty Tryz.prog 81 = some { desc := TypeDesc.struct { toList := [{ name := "state", type := 3, offset := 0, embedded := false, tag := "", pkgPath := "groove/syncmark", byteOffset := 0 }, { name := "read", type := 3, offset := 1, embedded := false, tag := "", pkgPath := "groove/syncmark", byteOffset := 8 }, { name := "bad", type := 4, offset := 2, embedded := false, tag := "", pkgPath := "groove/syncmark", byteOffset := 16 }, { name := "left", type := 3, offset := 3, embedded := false, tag := "", pkgPath := "groove/syncmark", byteOffset := 24 }] }, size := 4, bytes := 32, zero := Value.agg { toList := [Value.int IntKind.i64 (0), Value.int IntKind.i64 (0), Value.bool false, Value.int IntKind.i64 (0)] } } := by kernel_rfl
theorem ty83 : ty Tryz.prog 83 = some { desc := TypeDesc.pointer 86, size := 1, bytes := 8, zero := Value.pointer none } := by kernel_rfl
theorem ty84 : ty Tryz.prog 84 = some { desc := TypeDesc.slice 5, size := 1, bytes := 24, zero := Value.slice none 0 0 } := by kernel_rfl
theorem ty85 : ty Tryz.prog 85 = some { desc := TypeDesc.struct { toList := [{ name := "addr", type := 83, offset := 0, embedded := false, tag := "", pkgPath := "strings", byteOffset := 0 }, { name := "buf", type := 84, offset := 1, embedded := false, tag := "", pkgPath := "strings", byteOffset := 8 }] }, size := 2, bytes := 32, zero := Value.agg #[Value.pointer none, Value.slice none 0 0] } := by kernel_rfl
theorem ty86 : ty Tryz.prog 86 = some { desc := TypeDesc.struct { toList := [{ name := "addr", type := 83, offset := 0, embedded := false, tag := "", pkgPath := "strings", byteOffset := 0 }, { name := "buf", type := 84, offset := 1, embedded := false, tag := "", pkgPath := "strings", byteOffset := 8 }] }, size := 2, bytes := 32, zero := Value.agg #[Value.pointer none, Value.slice none 0 0] } := by kernel_rfl
theorem ty87 : ty Tryz.prog 87 = some { desc := TypeDesc.map 81 4, size := 1, bytes := 8, zero := Value.map none } := by kernel_rfl
theorem ty88 : ty Tryz.prog 88 = some { desc := TypeDesc.slice 121, size := 1, bytes := 24, zero := Value.slice none 0 0 } := by kernel_rfl
theorem ty89 : ty Tryz.prog 89 = some { desc := TypeDesc.slice 22, size := 1, bytes := 24, zero := Value.slice none 0 0 } := by kernel_rfl
theorem ty91 : ty Tryz.prog 91 = some { desc := TypeDesc.struct { toList := [{ name := "g", type := 24, offset := 0, embedded := false, tag := "", pkgPath := "groove/syncmark", byteOffset := 0 }, { name := "mark", type := 9, offset := 3, embedded := false, tag := "", pkgPath := "groove/syncmark", byteOffset := 40 }, { name := "table", type := 88, offset := 4, embedded := false, tag := "", pkgPath := "groove/syncmark", byteOffset := 56 }, { name := "next", type := 89, offset := 5, embedded := false, tag := "", pkgPath := "groove/syncmark", byteOffset := 80 }, { name := "memo", type := 87, offset := 6, embedded := false, tag := "", pkgPath := "groove/syncmark", byteOffset := 104 }] }, size := 7, bytes := 112, zero := Value.agg { toList := [Value.int IntKind.i64 (0), Value.int IntKind.i64 (0), Value.slice none 0 0, Value.string { data := #[] }, Value.slice none 0 0, Value.slice none 0 0, Value.map none] } } := by kernel_rfl
theorem ty98 : ty Tryz.prog 98 = some { desc := TypeDesc.func #[44] #[55] false, size := 1, bytes := 8, zero := Value.nilFunc } := by kernel_rfl
theorem ty101 : ty Tryz.prog 101 = some { desc := TypeDesc.slice 103, size := 1, bytes := 24, zero := Value.slice none 0 0 } := by kernel_rfl
theorem ty103 : ty Tryz.prog 103 = some { desc := TypeDesc.slice 4, size := 1, bytes := 24, zero := Value.slice none 0 0 } := by kernel_rfl
theorem ty104 : ty Tryz.prog 104 = some { desc := TypeDesc.slice 135, size := 1, bytes := 24, zero := Value.slice none 0 0 } := by kernel_rfl
theorem ty117 : ty Tryz.prog 117 = some { desc := TypeDesc.int IntKind.u64, size := 1, bytes := 8, zero := Value.int IntKind.u64 (0) } := by kernel_rfl
theorem ty120 : ty Tryz.prog 120 = some { desc := TypeDesc.array 16 3, size := 16, bytes := 128, zero := Value.agg { toList := [Value.int IntKind.i64 (0), Value.int IntKind.i64 (0), Value.int IntKind.i64 (0), Value.int IntKind.i64 (0), Value.int IntKind.i64 (0), Value.int IntKind.i64 (0), Value.int IntKind.i64 (0), Value.int IntKind.i64 (0), Value.int IntKind.i64 (0), Value.int IntKind.i64 (0), Value.int IntKind.i64 (0), Value.int IntKind.i64 (0), Value.int IntKind.i64 (0), Value.int IntKind.i64 (0), Value.int IntKind.i64 (0), Value.int IntKind.i64 (0)] } } := by kernel_rfl
theorem ty121 : ty Tryz.prog 121 = some { desc := TypeDesc.array 16 3, size := 16, bytes := 128, zero := Value.agg { toList := [Value.int IntKind.i64 (0), Value.int IntKind.i64 (0), Value.int IntKind.i64 (0), Value.int IntKind.i64 (0), Value.int IntKind.i64 (0), Value.int IntKind.i64 (0), Value.int IntKind.i64 (0), Value.int IntKind.i64 (0), Value.int IntKind.i64 (0), Value.int IntKind.i64 (0), Value.int IntKind.i64 (0), Value.int IntKind.i64 (0), Value.int IntKind.i64 (0), Value.int IntKind.i64 (0), Value.int IntKind.i64 (0), Value.int IntKind.i64 (0)] } } := by kernel_rfl
theorem ty122 : ty Tryz.prog 122 = some { desc := TypeDesc.pointer 5, size := 1, bytes := 8, zero := Value.pointer none } := by kernel_rfl
theorem ty130 : ty Tryz.prog 130 = some { desc := TypeDesc.slice 55, size := 1, bytes := 24, zero := Value.slice none 0 0 } := by kernel_rfl
theorem ty134 : ty Tryz.prog 134 = some { desc := TypeDesc.struct { toList := [{ name := "Word", type := 9, offset := 0, embedded := false, tag := "", pkgPath := "", byteOffset := 0 }, { name := "Ends", type := 55, offset := 1, embedded := false, tag := "", pkgPath := "", byteOffset := 16 }] }, size := 2, bytes := 40, zero := Value.agg #[Value.string { data := #[] }, Value.slice none 0 0] } := by kernel_rfl
theorem ty135 : ty Tryz.prog 135 = some { desc := TypeDesc.struct { toList := [{ name := "Word", type := 9, offset := 0, embedded := false, tag := "", pkgPath := "", byteOffset := 0 }, { name := "Ends", type := 55, offset := 1, embedded := false, tag := "", pkgPath := "", byteOffset := 16 }] }, size := 2, bytes := 40, zero := Value.agg #[Value.string { data := #[] }, Value.slice none 0 0] } := by kernel_rfl
theorem ty145 : ty Tryz.prog 145 = some { desc := TypeDesc.int IntKind.i64, size := 1, bytes := 8, zero := Value.int IntKind.i64 (0) } := by kernel_rfl
theorem ty153 : ty Tryz.prog 153 = some { desc := TypeDesc.int IntKind.u32, size := 1, bytes := 4, zero := Value.int IntKind.u32 (0) } := by kernel_rfl
theorem ty155 : ty Tryz.prog 155 = some { desc := TypeDesc.int IntKind.u64, size := 1, bytes := 8, zero := Value.int IntKind.u64 (0) } := by kernel_rfl
theorem ty167 : ty Tryz.prog 167 = some { desc := TypeDesc.int IntKind.u64, size := 1, bytes := 8, zero := Value.int IntKind.u64 (0) } := by kernel_rfl
theorem ty171 : ty Tryz.prog 171 = some { desc := TypeDesc.pointer 3, size := 1, bytes := 8, zero := Value.pointer none } := by kernel_rfl
theorem ty182 : ty Tryz.prog 182 = some { desc := TypeDesc.pointer 167, size := 1, bytes := 8, zero := Value.pointer none } := by kernel_rfl
theorem ty191 : ty Tryz.prog 191 = some { desc := TypeDesc.array 0 16, size := 0, bytes := 0, zero := Value.agg #[] } := by kernel_rfl
theorem ty194 : ty Tryz.prog 194 = some { desc := TypeDesc.int IntKind.u8, size := 1, bytes := 1, zero := Value.int IntKind.u8 (0) } := by kernel_rfl
theorem ty195 : ty Tryz.prog 195 = some { desc := TypeDesc.int IntKind.u8, size := 1, bytes := 1, zero := Value.int IntKind.u8 (0) } := by kernel_rfl
theorem ty197 : ty Tryz.prog 197 = some { desc := TypeDesc.int IntKind.i32, size := 1, bytes := 4, zero := Value.int IntKind.i32 (0) } := by kernel_rfl
theorem ty198 : ty Tryz.prog 198 = some { desc := TypeDesc.int IntKind.i32, size := 1, bytes := 4, zero := Value.int IntKind.i32 (0) } := by kernel_rfl
attribute [go_sem] ty1 ty2 ty3 ty4 ty5 ty6 ty9 ty10 ty11 ty12 ty15 ty16 ty17 ty21 ty22 ty23 ty24 ty27 ty28 ty43 ty44 ty55 ty59 ty77 ty79 ty81 ty83 ty84 ty85 ty86 ty87 ty88 ty89 ty91 ty98 ty101 ty103 ty104 ty117 ty120 ty121 ty122 ty130 ty134 ty135 ty145 ty153 ty155 ty167 ty171 ty182 ty191 ty194 ty195 ty197 ty198
theorem follows : Tryz.prog.follows .mixedOrders = true := by kernel_rfl
end Go.AW
namespace Go.AW
open Go
def ints (l : List Int) : HV := .sl 1 l.length (l.map (.int .i64))
def num (n : Int) : HV := .int .i64 n
theorem cnt_next {i n : Nat} (h : n ≤ 9223372036854775807) (hi : i < n) : IntKind.wrap .i64 ((i : Int) + 1) = ((i + 1 : Nat) : Int) := by
 rw [w64 (by omega) (by omega)]; omega
theorem cnt_ge {i n : Nat} (h : decide ((i : Int) < (n : Int)) = false) (hi : i ≤ n) : i = n := by
 have : ¬ i < n := by simpa using h
 omega
theorem Pure.use {P : Program} {f : FuncId} {args : List HV} {H : Heap} {K : HV → Heap → Prop} {R : HV → Prop} (hp : Pure P f args R) (hK : ∀ r, R r → K r H) : ACall P f args H K := ACall.pure0 hp hK
end Go.AW

namespace Go.Proofs
open Go
def Tryz.sortS_ren : Go.Shelf.Ren := ⟨fun | 6 => 55 | 8 => 82 | 9 => 81 | 19 => 113 | 20 => 114 | 21 => 104 | 22 => 105 | 23 => 106 | 24 => 107 | 25 => 108 | 26 => 109 | 27 => 110 | 28 => 111 | 29 => 112 | 36 => 126 | 31 => 127 | 32 => 128 | 37 => 129 | 38 => 130 | 39 => 131 | 41 => 147 | n => n, fun | 27 => 27 | 29 => 9 | 3 => 3 | 32 => 117 | 26 => 27 | 0 => 0 | 44 => 153 | 46 => 155 | 4 => 4 | 36 => 146 | 35 => 145 | 41 => 150 | 5 => 5 | 9 => 9 | 53 => 167 | 57 => 171 | 63 => 182 | 64 => 183 | n => n, fun | n => n⟩
theorem Tryz.sortS : Go.Proofs.SlLaysM.n6 Tryz.prog Tryz.sortS_ren where
 mixed := by kernel_rfl
 f6 := ⟨"slices.Sort[[]string,string]", by decide, Tryz.func55.trans (congrArg some (by kernel_rfl))⟩
 f8 := Tryz.func82.trans (congrArg some (by kernel_rfl))
 f9 := ⟨"slices.pdqsortOrdered[string]", by decide, Tryz.func81.trans (congrArg some (by kernel_rfl))⟩
 f19 := Tryz.func113.trans (congrArg some (by kernel_rfl))
 f20 := Tryz.func114.trans (congrArg some (by kernel_rfl))
 f21 := ⟨"slices.insertionSortOrdered[string]", by decide, Tryz.func104.trans (congrArg some (by kernel_rfl))⟩
 f22 := ⟨"slices.heapSortOrdered[string]", by decide, Tryz.func105.trans (congrArg some (by kernel_rfl))⟩
 f23 := ⟨"slices.breakPatternsOrdered[string]", by decide, Tryz.func106.trans (congrArg some (by kernel_rfl))⟩
 f24 := ⟨"slices.choosePivotOrdered[string]", by decide, Tryz.func107.trans (congrArg some (by kernel_rfl))⟩
 f25 := ⟨"slices.reverseRangeOrdered[string]", by decide, Tryz.func108.trans (congrArg some (by kernel_rfl))⟩
 f26 := ⟨"slices.partialInsertionSortOrdered[string]", by decide, Tryz.func109.trans (congrArg some (by kernel_rfl))⟩
 f27 := ⟨"cmp.Less[string]", by decide, Tryz.func110.trans (congrArg some (by kernel_rfl))⟩
 f28 := ⟨"slices.partitionEqualOrdered[string]", by decide, Tryz.func111.trans (congrArg some (by kernel_rfl))⟩
 f29 := ⟨"slices.partitionOrdered[string]", by decide, Tryz.func112.trans (congrArg some (by kernel_rfl))⟩
 f31 := Tryz.func127.trans (congrArg some (by kernel_rfl))
 f32 := Tryz.func128.trans (congrArg some (by kernel_rfl))
 f36 := ⟨"slices.siftDownOrdered[string]", by decide, Tryz.func126.trans (congrArg some (by kernel_rfl))⟩
 f37 := ⟨"slices.medianAdjacentOrdered[string]", by decide, Tryz.func129.trans (congrArg some (by kernel_rfl))⟩
 f38 := ⟨"slices.medianOrdered[string]", by decide, Tryz.func130.trans (congrArg some (by kernel_rfl))⟩
 f39 := ⟨"cmp.isNaN[string]", by decide, Tryz.func131.trans (congrArg some (by kernel_rfl))⟩
 f41 := ⟨"slices.order2Ordered[string]", by decide, Tryz.func147.trans (congrArg some (by kernel_rfl))⟩
 t0 := Tryz.underlying0
 a0 := Tryz.isAgg0
 z0 := Tryz.sizeOf0
 v0 := Tryz.zeroValue0
 t3 := Tryz.underlying3
 a3 := Tryz.isAgg3
 z3 := Tryz.sizeOf3
 v3 := Tryz.zeroValue3
 t4 := Tryz.underlying4
 a4 := Tryz.isAgg4
 z4 := Tryz.sizeOf4
 v4 := Tryz.zeroValue4
 t5 := Tryz.underlying5
 a5 := Tryz.isAgg5
 z5 := Tryz.sizeOf5
 v5 := Tryz.zeroValue5
 t9 := Tryz.underlying9
 a9 := Tryz.isAgg9
 z9 := Tryz.sizeOf9
 v9 := Tryz.zeroValue9
 t26 := Tryz.underlying27
 a26 := Tryz.isAgg27
 z26 := Tryz.sizeOf27
 v26 := Tryz.zeroValue27
 t27 := Tryz.underlying27
 a27 := Tryz.isAgg27
 z27 := Tryz.sizeOf27
 v27 := Tryz.zeroValue27
 t29 := Tryz.underlying9
 a29 := Tryz.isAgg9
 z29 := Tryz.sizeOf9
 v29 := Tryz.zeroValue9
 t32 := Tryz.underlying117
 a32 := Tryz.isAgg117
 z32 := Tryz.sizeOf117
 v32 := Tryz.zeroValue117
 t35 := Tryz.underlying145
 a35 := Tryz.isAgg145
 z35 := Tryz.sizeOf145
 v35 := Tryz.zeroValue145
 t36 := Tryz.underlying146
 a36 := Tryz.isAgg146
 z36 := Tryz.sizeOf146
 v36 := Tryz.zeroValue146
 t41 := Tryz.underlying150
 a41 := Tryz.isAgg150
 z41 := Tryz.sizeOf150
 v41 := Tryz.zeroValue150
 t44 := Tryz.underlying153
 a44 := Tryz.isAgg153
 z44 := Tryz.sizeOf153
 v44 := Tryz.zeroValue153
 t46 := Tryz.underlying155
 a46 := Tryz.isAgg155
 z46 := Tryz.sizeOf155
 v46 := Tryz.zeroValue155
 t53 := Tryz.underlying167
 a53 := Tryz.isAgg167
 z53 := Tryz.sizeOf167
 v53 := Tryz.zeroValue167
 t57 := Tryz.underlying171
 a57 := Tryz.isAgg171
 z57 := Tryz.sizeOf171
 v57 := Tryz.zeroValue171
 t63 := Tryz.underlying182
 a63 := Tryz.isAgg182
 z63 := Tryz.sizeOf182
 v63 := Tryz.zeroValue182
 t64 := Tryz.underlying183
 a64 := Tryz.isAgg183
 z64 := Tryz.sizeOf183
 v64 := Tryz.zeroValue183
def Tryz.sortI_ren : Go.Shelf.Ren := ⟨fun | 5 => 102 | 8 => 82 | 7 => 125 | 19 => 113 | 20 => 114 | 10 => 138 | 11 => 139 | 12 => 140 | 13 => 141 | 14 => 142 | 15 => 143 | 16 => 144 | 17 => 145 | 18 => 146 | 30 => 149 | 31 => 127 | 32 => 128 | 33 => 150 | 34 => 151 | 35 => 132 | 40 => 152 | n => n, fun | 23 => 55 | 25 => 3 | 3 => 3 | 32 => 117 | 22 => 55 | 0 => 0 | 44 => 153 | 46 => 155 | 4 => 4 | 36 => 146 | 35 => 145 | 41 => 150 | 5 => 5 | 9 => 9 | 53 => 167 | 57 => 171 | 63 => 182 | 64 => 183 | n => n, fun | n => n⟩
theorem Tryz.sortI : Go.Proofs.SlLaysM.n5 Tryz.prog Tryz.sortI_ren where
 mixed := by kernel_rfl
 f5 := ⟨"slices.Sort[[]int,int]", by decide, Tryz.func102.trans (congrArg some (by kernel_rfl))⟩
 f7 := ⟨"slices.pdqsortOrdered[int]", by decide, Tryz.func125.trans (congrArg some (by kernel_rfl))⟩
 f8 := Tryz.func82.trans (congrArg some (by kernel_rfl))
 f10 := ⟨"slices.insertionSortOrdered[int]", by decide, Tryz.func138.trans (congrArg some (by kernel_rfl))⟩
 f11 := ⟨"slices.heapSortOrdered[int]", by decide, Tryz.func139.trans (congrArg some (by kernel_rfl))⟩
 f12 := ⟨"slices.breakPatternsOrdered[int]", by decide, Tryz.func140.trans (congrArg some (by kernel_rfl))⟩
 f13 := ⟨"slices.choosePivotOrdered[int]", by decide, Tryz.func141.trans (congrArg some (by kernel_rfl))⟩
 f14 := ⟨"slices.reverseRangeOrdered[int]", by decide, Tryz.func142.trans (congrArg some (by kernel_rfl))⟩
 f15 := ⟨"slices.partialInsertionSortOrdered[int]", by decide, Tryz.func143.trans (congrArg some (by kernel_rfl))⟩
 f16 := ⟨"cmp.Less[int]", by decide, Tryz.func144.trans (congrArg some (by kernel_rfl))⟩
 f17 := ⟨"slices.partitionEqualOrdered[int]", by decide, Tryz.func145.trans (congrArg some (by kernel_rfl))⟩
 f18 := ⟨"slices.partitionOrdered[int]", by decide, Tryz.func146.trans (congrArg some (by kernel_rfl))⟩
 f19 := Tryz.func113.trans (congrArg some (by kernel_rfl))
 f20 := Tryz.func114.trans (congrArg some (by kernel_rfl))
 f30 := ⟨"slices.siftDownOrdered[int]", by decide, Tryz.func149.trans (congrArg some (by kernel_rfl))⟩
 f31 := Tryz.func127.trans (congrArg some (by kernel_rfl))
 f32 := Tryz.func128.trans (congrArg some (by kernel_rfl))
 f33 := ⟨"slices.medianAdjacentOrdered[int]", by decide, Tryz.func150.trans (congrArg some (by kernel_rfl))⟩
 f34 := ⟨"slices.medianOrdered[int]", by decide, Tryz.func151.trans (congrArg some (by kernel_rfl))⟩
 f35 := ⟨"cmp.isNaN[int]", by decide, Tryz.func132.trans (congrArg some (by kernel_rfl))⟩
 f40 := ⟨"slices.order2Ordered[int]", by decide, Tryz.func152.trans (congrArg some (by kernel_rfl))⟩
 t0 := Tryz.underlying0
 a0 := Tryz.isAgg0
 z0 := Tryz.sizeOf0
 v0 := Tryz.zeroValue0
 t3 := Tryz.underlying3
 a3 := Tryz.isAgg3
 z3 := Tryz.sizeOf3
 v3 := Tryz.zeroValue3
 t4 := Tryz.underlying4
 a4 := Tryz.isAgg4
 z4 := Tryz.sizeOf4
 v4 := Tryz.zeroValue4
 t5 := Tryz.underlying5
 a5 := Tryz.isAgg5
 z5 := Tryz.sizeOf5
 v5 := Tryz.zeroValue5
 t9 := Tryz.underlying9
 a9 := Tryz.isAgg9
 z9 := Tryz.sizeOf9
 v9 := Tryz.zeroValue9
 t22 := Tryz.underlying55
 a22 := Tryz.isAgg55
 z22 := Tryz.sizeOf55
 v22 := Tryz.zeroValue55
 t23 := Tryz.underlying55
 a23 := Tryz.isAgg55
 z23 := Tryz.sizeOf55
 v23 := Tryz.zeroValue55
 t25 := Tryz.underlying3
 a25 := Tryz.isAgg3
 z25 := Tryz.sizeOf3
 v25 := Tryz.zeroValue3
 t32 := Tryz.underlying117
 a32 := Tryz.isAgg117
 z32 := Tryz.sizeOf117
 v32 := Tryz.zeroValue117
 t35 := Tryz.underlying145
 a35 := Tryz.isAgg145
 z35 := Tryz.sizeOf145
 v35 := Tryz.zeroValue145
 t36 := Tryz.underlying146
 a36 := Tryz.isAgg146
 z36 := Tryz.sizeOf146
 v36 := Tryz.zeroValue146
 t41 := Tryz.underlying150
 a41 := Tryz.isAgg150
 z41 := Tryz.sizeOf150
 v41 := Tryz.zeroValue150
 t44 := Tryz.underlying153
 a44 := Tryz.isAgg153
 z44 := Tryz.sizeOf153
 v44 := Tryz.zeroValue153
 t46 := Tryz.underlying155
 a46 := Tryz.isAgg155
 z46 := Tryz.sizeOf155
 v46 := Tryz.zeroValue155
 t53 := Tryz.underlying167
 a53 := Tryz.isAgg167
 z53 := Tryz.sizeOf167
 v53 := Tryz.zeroValue167
 t57 := Tryz.underlying171
 a57 := Tryz.isAgg171
 z57 := Tryz.sizeOf171
 v57 := Tryz.zeroValue171
 t63 := Tryz.underlying182
 a63 := Tryz.isAgg182
 z63 := Tryz.sizeOf182
 v63 := Tryz.zeroValue182
 t64 := Tryz.underlying183
 a64 := Tryz.isAgg183
 z64 := Tryz.sizeOf183
 v64 := Tryz.zeroValue183
end Go.Proofs
namespace Go.AW
open Go Go.Proofs Go.Sort
theorem repL_map {α : Type} {w : World} {μ : Mu} {f : α → HV} {g : α → Value} : ∀ {l : List α}, RepL w μ (l.map f) (l.map g) ↔ ∀ x ∈ l, Rep w μ (f x) (g x)
 | [] => by simp [RepL]
 | a :: l => by
  simp only [List.map_cons, RepL, List.mem_cons, forall_eq_or_imp]
  constructor
  ·rintro ⟨x, xs, e, h1, h2⟩
   cases e
   exact ⟨h1, repL_map.1 h2⟩
  ·exact fun ⟨h1, h2⟩ => ⟨_, _, rfl, h1, repL_map.2 h2⟩
theorem sorted_world {α : Type} [Inhabited α] {enc : α → Value} {f : α → HV} (hf1 : ∀ x, (f x).one = true) {w : World} {μ : Mu} {H : Heap} {id ver b k : Nat} {e : TypeId} {l d : List α} (hs : SR w μ H) (hg : hget H id = some (ver, .arr k e (l.map f)))
  (hl : μ.loc id = some (ver, some b)) (hrep : ∀ x ∈ l, Rep w μ (f x) (enc x)) (hor : OR w μ (.arr k e (l.map f)) (some b)) (hv : ∀ vs, RepL w μ (l.map f) vs → vs = l.map enc) (hp : d.Perm l) (n : Nat) (os : Array Obj) :
  SR (grow (putRow enc (Sort.ahead w n) b 0 d.toArray) os) μ (hset H id ver (.arr k e (d.map f))) ∧ Evo w μ (grow (putRow enc (Sort.ahead w n) b 0 d.toArray) os) μ := by
 obtain ⟨h0, cur, vs, rest, hrow, hcl, hrl⟩ := hor
 have hvs := hv vs hrl
 subst hvs
 have hlen : d.length = l.length := hp.length_eq
 have hcsz : cur.size = l.length + rest.length := by rw [← Array.length_toList, hcl]; simp
 -- the world with the row put
 have hb := hrow.lt
 obtain ⟨lo, hi, hbk, hfr⟩ := hrow
 have hbk' : (putRow enc (Sort.ahead w n) b 0 d.toArray).heap[b]? = some (.cells (putCells enc 0 d.toArray cur) e (lo, hi)) := by
  show (w.heap.modify b _)[b]? = _
  rw [Array.getElem?_modify, if_pos rfl, hbk]
  rfl
 have hcur' : (putCells enc 0 d.toArray cur).toList = d.map enc ++ rest := by
  apply List.ext_getElem?
  intro i
  rw [Array.getElem?_toList]
  simp only [putCells, Array.getElem?_mapIdx]
  have hc : cur[i]? = (l.map enc ++ rest)[i]? := by rw [← hcl, Array.getElem?_toList]
  rw [hc]
  rcases Nat.lt_or_ge i d.length with hi | hi
  ·rw [List.getElem?_append_left (by simp; omega), List.getElem?_append_left (by simpa using hi), List.getElem?_map, List.getElem?_map, List.getElem?_eq_getElem (by omega : i < l.length), List.getElem?_eq_getElem hi]
   simp only [Option.map_some]
   rw [if_pos ⟨Nat.zero_le _, by simpa using hi⟩]
   simp [hi]
  ·rw [List.getElem?_append_right (by simp; omega), List.getElem?_append_right (by simpa using hi)]
   simp only [List.length_map, hlen]
   cases rest[i - l.length]? with
   | none => rfl
   | some x =>
    simp only [Option.map_some]
    rw [if_neg (by simp; omega)]
 have hsz1 : (putRow enc (Sort.ahead w n) b 0 d.toArray).heap.size = w.heap.size := by rw [size_putRow]; rfl
 have hrow1 : Row (putRow enc (Sort.ahead w n) b 0 d.toArray) b (putCells enc 0 d.toArray cur) e := ⟨lo, hi, hbk', by simpa [putCells] using hfr⟩
 have hold : ∀ b', b' ≠ b → (putRow enc (Sort.ahead w n) b 0 d.toArray).heap[b']? = w.heap[b']? := fun b' hne => by
  show (w.heap.modify b _)[b']? = _
  rw [Array.getElem?_modify, if_neg (fun e => hne e.symm)]
 obtain ⟨h1, h2⟩ := hs.updArr (cs' := d.map f) (w' := putRow enc (Sort.ahead w n) b 0 d.toArray) hg hl ⟨rfl, rfl, rfl⟩ hsz1 hold ⟨lo, hi, hbk, hfr⟩ hrow1 (by simp [putCells]) fun E => by
  refine ⟨fun c hc => ?_, _, d.map enc, rest, hrow1, hcur', repL_map.2 fun x hx => Rep.evo E hs.ok _ _ (hrep x (hp.mem_iff.1 hx))⟩
  obtain ⟨x, _, rfl⟩ := List.mem_map.1 hc
  exact hf1 x
 have g : Grow (putRow enc (Sort.ahead w n) b 0 d.toArray) (grow (putRow enc (Sort.ahead w n) b 0 d.toArray) os) :=
  ⟨⟨rfl, rfl, rfl⟩, by rw [size_grow]; omega, fun b' hb' => by
   show (_ ++ os)[b']? = _
   rw [Array.getElem?_append_left hb']⟩
 exact ⟨h1.grow g, h2.trans (Evo.grow h1 g)⟩
theorem holds_row {α : Type} [Inhabited α] {enc : α → Value} {w : World} {b : Nat} {cur : Array Value} {e : TypeId} {l : List α} {rest : List Value} (hrow : Row w b cur e) (hcl : cur.toList = l.map enc ++ rest) : Holds enc w b 0 l.toArray := by
 intro j hj
 have hj' : j < l.length := by simpa using hj
 have hc : cur[j]? = some (enc l[j]) := by
  rw [← Array.getElem?_toList, hcl, List.getElem?_append_left (by simpa using hj'), List.getElem?_map, List.getElem?_eq_getElem hj']
  rfl
 refine ⟨?_, ?_⟩
 ·rw [Nat.zero_add, hrow.cell, hc]
  simp [hj']
 ·rw [Nat.zero_add]
  exact hrow.free (Array.getElem?_eq_some_iff.1 hc).1
theorem repL_strs {w : World} {μ : Mu} : ∀ {l : List (List UInt8)} {vs : List Value}, RepL w μ (l.map .str) vs → vs = l.map encStr ∧ ∀ x ∈ l, Rep w μ (.str x) (encStr x)
 | [], vs, h => by simp only [List.map_nil, RepL] at h; subst h; exact ⟨rfl, by simp⟩
 | a :: l, vs, ⟨x, xs, e, h1, h2⟩ => by
  obtain ⟨h3, h4⟩ := repL_strs h2
  obtain ⟨rfl, hl⟩ := h1
  subst e
  rw [h3]
  exact ⟨rfl, by simpa using ⟨⟨rfl, hl⟩, h4⟩⟩
theorem repL_ints {w : World} {μ : Mu} : ∀ {l : List Int} {vs : List Value}, RepL w μ (l.map (.int .i64)) vs → vs = l.map (Value.int .i64) ∧ ∀ x ∈ l, Rep w μ (.int .i64 x) (Value.int .i64 x)
 | [], vs, h => by simp only [List.map_nil, RepL] at h; subst h; exact ⟨rfl, by simp⟩
 | a :: l, vs, ⟨x, xs, e, h1, h2⟩ => by
  obtain ⟨h3, h4⟩ := repL_ints h2
  obtain ⟨rfl, hl⟩ := h1
  subst e
  rw [h3]
  exact ⟨rfl, by simpa using ⟨⟨rfl, hl⟩, h4⟩⟩
theorem w45 {H : Heap} {id ver : Nat} {e : TypeId} {l : List (List UInt8)} {K : HV → Heap → Prop} (hg : hget H id = some (ver, .arr 1 e (l.map .str))) (hlen : l.length < 4611686018427387904)
  (hK : K (.tup []) (hset H id ver (.arr 1 e ((sortS l).map .str)))) : ACall Tryz.prog 55 [.ar id ver 1 0 l.length] H K := by
 refine ⟨enters' Tryz.func55 rfl rfl, fun μ w vs hs hr _ => ?_⟩
 obtain ⟨x, xs, rfl, hr, hn⟩ := hr
 cases hn
 obtain ⟨lo, hl, hor⟩ := hs.has _ _ _ hg
 rcases hr with ⟨lo', hl', h⟩ | ⟨hd, _⟩
 ·rw [hl] at hl'
  cases hl'
  rcases h with ⟨rfl, rfl, h0, _⟩ | ⟨b, cap, cur, e', rfl, rfl, hcap, _, hrow, hsz⟩
  ·have h0' : l = [] := List.eq_nil_of_length_eq_zero h0
   subst h0'
   refine (AnyM.slices_Sort_string_none Tryz.sortS none 0 w).mono ?_
   rintro e' w' ⟨rfl, rfl⟩
   have hset_same : SR w' μ (hset H id ver (.arr 1 e ((sortS []).map .str))) := by
    refine ⟨hs.ok, fun j v o ho => ?_, fun j x hx => ?_, hs.inj, hs.held⟩
    ·rw [hget_hset] at ho
     split at ho
     ·rename_i ej; subst ej; cases ho; exact ⟨none, hl, by show (sortS []).map HV.str = []; simp [sortS]⟩
     ·exact hs.has _ _ _ ho
    ·rw [hget_hset]
     split
     ·exact ⟨_, rfl⟩
     ·exact hs.only _ _ hx
   exact ⟨_, .tup [], _, μ, rfl, hK, hset_same, ⟨[], rfl, rfl⟩, Evo.refl _ _⟩
  ·have hor' := hor
   obtain ⟨h0, cur', vs', rest, hrow', hcl, hrl⟩ := hor
   obtain ⟨hvs, hreps⟩ := repL_strs hrl
   subst hvs
   refine (AnyM.slices_Sort_string Tryz.sortS b 0 cap l w (holds_row hrow' hcl) hrow'.lt hlen).mono ?_
   rintro e2 w' ⟨rfl, n, os, rfl⟩
   obtain ⟨h1, h2⟩ := sorted_world (f := HV.str) (fun _ => rfl) hs hg hl hreps hor' (fun vs hv => (repL_strs hv).1) (List.mergeSort_perm l _) n os
   exact ⟨_, .tup [], _, μ, rfl, hK, h1, ⟨[], rfl, rfl⟩, h2⟩
 ·exact absurd hl (hd.2 lo)
theorem w45n {H : Heap} {K : HV → Heap → Prop} (hK : K (.tup []) H) : ACall Tryz.prog 55 [.v (.slice none 0 0)] H K := by
 refine ⟨enters' Tryz.func55 rfl rfl, fun μ w vs hs hr _ => ?_⟩
 obtain ⟨x, xs, rfl, hr, hn⟩ := hr
 cases hn
 cases hr
 refine (AnyM.slices_Sort_string_none Tryz.sortS none 0 w).mono ?_
 rintro e' w' ⟨rfl, rfl⟩
 exact ⟨_, .tup [], _, μ, rfl, hK, hs, ⟨[], rfl, rfl⟩, Evo.refl _ _⟩
theorem w179 {H : Heap} {id ver : Nat} {e : TypeId} {l : List Int} {K : HV → Heap → Prop} (hg : hget H id = some (ver, .arr 1 e (l.map (.int .i64)))) (hlen : l.length < 4611686018427387904)
  (hK : K (.tup []) (hset H id ver (.arr 1 e ((sortI l).map (.int .i64))))) : ACall Tryz.prog 102 [.ar id ver 1 0 l.length] H K := by
 refine ⟨enters' Tryz.func102 rfl rfl, fun μ w vs hs hr _ => ?_⟩
 obtain ⟨x, xs, rfl, hr, hn⟩ := hr
 cases hn
 obtain ⟨lo, hl, hor⟩ := hs.has _ _ _ hg
 rcases hr with ⟨lo', hl', h⟩ | ⟨hd, _⟩
 ·rw [hl] at hl'
  cases hl'
  rcases h with ⟨rfl, rfl, h0, _⟩ | ⟨b, cap, cur, e', rfl, rfl, hcap, _, hrow, hsz⟩
  ·have h0' : l = [] := List.eq_nil_of_length_eq_zero h0
   subst h0'
   refine (AnyM.slices_Sort_int_none Tryz.sortI none 0 w).mono ?_
   rintro e' w' ⟨rfl, rfl⟩
   refine ⟨_, .tup [], _, μ, rfl, hK, ?_, ⟨[], rfl, rfl⟩, Evo.refl _ _⟩
   have : (sortI []).map (HV.int .i64) = [] := by simp [sortI]
   rw [this]
   exact hs.same hg
  ·have hor' := hor
   obtain ⟨h0, cur', vs', rest, hrow', hcl, hrl⟩ := hor
   obtain ⟨hvs, hreps⟩ := repL_ints hrl
   subst hvs
   refine (AnyM.slices_Sort_int Tryz.sortI b 0 cap l w (holds_row hrow' hcl) hrow'.lt hlen).mono ?_
   rintro e2 w' ⟨rfl, n, os, rfl⟩
   obtain ⟨h1, h2⟩ := sorted_world (f := HV.int .i64) (fun _ => rfl) hs hg hl hreps hor' (fun vs hv => (repL_ints hv).1) (List.mergeSort_perm l _) n os
   exact ⟨_, .tup [], _, μ, rfl, hK, h1, ⟨[], rfl, rfl⟩, h2⟩
 ·exact absurd hl (hd.2 lo)
theorem sorts179 : SortsI Tryz.prog 102 := by
 refine ⟨fun _ _ _ _ _ _ hg hl hK => w179 hg hl hK, fun H K hK => ⟨enters' Tryz.func102 rfl rfl, fun μ w vs hs hr _ => ?_⟩⟩
 obtain ⟨x, xs, rfl, hr, hn⟩ := hr
 cases hn
 cases hr
 refine (AnyM.slices_Sort_int_none Tryz.sortI none 0 w).mono ?_
 rintro e' w' ⟨rfl, rfl⟩
 exact ⟨_, .tup [], _, μ, rfl, hK, hs, ⟨[], rfl, rfl⟩, Evo.refl _ _⟩
end Go.AW
namespace Go.AW
open Go
def letters : List UInt8 := [48, 49, 50, 51, 52, 53, 54, 55, 56, 57, 97, 98, 99, 100, 101, 102]
abbrev WS := List UInt8 × List Int
def ext1 (stp : List Int → UInt8 → List Int) (cs : List UInt8) (x : WS) : List WS := cs.filterMap fun c => if stp x.2 c = [] then none else some (x.1 ++ [c], stp x.2 c)
def lvl (stp : List Int → UInt8 → List Int) (cs : List UInt8) (set : List Int) : Nat → List WS
 | 0 => if set = [] then [] else [([], set)]
 | i + 1 => (lvl stp cs set i).flatMap (ext1 stp cs)
def ent (x : WS) : List UInt8 × HV := (x.1, ints x.2)
section
variable {stp : List Int → UInt8 → List Int} {cs : List UInt8} {set : List Int}
theorem mem_ext1 {x y : WS} : y ∈ ext1 stp cs x ↔ ∃ c ∈ cs, stp x.2 c ≠ [] ∧ y = (x.1 ++ [c], stp x.2 c) := by
 simp only [ext1, List.mem_filterMap]
 constructor
 ·rintro ⟨c, hc, h⟩
  split at h
  ·cases h
  ·rename_i hn; cases h; exact ⟨c, hc, hn, rfl⟩
 ·rintro ⟨c, hc, hn, rfl⟩
  exact ⟨c, hc, by rw [if_neg hn]⟩
theorem ext1_keys (x : WS) (h : cs.Nodup) : ((ext1 stp cs x).map (·.1)).Nodup := by
 induction cs with
 | nil => simp [ext1]
 | cons c cs ih =>
  have hc := List.nodup_cons.1 h
  have ih' := ih hc.2
  simp only [ext1, List.filterMap_cons] at ih' ⊢
  split
  ·exact ih'
  ·rename_i y hy
   split at hy
   ·cases hy
   ·cases hy
    simp only [List.map_cons, List.nodup_cons]
    refine ⟨fun hm => ?_, ih'⟩
    obtain ⟨z, hz, he⟩ := List.mem_map.1 hm
    obtain ⟨d, hd, _, rfl⟩ := mem_ext1.1 hz
    have := List.append_cancel_left he
    cases this
    exact hc.1 hd
theorem flat_keys (h : cs.Nodup) : ∀ {l : List WS}, (l.map (·.1)).Nodup → ((l.flatMap (ext1 stp cs)).map (·.1)).Nodup
 | [], _ => by simp
 | x :: l, hl => by
  simp only [List.map_cons, List.nodup_cons] at hl
  simp only [List.flatMap_cons, List.map_append]
  refine List.nodup_append.2 ⟨ext1_keys x h, flat_keys h hl.2, ?_⟩
  intro a ha b hb e
  subst e
  obtain ⟨y, hy, rfl⟩ := List.mem_map.1 ha
  obtain ⟨c, _, _, rfl⟩ := mem_ext1.1 hy
  obtain ⟨z, hz, he⟩ := List.mem_map.1 hb
  obtain ⟨x', hx', hz'⟩ := List.mem_flatMap.1 hz
  obtain ⟨d, _, _, rfl⟩ := mem_ext1.1 hz'
  have h1 : x'.1 = x.1 := by
   have := congrArg List.dropLast he
   simpa using this
  exact hl.1 (h1 ▸ List.mem_map.2 ⟨x', hx', rfl⟩)
theorem lvl_keys (h : cs.Nodup) : ∀ i, ((lvl stp cs set i).map (·.1)).Nodup
 | 0 => by simp only [lvl]; split <;> simp
 | i + 1 => flat_keys h (lvl_keys h i)
theorem lvl_len : ∀ (i : Nat) (x : WS), x ∈ lvl stp cs set i → x.1.length = i
 | 0, x, h => by
  simp only [lvl] at h
  split at h
  ·cases h
  ·simp at h; subst h; rfl
 | i + 1, x, h => by
  obtain ⟨y, hy, hx⟩ := List.mem_flatMap.1 h
  obtain ⟨c, _, _, rfl⟩ := mem_ext1.1 hx
  have := lvl_len i y hy
  simp [this]
theorem lvl_all {A : List Int → Prop} (h0 : A set) (hs : ∀ a c, A a → c ∈ cs → A (stp a c)) : ∀ (i : Nat) (x : WS), x ∈ lvl stp cs set i → A x.2
 | 0, x, h => by
  simp only [lvl] at h
  split at h
  ·cases h
  ·simp at h; subst h; exact h0
 | i + 1, x, h => by
  obtain ⟨y, hy, hx⟩ := List.mem_flatMap.1 h
  obtain ⟨c, hc, _, rfl⟩ := mem_ext1.1 hx
  exact hs _ _ (lvl_all h0 hs i y hy) hc
theorem lvl_nil {i : Nat} (h : lvl stp cs set i = []) : ∀ {j : Nat}, i ≤ j → lvl stp cs set j = []
 | 0, hj => by
  have : i = 0 := by omega
  subst this; exact h
 | j + 1, hj => by
  rcases Nat.lt_or_ge i (j + 1) with h' | h'
  ·simp only [lvl, lvl_nil h (j := j) (by omega), List.flatMap_nil]
  ·have : i = j + 1 := by omega
   subst this; exact h
theorem perm_flat {l l' : List WS} (h : l.Perm l') : (l.flatMap (ext1 stp cs)).Perm (l'.flatMap (ext1 stp cs)) := h.flatMap_right _
theorem perm_keys {l : List WS} {es : List (List UInt8 × HV)} (h : es.Perm (l.map ent)) (hl : (l.map (·.1)).Nodup) : (es.map (·.1)).Nodup := by
 have h1 := h.map (·.1)
 rw [List.map_map] at h1
 exact h1.nodup_iff.2 (by simpa [Function.comp_def, ent] using hl)
theorem next_pick {vis rest l : List WS} {es : List (List UInt8 × HV)} {k : List UInt8} {v : HV} (hp : (vis ++ rest).Perm l) (he : es.Perm (l.map ent)) (hm : (k, v) ∈ es) (hk : k ∉ vis.map (·.1)) :
  ∃ x l1 l2, rest = l1 ++ x :: l2 ∧ (k, v) = ent x ∧ ((x :: vis) ++ (l1 ++ l2)).Perm l := by
 have h1 : (k, v) ∈ (vis ++ rest).map ent := ((hp.map ent).symm.mem_iff).1 (he.mem_iff.1 hm)
 obtain ⟨x, hx, hxe⟩ := List.mem_map.1 h1
 have hxr : x ∈ rest := by
  rcases List.mem_append.1 hx with h | h
  ·exfalso
   refine hk (List.mem_map.2 ⟨x, h, ?_⟩)
   have := congrArg Prod.fst hxe
   exact this
  ·exact h
 obtain ⟨l1, l2, rfl⟩ := List.append_of_mem hxr
 refine ⟨x, l1, l2, rfl, hxe.symm, List.Perm.trans ?_ hp⟩
 have e1 : (x :: vis) ++ (l1 ++ l2) = x :: ((vis ++ l1) ++ l2) := by simp
 have e2 : vis ++ (l1 ++ x :: l2) = (vis ++ l1) ++ x :: l2 := by simp
 rw [e1, e2]
 exact List.perm_middle.symm
theorem rest_nil {vis rest l : List WS} {es : List (List UInt8 × HV)} (hl : (l.map (·.1)).Nodup) (hp : (vis ++ rest).Perm l) (he : es.Perm (l.map ent)) (hall : ∀ p ∈ es, p.1 ∈ vis.map (·.1)) : rest = [] := by
 cases rest with
 | nil => rfl
 | cons x rest =>
  exfalso
  have hx : ent x ∈ es := he.mem_iff.2 (List.mem_map.2 ⟨x, hp.mem_iff.1 (by simp), rfl⟩)
  have hk := hall _ hx
  have hn : ((vis ++ x :: rest).map (·.1)).Nodup := (hp.map (·.1)).nodup_iff.2 hl
  simp only [List.map_append, List.map_cons] at hn
  exact (List.nodup_append.1 hn).2.2 _ hk _ (List.mem_cons_self ..) rfl
theorem ext1_take (x : WS) {j : Nat} (hj : j < cs.length) : ext1 stp (cs.take (j + 1)) x = ext1 stp (cs.take j) x ++ (if stp x.2 cs[j] = [] then [] else [(x.1 ++ [cs[j]], stp x.2 cs[j])]) := by
 rw [List.take_add_one, List.getElem?_eq_getElem hj]
 simp only [ext1, Option.toList_some, List.filterMap_append]
 congr 1
 simp only [List.filterMap_cons, List.filterMap_nil]
 split <;> simp_all
theorem key_new {vis : List WS} {x : WS} (hcs : cs.Nodup) (hx : x.1 ∉ vis.map (·.1)) {j : Nat} (hj : j < cs.length) {es : List (List UInt8 × HV)} (he : es.Perm ((vis.flatMap (ext1 stp cs) ++ ext1 stp (cs.take j) x).map ent)) :
  alook (x.1 ++ [cs[j]]) es = none := by
 rw [alook_none]
 intro hm
 have h1 := (he.map (·.1)).mem_iff.1 hm
 rw [List.map_map, List.map_append, List.mem_append] at h1
 rcases h1 with h | h
 ·obtain ⟨y, hy, hye⟩ := List.mem_map.1 h
  obtain ⟨z, hz, hzy⟩ := List.mem_flatMap.1 hy
  obtain ⟨d, _, _, rfl⟩ := mem_ext1.1 hzy
  have h2 : z.1 = x.1 := by
   have := congrArg List.dropLast hye
   simpa [ent] using this
  exact hx (h2 ▸ List.mem_map.2 ⟨z, hz, rfl⟩)
 ·obtain ⟨y, hy, hye⟩ := List.mem_map.1 h
  obtain ⟨d, hd, _, rfl⟩ := mem_ext1.1 hy
  have h2 : d = cs[j] := by
   have h3 : x.1 ++ [d] = x.1 ++ [cs[j]] := hye
   have := List.append_cancel_left h3
   simpa using this
  rw [h2] at hd
  obtain ⟨k, hk, hke⟩ := List.mem_take_iff_getElem.1 hd
  have := (List.getElem_inj (h₀ := by omega) (h₁ := hj) hcs).1 hke
  omega
end
def okLvl (stp : List Int → UInt8 → List Int) (cs : List UInt8) (set : List Int) (n : Nat) : Bool := (List.range n).all fun j => decide ((lvl stp cs set (j + 1)).length ≤ 4096)
theorem okLvl_iff {stp : List Int → UInt8 → List Int} {cs : List UInt8} {set : List Int} {n : Nat} : okLvl stp cs set n = true ↔ ∀ j, 1 ≤ j → j ≤ n → (lvl stp cs set j).length ≤ 4096 := by
 simp only [okLvl, List.all_eq_true, List.mem_range, decide_eq_true_eq]
 constructor
 ·intro h j h1 h2
  have := h (j - 1) (by omega)
  rwa [show j - 1 + 1 = j by omega] at this
 ·exact fun h j hj => h (j + 1) (by omega) (by omega)
theorem utf_letters : ∀ c ∈ letters, (Utf8.encode (c.toNat : Int)).data.toList = [c] := by decide
theorem letters_nodup : letters.Nodup := by decide
theorem fact_num {n : Int} (h : fact (.int .i64 n)) : -9223372036854775808 ≤ n ∧ n ≤ 9223372036854775807 := by
 simpa [fact, Lit.wf, IntKind.min, IntKind.max, IntKind.signed, IntKind.bits] using h
theorem dec_lt {a b : Nat} (h : decide ((a : Int) < (b : Int)) = true) : a < b := by simpa using h
theorem AW.cjoin2 {P : Program} {ro : Option Nat} {N : Nat} {s : AS} {Q : Exit → AS → Prop} {c : Operand} {x y z : Code} {t : Bool} {α : Type} (St : α → AS) (I : α → Prop) (hc : s.ev c = some (.bool t))
  (h1 : t = true → AW P ro N x (thenQ (fun s' => ∃ a, I a ∧ s'.le (St a)) Q) s) (h2 : t = false → AW P ro N y (thenQ (fun s' => ∃ a, I a ∧ s'.le (St a)) Q) s)
  (h3 : ∀ a, I a → AW P ro N z Q (St a)) : AW P ro N (.cond c x y) (thenQ (AW P ro N z Q) Q) s := by
 refine (AW.cond hc h1 h2).mono ?_
 rintro e s' h
 cases e with
 | normal => obtain ⟨a, ha, hl⟩ := h; exact AW.weaken (h3 a ha) hl
 | exit id => exact h
 | goto l => exact h
 | ret => exact h
 | panic ch => exact h
 | outgrown => exact h
end Go.AW
namespace Go.AW
open Go Go.Proofs
theorem fw24_0 : fieldOf Tryz.prog 24 0 = some (0, { desc := TypeDesc.int .i64, size := 1, bytes := 8, zero := Value.int .i64 0 }) := by kernel_rfl
theorem fw24_1 : fieldOf Tryz.prog 24 1 = some (1, { desc := TypeDesc.int .i64, size := 1, bytes := 8, zero := Value.int .i64 0 }) := by kernel_rfl
theorem fw24_2 : fieldOf Tryz.prog 24 2 = some (2, { desc := TypeDesc.slice 44, size := 1, bytes := 24, zero := Value.slice none 0 0 }) := by kernel_rfl
theorem fw44_0 : fieldOf Tryz.prog 44 0 = some (0, { desc := TypeDesc.int .i64, size := 1, bytes := 8, zero := Value.int .i64 0 }) := by kernel_rfl
theorem fw44_1 : fieldOf Tryz.prog 44 1 = some (1, { desc := TypeDesc.int .i64, size := 1, bytes := 8, zero := Value.int .i64 0 }) := by kernel_rfl
theorem fw44_2 : fieldOf Tryz.prog 44 2 = some (2, { desc := TypeDesc.int .i64, size := 1, bytes := 8, zero := Value.int .i64 0 }) := by kernel_rfl
attribute [go_sem high] fw24_0 fw24_1 fw24_2 fw44_0 fw44_1 fw44_2
theorem hget_0 {id v : Nat} {o : AObj} {H : Heap} : hget ((id, v, o) :: H) id = some (v, o) := by simp [hget]
set_option linter.unusedSimpArgs false
set_option maxHeartbeats 1000000 in
theorem w79 {L n : Nat} {gS gE : HV} {stp : List Int → UInt8 → List Int} {set : List Int} {A : List Int → Prop} (hL : L ≤ 16) (h1g : gS.one = true) (h1e : gE.one = true) (hA0 : A set) (hA : ∀ a c, A a → c ∈ letters.take L → A (stp a c))
  (hstep : ∀ a c, A a → c ∈ letters.take L → Pure Tryz.prog 53 [.agg [num L, gS, gE], ints a, .int .u8 c.toNat] (· = ints (stp a c))) :
  ACall Tryz.prog 33 [.agg [num L, gS, gE], ints set, num n] [] fun r H' =>
   ((∀ j, 1 ≤ j → j ≤ n → (lvl stp (letters.take L) set j).length ≤ 4096) ∧ ∃ id ver es, r = .tup [.mp id ver, .bool true] ∧ H' = [(id, ver, .map es)] ∧ es.Perm ((lvl stp (letters.take L) set n).map ent)) ∨
   (∃ j, 1 ≤ j ∧ j ≤ n ∧ 4096 < (lvl stp (letters.take L) set j).length ∧ r = .tup [.v (.map none), .bool false] ∧ H' = []) := by
 refine ACall.facts (enters' Tryz.func33 rfl rfl) fun hf => ?_
 have hn : n ≤ 9223372036854775807 := by
  have := fact_num hf.2.2.1
  omega
 refine ACall.of_body Tryz.func33 rfl rfl (Nat.le_of_ble_eq_true rfl) ?_
 unfold Tryz.f33
 dsimp only [enumS, Nat.reduceAdd]
 simp only [num] at *
 refine AW.rseq (fid := 79) (mt := []) [1, 2, 3] rfl fun K hK => ?_
 simp only [go_sem, reduceIte, Nat.reduceEqDiff, Int.reduceLE]
 refine hK _ ?_
 clear hK K
 refine AW.rseq (fid := 79) (mt := []) [1, 2, 3, 8] rfl fun K hK => ?_
 simp only [go_sem, reduceIte, Nat.reduceEqDiff, Int.reduceLE]
 intro v0
 refine hK _ ?_
 clear hK K
 refine AW.seq ?_
 refine AW.rseq (fid := 79) (mt := []) [1, 2, 3, 8, 18] rfl fun K hK => ?_
 simp only [go_sem, ints, reduceIte, Nat.reduceEqDiff, Int.reduceLE]
 refine hK _ ?_
 clear hK K
 have h00 : ((0 : Nat) : Int) = 0 := rfl
 refine AW.cjoin2 (fun es : List (List UInt8 × HV) => ⟨[(2, .int .i64 n), (3, .fptr [.int .i64 L, gS, gE] 0), (8, .mp (79 * 1000 + 15) v0)], [(79 * 1000 + 15, v0, .map es)]⟩) (fun es => es = (lvl stp (letters.take L) set 0).map ent) rfl (fun hc => ?_) (fun hc => ?_) ?_
 ·have hc : 0 < set.length := by simpa using hc
  refine AW.region (fid := 79) (mt := []) [2, 3, 8] rfl fun K hK => ?_
  simp only [go_sem, reduceIte, Nat.reduceEqDiff, Int.reduceLE, List.length_nil, Nat.zero_le, mput]
  refine hK _ ?_
  clear hK K
  have hne : set ≠ [] := by rintro rfl; simp at hc
  refine ⟨[([], ints set)], by simp [lvl, hne, ent], AS.le_of ⟨rfl, rfl, rfl, trivial⟩ ⟨hget_0, trivial⟩⟩
 ·have hc : set = [] := by
   have : ¬ 0 < set.length := by simpa using hc
   exact List.eq_nil_of_length_eq_zero (by omega)
  refine AW.skip ⟨[], by simp [lvl, hc], AS.le_of ⟨rfl, rfl, rfl, trivial⟩ ⟨hget_0, trivial⟩⟩
 rintro es0 rfl
 refine AW.seq ?_
 refine AW.rseq (fid := 79) (mt := []) [3, 8, 21, 22] rfl fun K hK => ?_
 simp only [go_sem, reduceIte, Nat.reduceEqDiff, Int.reduceLE]
 refine hK _ ?_
 clear hK K
 refine AW.block ?_
 refine AW.loopS (fun p : Nat × Nat × Nat × List (List UInt8 × HV) => ⟨[(3, .fptr [.int .i64 L, gS, gE] 0), (8, .mp p.2.1 p.2.2.1), (21, .int .i64 n), (22, .int .i64 p.1)], [(p.2.1, p.2.2.1, .map p.2.2.2)]⟩)
  (fun p => p.1 ≤ n ∧ p.2.2.2.Perm ((lvl stp (letters.take L) set p.1).map ent) ∧ ∀ j, 1 ≤ j → j ≤ p.1 → (lvl stp (letters.take L) set j).length ≤ 4096) (fun p => n - p.1) (0, _, _, _)
  (AS.le_of ⟨rfl, rfl, rfl, rfl, trivial⟩ ⟨rfl, trivial⟩) ⟨Nat.zero_le _, List.Perm.refl _, fun j h1 h2 => by dsimp only at h2; omega⟩ ?_
 rintro ⟨i, aid, av, es⟩ ⟨hi, hes, hsz⟩
 dsimp only at hi hes hsz ⊢
 refine AW.rseq (fid := 79) (mt := []) [3, 8, 21, 22, 23] rfl fun K hK => ?_
 simp only [go_sem, reduceIte, Nat.reduceEqDiff, Int.reduceLE]
 refine hK _ ?_
 clear hK K
 refine AW.cseq rfl (fun hc => ?_) (fun hc => ?_)
 ·have hi' := dec_lt hc
  obtain ⟨f, hf1, hf2⟩ : ∃ f : Nat, f * 1000 + 24 ≠ aid ∧ f * 1000 + 26 ≠ aid := ⟨aid + 1, by omega, by omega⟩
  have hf3 := Ne.symm hf1
  have hf4 := Ne.symm hf2
  refine AW.skip ?_
  refine AW.seq (AW.block ?_)
  refine AW.rseq (fid := f) (mt := []) [3, 8, 9, 21, 22] rfl fun K hK => ?_
  simp only [go_sem, reduceIte, Nat.reduceEqDiff, Int.reduceLE, hf1, hf2, hf3, hf4]
  intro nv
  refine hK _ ?_
  clear hK K
  refine AW.seq ?_
  refine AW.rseq (fid := f) (mt := []) [3, 9, 21, 22, 26] rfl fun K hK => ?_
  simp only [go_sem, reduceIte, Nat.reduceEqDiff, Int.reduceLE, hf1, hf2, hf3, hf4, Nat.add_left_cancel_iff]
  refine ⟨hf2, fun iv => hK _ ?_⟩
  clear hK K
  refine AW.block ?_
  have hlk := lvl_keys (stp := stp) (set := set) (cs := letters.take L) (letters_nodup.sublist (List.take_sublist _ _)) i
  refine AW.loopS (fun p : List WS × List WS × List (List UInt8 × HV) × Bool => ⟨[(3, .fptr [.int .i64 L, gS, gE] 0), (9, .mp (f * 1000 + 24) nv), (21, .int .i64 n), (22, .int .i64 i), (26, .it (f * 1000 + 26) iv)],
    [(aid, av, .map es), (f * 1000 + 24, nv, .map p.2.2.1), (f * 1000 + 26, iv, .iter aid av (p.1.map (·.1)) p.2.2.2)]⟩)
   (fun p => (p.1 ++ p.2.1).Perm (lvl stp (letters.take L) set i) ∧ p.2.2.1.Perm ((p.1.flatMap (ext1 stp (letters.take L))).map ent) ∧ (p.1.flatMap (ext1 stp (letters.take L))).length ≤ 4096) (fun p => p.2.1.length) ([], lvl stp (letters.take L) set i, [], false)
   (AS.le_of ⟨rfl, rfl, rfl, rfl, rfl, trivial⟩ ⟨hget_0, by simp [hget, hf1, hf2, hf3, hf4], by simp [hget, hf1, hf2, hf3, hf4], trivial⟩) ⟨List.Perm.refl _, List.Perm.refl _, Nat.zero_le _⟩ ?_
  rintro ⟨vis, rest, es', cur⟩ ⟨hvr, hes', hlen⟩
  dsimp only at hvr hes' hlen ⊢
  refine AW.rseq (fid := f) (mt := []) [3, 9, 21, 22, 26, 28] rfl fun K hK => ?_
  simp only [go_sem, reduceIte, Nat.reduceEqDiff, Int.reduceLE, hf1, hf2, hf3, hf4, Nat.add_left_cancel_iff]
  refine ⟨fun hall => hK _ ?_, fun k v hkv hks => hK _ ?_⟩
  ·clear hK K
   have hr := rest_nil hlk hvr hes hall
   subst hr
   rw [List.append_nil] at hvr
   have hnx : es'.Perm ((lvl stp (letters.take L) set (i + 1)).map ent) := hes'.trans ((perm_flat hvr).map ent)
   have hln : (lvl stp (letters.take L) set (i + 1)).length ≤ 4096 := by
    have := (perm_flat (stp := stp) (cs := letters.take L) hvr).length_eq
    show ((lvl stp (letters.take L) set i).flatMap _).length ≤ 4096
    omega
   have hsz' : ∀ j, 1 ≤ j → j ≤ i + 1 → (lvl stp (letters.take L) set j).length ≤ 4096 := fun j h1 h2 => by
    rcases Nat.lt_or_ge i j with h | h
    ·have : j = i + 1 := by omega
     subst this; exact hln
    ·exact hsz j h1 h
   refine AW.cseq rfl (fun hc => by cases hc) (fun _ => ?_)
   refine AW.exit ?_
   refine AW.rseq (fid := f) (mt := []) [3, 8, 21, 22] rfl fun K hK => ?_
   simp only [go_sem, reduceIte, Nat.reduceEqDiff, Int.reduceLE, hf1, hf2, hf3, hf4, Nat.add_left_cancel_iff]
   refine hK _ ?_
   clear hK K
   refine AW.rseq (fid := f) (mt := []) [3, 8, 21, 22, 59] rfl fun K hK => ?_
   simp only [go_sem, reduceIte, Nat.reduceEqDiff, Int.reduceLE, hf1, hf2, hf3, hf4, Nat.add_left_cancel_iff]
   refine ⟨by rw [hes'.length_eq, List.length_map]; simp only [maxLen]; omega, hK _ ?_⟩
   clear hK K
   refine AW.cond rfl (fun hc => ?_) (fun hc => ?_)
   ·have h0 : es' = [] := by
     have : (es'.length : Int) = 0 := by simpa using hc
     exact List.eq_nil_of_length_eq_zero (by omega)
    subst h0
    have hl0 : lvl stp (letters.take L) set (i + 1) = [] := by
     have := hnx.length_eq
     simp only [List.length_nil, List.length_map] at this
     exact List.eq_nil_of_length_eq_zero this.symm
    have hlj := @lvl_nil stp (letters.take L) set (i + 1) hl0
    refine AW.exit ?_
    refine AW.rseq (fid := 79) (mt := []) [6, 7] rfl fun K hK => ?_
    simp only [go_sem, reduceIte, Nat.reduceEqDiff, Int.reduceLE, hf1, hf2, hf3, hf4, Nat.add_left_cancel_iff]
    refine hK _ ?_
    clear hK K
    refine AW.ret ⟨.inr rfl, ?_⟩
    simp only [go_sem, reduceIte, Nat.reduceEqDiff]
    refine ⟨_, [(f * 1000 + 24, nv, .map [])], Conv.drop (leH_get ⟨by simp [hget, hf1, hf2, hf3, hf4], trivial⟩), .inl ⟨fun j h1 h2 => ?_, _, _, _, rfl, rfl, ?_⟩⟩
    ·rcases Nat.lt_or_ge (i + 1) j with h | h
     ·rw [hlj (by omega)]; simp
     ·exact hsz' j h1 h
    ·rw [hlj (by omega)]; exact List.Perm.refl _
   ·refine AW.skip ?_
    refine AW.region (fid := 79) (mt := []) [3, 8, 21, 22] rfl fun K hK => ?_
    simp only [go_sem, reduceIte, Nat.reduceEqDiff, Int.reduceLE]
    refine hK _ ?_
    clear hK K
    refine ⟨(i + 1, f * 1000 + 24, nv, es'), ⟨by dsimp only; omega, hnx, hsz'⟩, by dsimp only; omega, ?_⟩
    dsimp only
    rw [cnt_next hn hi']
    exact AS.le_of ⟨rfl, rfl, rfl, rfl, trivial⟩ ⟨by simp [hget, hf1, hf2, hf3, hf4], trivial⟩
  ·clear hK K
   obtain ⟨x, l1, l2, rfl, hx, hvr'⟩ := next_pick hvr hes hkv hks
   cases hx
   have hxl : x ∈ lvl stp (letters.take L) set i := hvr'.mem_iff.1 (by simp)
   have hxA : A x.2 := lvl_all hA0 hA i x hxl
   have hxn : x.1.length = i := lvl_len i x hxl
   refine AW.cseq rfl (fun _ => ?_) (fun hc => by cases hc)
   refine AW.skip ?_
   refine AW.block ?_
   refine AW.rseq (fid := f) (mt := []) [3, 9, 10, 11, 21, 22, 26] rfl fun K hK => ?_
   simp only [go_sem, reduceIte, Nat.reduceEqDiff, Int.reduceLE, hf1, hf2, hf3, hf4, Nat.add_left_cancel_iff]
   refine ⟨_, alook_mem (perm_keys hes hlk) hkv, hK _ ?_⟩
   clear hK K
   refine AW.seq ?_
   refine AW.rseq (fid := f) (mt := []) [3, 9, 10, 11, 21, 22, 26, 33, 34] rfl fun K hK => ?_
   simp only [go_sem, reduceIte, Nat.reduceEqDiff, Int.reduceLE, List.getElem?_cons_zero, Nat.add_zero]
   refine hK _ ?_
   clear hK K
   refine AW.block ?_
   refine AW.loopS (fun p : Nat × List (List UInt8 × HV) => ⟨[(3, .fptr [.int .i64 L, gS, gE] 0), (9, .mp (f * 1000 + 24) nv), (10, .str x.1), (11, ints x.2), (21, .int .i64 n), (22, .int .i64 i), (26, .it (f * 1000 + 26) iv), (33, .int .i64 L), (34, .int .i64 p.1)],
     [(aid, av, .map es), (f * 1000 + 24, nv, .map p.2), (f * 1000 + 26, iv, .iter aid av (x.1 :: vis.map (·.1)) true)]⟩)
    (fun p => p.1 ≤ L ∧ p.2.Perm ((vis.flatMap (ext1 stp (letters.take L)) ++ ext1 stp ((letters.take L).take p.1) x).map ent)) (fun p => L - p.1) (0, es')
    (AS.le_of ⟨rfl, rfl, rfl, rfl, rfl, rfl, rfl, rfl, rfl, trivial⟩ ⟨hget_0, by simp [hget, hf1, hf2, hf3, hf4], by simp [hget, hf1, hf2, hf3, hf4], trivial⟩) ⟨Nat.zero_le _, by simpa [ext1] using hes'⟩ ?_
   rintro ⟨j, es2⟩ ⟨hj, hes2⟩
   dsimp only at hj hes2 ⊢
   refine AW.rseq (fid := f) (mt := []) [3, 9, 10, 11, 21, 22, 26, 33, 34, 35] rfl fun K hK => ?_
   simp only [go_sem, reduceIte, Nat.reduceEqDiff, Int.reduceLE]
   refine hK _ ?_
   clear hK K
   refine AW.cseq rfl (fun hc => ?_) (fun hc => ?_)
   ·have hj' := dec_lt hc
    have hjl : j < letters.length := by show j < 16; omega
    have hjt : j < (letters.take L).length := by rw [List.length_take]; exact Nat.lt_min.2 ⟨hj', hjl⟩
    have hcj : (letters.take L)[j] = letters[j] := List.getElem_take
    have hmem : letters[j] ∈ letters.take L := hcj ▸ List.getElem_mem hjt
    refine AW.skip ?_
    refine AW.seq (AW.block ?_)
    refine AW.rseq (fid := f) (mt := []) [3, 9, 10, 11, 12, 21, 22, 26, 33, 34] rfl fun K hK => ?_
    simp only [go_sem, reduceIte, Nat.reduceEqDiff, Int.reduceLE]
    refine hK _ ?_
    clear hK K
    have hlj : ([48, 49, 50, 51, 52, 53, 54, 55, 56, 57, 97, 98, 99, 100, 101, 102] : List UInt8)[j]? = some letters[j] := List.getElem?_eq_getElem (l := letters) hjl
    refine AW.rseq (fid := f) (mt := []) [3, 9, 10, 11, 13, 21, 22, 26, 33, 34] rfl fun K hK => ?_
    simp only [go_sem, reduceIte, Nat.reduceEqDiff, Int.reduceLE, List.length_nil, List.length_cons, Nat.reduceAdd, Nat.reduceLeDiff, hlj]
    refine ⟨by omega, hK _ ?_⟩
    clear hK K
    refine AW.rseq (fid := f) (mt := []) [3, 9, 10, 11, 13, 14, 21, 22, 26, 33, 34] rfl fun K hK => ?_
    simp only [go_sem, reduceIte, Nat.reduceEqDiff, Int.reduceLE, List.length_nil, List.length_cons, Nat.reduceAdd, Nat.reduceLeDiff, List.drop_zero, List.take_succ_cons, List.take_zero]
    refine (hstep x.2 letters[j] hxA hmem).use fun r hr => ?_
    subst hr
    refine hK _ ?_
    clear hK K
    refine AW.rseq (fid := f) (mt := []) [3, 9, 10, 11, 13, 14, 21, 22, 26, 33, 34, 45] rfl fun K hK => ?_
    simp only [go_sem, ints, reduceIte, Nat.reduceEqDiff, Int.reduceLE]
    refine hK _ ?_
    clear hK K
    have hxk : x.1 ∉ vis.map (·.1) := hks
    have htake := ext1_take (stp := stp) x hjt
    rw [hcj] at htake
    refine AW.cond rfl (fun hc => ?_) (fun hc => ?_)
    ·have hne : stp x.2 letters[j] ≠ [] := by
      intro h0
      rw [h0] at hc
      simp at hc
     rw [if_neg hne] at htake
     have hnew : alook (x.1 ++ [letters[j]]) es2 = none := hcj ▸ key_new (letters_nodup.sublist (List.take_sublist _ _)) hxk hjt hes2
     refine AW.region (fid := f) (mt := []) [3, 9, 10, 11, 21, 22, 26, 33, 34] rfl fun K hK => ?_
     simp only [go_sem, reduceIte, Nat.reduceEqDiff, Int.reduceLE, hf1, hf2, hf3, hf4, Nat.add_left_cancel_iff, utf_letters _ (List.getElem_mem hjl)]
     refine ⟨by simp only [List.length_cons, List.length_nil, maxLen, hxn]; omega, hf3, hK _ ?_⟩
     clear hK K
     refine AW.region (fid := f) (mt := []) [3, 9, 10, 11, 21, 22, 26, 33, 34] rfl fun K hK => ?_
     simp only [go_sem, reduceIte, Nat.reduceEqDiff, Int.reduceLE]
     refine hK _ ?_
     clear hK K
     refine ⟨(j + 1, mput (x.1 ++ [letters[j]]) (ints (stp x.2 letters[j])) es2), ⟨by dsimp only; omega, ?_⟩, by dsimp only; omega, ?_⟩
     ·dsimp only
      rw [mput_new hnew, htake, ← List.append_assoc, List.map_append]
      exact hes2.append (List.Perm.refl _)
     ·dsimp only
      rw [cnt_next (by omega) hj']
      exact AS.le_of ⟨rfl, rfl, rfl, rfl, rfl, rfl, rfl, rfl, rfl, trivial⟩ ⟨hget_0, by simp [hget, hf1, hf2, hf3, hf4, ints], by simp [hget, hf1, hf2, hf3, hf4], trivial⟩
    ·have he : stp x.2 letters[j] = [] := by
      have : ¬ 0 < (stp x.2 letters[j]).length := by simpa using hc
      exact List.eq_nil_of_length_eq_zero (by omega)
     rw [if_pos he, List.append_nil] at htake
     refine AW.skip ?_
     refine AW.region (fid := f) (mt := []) [3, 9, 10, 11, 21, 22, 26, 33, 34] rfl fun K hK => ?_
     simp only [go_sem, reduceIte, Nat.reduceEqDiff, Int.reduceLE]
     refine hK _ ?_
     clear hK K
     refine ⟨(j + 1, es2), ⟨by dsimp only; omega, ?_⟩, by dsimp only; omega, ?_⟩
     ·dsimp only
      rw [htake]
      exact hes2
     ·dsimp only
      rw [cnt_next (by omega) hj']
      exact AS.le_of ⟨rfl, rfl, rfl, rfl, rfl, rfl, rfl, rfl, rfl, trivial⟩ ⟨hget_0, by simp [hget, hf1, hf2, hf3, hf4], by simp [hget, hf1, hf2, hf3, hf4], trivial⟩
   ·have hj2 := cnt_ge hc hj
    subst hj2
    have htk : (letters.take j).take j = letters.take j := by rw [List.take_take, Nat.min_self]
    rw [htk] at hes2
    have hes3 : es2.Perm (((x :: vis).flatMap (ext1 stp (letters.take j))).map ent) := by
     refine hes2.trans (List.Perm.map _ ?_)
     rw [List.flatMap_cons]
     exact List.perm_append_comm
    refine AW.exit ?_
    refine AW.rseq (fid := f) (mt := []) [3, 9, 21, 22, 26, 55] rfl fun K hK => ?_
    simp only [go_sem, reduceIte, Nat.reduceEqDiff, Int.reduceLE, hf1, hf2, hf3, hf4, Nat.add_left_cancel_iff]
    have hle2 : es2.length = ((x :: vis).flatMap (ext1 stp (letters.take j))).length := by rw [hes3.length_eq, List.length_map]
    have htot : ((x :: vis).flatMap (ext1 stp (letters.take j))).length ≤ (lvl stp (letters.take j) set (i + 1)).length := by
     have := (perm_flat (stp := stp) (cs := letters.take j) hvr').length_eq
     rw [List.flatMap_append, List.length_append] at this
     show _ ≤ ((lvl stp (letters.take j) set i).flatMap _).length
     omega
    have hsmall : es2.length ≤ maxLen := by
     have hb : ∀ (y : WS), (ext1 stp (letters.take j) y).length ≤ 16 := fun y => by
      refine Nat.le_trans (List.length_filterMap_le _ _) ?_
      rw [List.length_take]
      exact Nat.le_trans (Nat.min_le_left _ _) hL
     rw [hle2, List.flatMap_cons, List.length_append]
     have := hb x
     simp only [maxLen]
     omega
    refine ⟨hsmall, hK _ ?_⟩
    clear hK K
    refine AW.cond rfl (fun hc => ?_) (fun hc => ?_)
    ·have hbig : 4096 < es2.length := by
      have : (4096 : Int) < es2.length := by simpa using hc
      omega
     refine AW.rseq (fid := 79) (mt := []) [6, 7] rfl fun K hK => ?_
     simp only [go_sem, reduceIte, Nat.reduceEqDiff, Int.reduceLE]
     refine hK _ ?_
     clear hK K
     refine AW.ret ⟨.inr rfl, ?_⟩
     simp only [go_sem, reduceIte, Nat.reduceEqDiff]
     exact ⟨_, [], Conv.drop (fun _ _ h => by cases h), .inr ⟨i + 1, by omega, by omega, by omega, rfl, rfl⟩⟩
    ·have hsm : es2.length ≤ 4096 := by
      have : ¬ (4096 : Int) < es2.length := by simpa using hc
      omega
     refine AW.skip ?_
     refine ⟨(x :: vis, l1 ++ l2, es2, true), ⟨hvr', hes3, by dsimp only; omega⟩, by simp, ?_⟩
     exact AS.le_of ⟨rfl, rfl, rfl, rfl, rfl, trivial⟩ ⟨hget_0, by simp [hget, hf1, hf2, hf3, hf4], by simp [hget, hf1, hf2, hf3, hf4], trivial⟩
 ·have hi2 := cnt_ge hc hi
  subst hi2
  refine AW.exit ?_
  refine AW.rseq (fid := 79) (mt := []) [6, 7] rfl fun K hK => ?_
  simp only [go_sem, reduceIte, Nat.reduceEqDiff, Int.reduceLE]
  refine hK _ ?_
  clear hK K
  refine AW.ret ⟨.inr rfl, ?_⟩
  simp only [go_sem, reduceIte, Nat.reduceEqDiff]
  exact ⟨_, _, Conv.refl _ _, .inl ⟨hsz, _, _, _, rfl, rfl, hes⟩⟩
theorem pick_key {vis rest ks : List (List UInt8)} {k : List UInt8} (hp : (vis ++ rest).Perm ks) (hm : k ∈ ks) (hk : k ∉ vis) : ∃ l1 l2, rest = l1 ++ k :: l2 ∧ ((k :: vis) ++ (l1 ++ l2)).Perm ks := by
 have hx : k ∈ rest := (List.mem_append.1 (hp.mem_iff.2 hm)).resolve_left hk
 obtain ⟨l1, l2, rfl⟩ := List.append_of_mem hx
 refine ⟨l1, l2, rfl, List.Perm.trans ?_ hp⟩
 have e1 : (k :: vis) ++ (l1 ++ l2) = k :: ((vis ++ l1) ++ l2) := by simp
 have e2 : vis ++ (l1 ++ k :: l2) = (vis ++ l1) ++ k :: l2 := by simp
 rw [e1, e2]
 exact List.perm_middle.symm
theorem no_rest {vis rest ks : List (List UInt8)} (hn : ks.Nodup) (hp : (vis ++ rest).Perm ks) (hall : ∀ k ∈ ks, k ∈ vis) : rest = [] := by
 cases rest with
 | nil => rfl
 | cons x rest =>
  have h1 := hp.nodup_iff.2 hn
  have hx : x ∈ vis := hall x (hp.mem_iff.1 (by simp))
  exact absurd rfl ((List.nodup_append.1 h1).2.2 x hx x (List.mem_cons_self ..))
theorem w127 {f mid mver lid lver : Nat} {es : List (List UInt8 × HV)} {H : Heap} {K : HV → Heap → Prop} (hn : (es.map (·.1)).Nodup) (hne : f * 1000 + 5 ≠ mid) (hm : hget H mid = some (mver, .map es)) (J : Nat → List (List UInt8) → Heap → Prop)
  (hJm : ∀ iv vis H, J iv vis H → hget H mid = some (mver, .map es)) (hJi : ∀ iv vis H, J iv vis H → ∃ cur, hget H (f * 1000 + 5) = some (iv, .iter mid mver vis cur))
  (h0 : ∀ iv, J iv [] (hset H (f * 1000 + 5) iv (.iter mid mver [] false)))
  (hstep : ∀ iv vis k H, J iv vis H → k ∈ es.map (·.1) → k ∉ vis → vis.length < es.length → YCall Tryz.prog lid lver [.str k] (hset H (f * 1000 + 5) iv (.iter mid mver (k :: vis) true)) fun r H' => r = .bool true ∧ J iv (k :: vis) H')
  (hdone : ∀ iv vis H, J iv vis H → vis.Perm (es.map (·.1)) → K (.tup []) H) : ACall Tryz.prog 56 [.yl lid lver, .fptr [.mp mid mver] 0] H K := by
 refine ACall.of_body Tryz.func56 rfl rfl (Nat.le_of_ble_eq_true rfl) ?_
 unfold Tryz.f56
 dsimp only [enumS, Nat.reduceAdd]
 refine AW.rseq (fid := f) (mt := []) [0, 5] rfl fun K1 hK1 => ?_
 simp only [go_sem, reduceIte, Nat.reduceEqDiff, Int.reduceLE, List.getElem?_cons_zero, hm]
 refine ⟨hne, fun iv => hK1 _ ?_⟩
 clear hK1 K1
 refine AW.block ?_
 refine AW.loopS (fun p : List (List UInt8) × List (List UInt8) × Heap => ⟨[(0, .yl lid lver), (5, .it (f * 1000 + 5) iv)], p.2.2⟩) (fun p => (p.1 ++ p.2.1).Perm (es.map (·.1)) ∧ J iv p.1 p.2.2) (fun p => p.2.1.length) ([], es.map (·.1), _)
  (AS.le_refl _) ⟨List.Perm.refl _, h0 iv⟩ ?_
 rintro ⟨vis, rest, H1⟩ ⟨hp, hj⟩
 dsimp only at hp hj ⊢
 have hm1 := hJm _ _ _ hj
 obtain ⟨cur, hi1⟩ := hJi _ _ _ hj
 refine AW.rseq (fid := f) (mt := []) [0, 5, 7] rfl fun K1 hK1 => ?_
 simp only [go_sem, reduceIte, Nat.reduceEqDiff, Int.reduceLE, hi1, hm1, List.getElem?_cons_zero]
 refine ⟨fun hall => hK1 _ ?_, fun k v hkv hks => hK1 _ ?_⟩
 ·clear hK1 K1
  have hr := no_rest hn hp fun k hk => by
   obtain ⟨q, hq, rfl⟩ := List.mem_map.1 hk
   exact hall q hq
  subst hr
  rw [List.append_nil] at hp
  refine AW.cseq rfl (fun hc => by cases hc) (fun _ => ?_)
  refine AW.exit ?_
  refine ⟨.inl rfl, ?_⟩
  simp only [go_sem, reduceIte, Nat.reduceEqDiff]
  exact ⟨_, _, Conv.refl _ _, hdone _ _ _ hj hp⟩
 ·clear hK1 K1
  have hk : k ∈ es.map (·.1) := List.mem_map.2 ⟨_, hkv, rfl⟩
  obtain ⟨l1, l2, rfl, hp'⟩ := pick_key hp hk hks
  refine AW.cseq rfl (fun _ => ?_) (fun hc => by cases hc)
  refine AW.skip ?_
  refine AW.block ?_
  refine AW.rseq (fid := f) (mt := []) [0, 3, 5] rfl fun K1 hK1 => ?_
  simp only [go_sem, reduceIte, Nat.reduceEqDiff, Int.reduceLE, hget_hset, hm1, if_neg (Ne.symm hne), List.getElem?_cons_zero]
  refine ⟨v, alook_mem hn hkv, hK1 _ ?_⟩
  clear hK1 K1
  refine AW.rseq (fid := f) (mt := []) [0, 5, 13] rfl fun K1 hK1 => ?_
  simp only [go_sem, reduceIte, Nat.reduceEqDiff, Int.reduceLE]
  refine (hstep iv vis k H1 hj hk hks (by have := hp.length_eq; simp at this; omega)).mono ?_
  rintro r H2 ⟨rfl, hj2⟩
  simp only [go_sem, reduceIte, Nat.reduceEqDiff, Int.reduceLE]
  refine hK1 _ ?_
  clear hK1 K1
  refine AW.cond rfl (fun hc => by cases hc) (fun _ => ?_)
  refine AW.skip ?_
  exact ⟨(k :: vis, l1 ++ l2, H2), ⟨hp', hj2⟩, by simp, ⟨leS_get ⟨rfl, rfl, trivial⟩, fun _ _ h => h⟩⟩
theorem AW.rangeFuncL {P : Program} {N : Nat} {s : AS} {Q : Exit → AS → Prop} {g : Operand} {ps : Array Tmp} {assign body : Code} {f : FuncId} {fs cs : List HV} (id : Nat) (hg : s.ev g = some (.fn (.func f) fs cs))
  (h : ∀ fn ver (L : LoopState → Option Code → AObj), (∀ st pend, L st pend = .loop st pend fn N s.slots ps assign body) → ACall P f (fs ++ [.yl id ver] ++ cs) (hset s.heap id ver (L .ready none)) fun _ H' =>
   ∃ st pend, hget H' id = some (ver, L st pend) ∧ st ≠ .busy ∧ match pend with
    | none => Q .normal { s with heap := hset H' id ver (L .exhausted none) }
    | some c => AW P none N c Q { s with heap := hset H' id ver (L .exhausted (some c)) }) :
  AW P none N (.rangeFunc g ps assign body) Q s :=
 AW.rangeFunc id hg fun fn ver => h fn ver (fun st pend => .loop st pend fn N s.slots ps assign body) fun _ _ => rfl
set_option maxHeartbeats 1000000 in
theorem w160 {f mid mver : Nat} {es : List (List UInt8 × HV)} (hn : (es.map (·.1)).Nodup) (hbig : es.length ≤ 1099511627776) (h2 : f * 1000 + 2 ≠ mid) (h5 : f * 1000 + 5 ≠ mid) (h11 : f * 1000 + 11 ≠ mid) (h9 : f * 1000 + 900 ≠ mid) :
  ACall Tryz.prog 80 [.v (.slice none 0 0), .fn (.func 56) [] [.fptr [.mp mid mver] 0]] [(mid, mver, .map es)] fun r H' => ∃ l, l.Perm (es.map (·.1)) ∧ ((l = [] ∧ r = .v (.slice none 0 0) ∧ H' = []) ∨
   ∃ id av, l ≠ [] ∧ r = .ar id av 1 0 l.length ∧ H' = [(id, av, .arr 1 9 (l.map .str))]) := by
 refine ACall.of_body Tryz.func80 rfl rfl (Nat.le_of_ble_eq_true rfl) ?_
 unfold Tryz.f80
 dsimp only [enumS, Nat.reduceAdd]
 refine AW.rseq (fid := f) (mt := [2]) [1, 2] rfl fun K hK => ?_
 simp only [go_sem, reduceIte, Nat.reduceEqDiff, Int.reduceLE, h2]
 intro bv
 refine hK _ ?_
 clear hK K
 refine AW.seq ?_
 refine AW.rseq (fid := f) (mt := [2]) [2, 6] rfl fun K hK => ?_
 simp only [go_sem, reduceIte, Nat.reduceEqDiff, Int.reduceLE]
 refine hK _ ?_
 clear hK K
 refine AW.block ?_
 have n95 : f * 1000 + 900 ≠ f * 1000 + 5 := by simp
 have n92 : f * 1000 + 900 ≠ f * 1000 + 2 := by simp
 have n911 : f * 1000 + 900 ≠ f * 1000 + 11 := by simp
 have n52 : f * 1000 + 5 ≠ f * 1000 + 2 := by simp
 have n511 : f * 1000 + 5 ≠ f * 1000 + 11 := by simp
 have n112 : f * 1000 + 11 ≠ f * 1000 + 2 := by simp
 refine AW.rangeFuncL (f * 1000 + 900) rfl fun fn lver L hL => ?_
 dsimp only [List.length_cons, List.length_nil, Nat.reduceAdd] at hL ⊢
 refine w127 (f := f) hn h5 (by rw [hget_hset, if_neg (Ne.symm h9)]; exact hget_0) (fun iv vis H => hget H mid = some (mver, .map es) ∧ (∃ cur, hget H (f * 1000 + 5) = some (iv, .iter mid mver vis cur)) ∧
  hget H (f * 1000 + 900) = some (lver, L .ready none) ∧
  ((vis = [] ∧ hget H (f * 1000 + 2) = some (bv, .arr 1 27 [.v (.slice none 0 0)])) ∨
   ∃ av, vis ≠ [] ∧ hget H (f * 1000 + 2) = some (bv, .arr 1 27 [.ar (f * 1000 + 11) av 1 0 vis.length]) ∧ hget H (f * 1000 + 11) = some (av, .arr 1 9 (vis.reverse.map .str)))) (fun _ _ _ h => h.1) (fun _ _ _ h => h.2.1) (fun iv => ?_) ?_ ?_
 ·simp [hget_hset, hget, hset, h2, h5, h9, h11, Ne.symm h2, Ne.symm h5, Ne.symm h9, Ne.symm h11]
 ·rintro iv vis k H1 ⟨hm, ⟨cur, hi⟩, hlp, hac⟩ hk hks hlt
  rw [hL] at hlp
  refine ⟨_, _, _, _, _, _, (by rw [hget_hset, if_neg n95]; exact hlp), rfl, by simp, fun l => ?_⟩
  dsimp only [setPs]
  refine AW.region (fid := f) (mt := [2]) [2, 5] rfl fun K hK => ?_
  simp only [go_sem, reduceIte, Nat.reduceEqDiff, Int.reduceLE]
  refine hK _ ?_
  clear hK K
  refine ⟨rfl, by rw [hget_hset, if_neg n95]; exact hlp, ?_⟩
  refine AW.block ?_
  have fin : ∀ (av : Nat) (H2 : Heap) (o : AObj), o = L .ready none → hget H2 mid = some (mver, .map es) → hget H2 (f * 1000 + 5) = some (iv, .iter mid mver (k :: vis) true) →
    hget H2 (f * 1000 + 2) = some (bv, .arr 1 27 [.ar (f * 1000 + 11) av 1 0 (vis.length + 1)]) → hget H2 (f * 1000 + 11) = some (av, .arr 1 9 ((k :: vis).reverse.map .str)) →
    HV.bool true = .bool true ∧ hget (hset H2 (f * 1000 + 900) lver o) mid = some (mver, .map es) ∧ (∃ cur, hget (hset H2 (f * 1000 + 900) lver o) (f * 1000 + 5) = some (iv, .iter mid mver (k :: vis) cur)) ∧
  hget (hset H2 (f * 1000 + 900) lver o) (f * 1000 + 900) = some (lver, L .ready none) ∧
  ((k :: vis = [] ∧ hget (hset H2 (f * 1000 + 900) lver o) (f * 1000 + 2) = some (bv, .arr 1 27 [.v (.slice none 0 0)])) ∨
   ∃ av, k :: vis ≠ [] ∧ hget (hset H2 (f * 1000 + 900) lver o) (f * 1000 + 2) = some (bv, .arr 1 27 [.ar (f * 1000 + 11) av 1 0 (k :: vis).length]) ∧ hget (hset H2 (f * 1000 + 900) lver o) (f * 1000 + 11) = some (av, .arr 1 9 ((k :: vis).reverse.map .str))) := by
   intro av H2 o ho g1 g2 g4 g5
   refine ⟨rfl, ?_, ⟨true, ?_⟩, ?_, .inr ⟨av, by simp, ?_, ?_⟩⟩
   ·rw [hget_hset, if_neg (Ne.symm h9)]; exact g1
   ·rw [hget_hset, if_neg (Ne.symm n95)]; exact g2
   ·rw [hget_hset, if_pos rfl, ho]
   ·rw [hget_hset, if_neg (Ne.symm n92)]; exact g4
   ·rw [hget_hset, if_neg (Ne.symm n911)]; exact g5
  have hm2 : maxLen = 9223372036854775807 := rfl
  rcases hac with ⟨rfl, hb⟩ | ⟨av, _, hb, ha⟩
  ·refine AW.region (fid := f) (mt := [2]) [2, 5] rfl fun K hK => ?_
   simp only [go_sem, reduceIte, Nat.reduceEqDiff, Int.reduceLE, hget_hset, Nat.add_left_cancel_iff, hb, List.getElem?_cons_zero, Nat.add_zero, List.length_nil, List.length_cons, Nat.zero_le, HV.one, zrep, List.replicate_succ, List.replicate_zero, List.flatten_cons, List.flatten_nil,
    List.set_cons_zero, Option.any_some, Nat.reduceAdd, Nat.reduceMul, Nat.reduceLeDiff, Nat.reduceBEq, Bool.or_false, BEq.rfl, List.take_succ_cons, List.take_zero, List.drop_zero]
   refine ⟨by simp [maxLen], fun av' => hK _ ?_⟩
   clear hK K
   refine ⟨?_, fin av' _ _ (hL _ _).symm ?_ ?_ ?_ ?_⟩
   ·rw [hget_hset, if_neg n92, hget_hset, if_neg n911, hget_hset, if_pos rfl]
   ·rw [hget_hset, if_neg (Ne.symm h2), hget_hset, if_neg (Ne.symm h11), hget_hset, if_neg (Ne.symm h9), hget_hset, if_neg (Ne.symm h5)]; exact hm
   ·rw [hget_hset, if_neg n52, hget_hset, if_neg n511, hget_hset, if_neg (Ne.symm n95), hget_hset, if_pos rfl]
   ·rw [hget_hset, if_pos rfl]; rfl
   ·rw [hget_hset, if_neg n112, hget_hset, if_pos rfl]; simp
  ·refine AW.region (fid := f) (mt := [2]) [2, 5] rfl fun K hK => ?_
   simp only [go_sem, reduceIte, Nat.reduceEqDiff, Int.reduceLE, hget_hset, Nat.add_left_cancel_iff, hb, ha, List.getElem?_cons_zero, Nat.add_zero, List.length_nil, List.length_cons, Nat.zero_le, HV.one, zrep, List.replicate_succ, List.replicate_zero, List.flatten_cons, List.flatten_nil,
    List.set_cons_zero, Option.any_some, Nat.reduceAdd, Nat.reduceMul, Nat.reduceLeDiff, Nat.reduceBEq, Bool.or_false, BEq.rfl, List.take_succ_cons, List.take_zero, List.drop_zero]
   have hb1 : (vis.length + 1) * 16 ≤ 140737488355328 := by clear fin hL hlp; omega
   have hb2 : vis.length + 1 ≤ maxLen := by clear fin hL hlp; omega
   refine ⟨by simp, hb1, hb2, fun av' => hK _ ?_⟩
   clear hK K
   refine ⟨?_, fin av' _ _ (hL _ _).symm ?_ ?_ ?_ ?_⟩
   ·rw [hget_hset, if_neg n92, hget_hset, if_neg n911, hget_hset, if_pos rfl]
   ·rw [hget_hset, if_neg (Ne.symm h2), hget_hset, if_neg (Ne.symm h11), hget_hset, if_neg (Ne.symm h9), hget_hset, if_neg (Ne.symm h5)]; exact hm
   ·rw [hget_hset, if_neg n52, hget_hset, if_neg n511, hget_hset, if_neg (Ne.symm n95), hget_hset, if_pos rfl]
   ·rw [hget_hset, if_pos rfl]
   ·rw [hget_hset, if_neg n112, hget_hset, if_pos rfl, List.take_of_length_le (by simp)]; simp
 ·rintro iv vis H1 ⟨hm, _, hlp, ⟨hv0, hb⟩ | ⟨av, hvn, hb, ha⟩⟩ hp
  ·refine ⟨.ready, none, hlp, by simp, ?_⟩
   dsimp only [blockQ, thenQ]
   clear hL
   refine AW.rseq (fid := f) (mt := [2]) [4] rfl fun K hK => ?_
   simp only [go_sem, reduceIte, Nat.reduceEqDiff, Int.reduceLE, hget_hset, Nat.add_left_cancel_iff, hb, List.getElem?_cons_zero]
   refine hK _ ?_
   clear hK K
   refine AW.ret ⟨.inr rfl, ?_⟩
   simp only [go_sem, reduceIte, Nat.reduceEqDiff]
   exact ⟨_, [], Conv.drop (fun _ _ h => by cases h), [], hv0 ▸ hp, .inl ⟨rfl, rfl, rfl⟩⟩
  ·refine ⟨.ready, none, hlp, by simp, ?_⟩
   dsimp only [blockQ, thenQ]
   clear hL
   refine AW.rseq (fid := f) (mt := [2]) [4] rfl fun K hK => ?_
   simp only [go_sem, reduceIte, Nat.reduceEqDiff, Int.reduceLE, hget_hset, Nat.add_left_cancel_iff, hb, List.getElem?_cons_zero]
   refine hK _ ?_
   clear hK K
   refine AW.ret ⟨.inr rfl, ?_⟩
   simp only [go_sem, reduceIte, Nat.reduceEqDiff]
   refine ⟨_, [(f * 1000 + 11, av, .arr 1 9 (vis.reverse.map .str))], Conv.drop (leH_get ⟨?_, trivial⟩), vis.reverse, (List.reverse_perm vis).trans hp, .inr ⟨_, av, by simpa using hvn, by rw [List.length_reverse], rfl⟩⟩
   rw [hget_hset, if_neg (Ne.symm n911)]; exact ha
def nilS : HV := .v (.slice none 0 0)
theorem w126 {f mid mver : Nat} {es : List (List UInt8 × HV)} (hn : (es.map (·.1)).Nodup) (hbig : es.length ≤ 1099511627776) (h2 : f * 1000 + 2 ≠ mid) (h5 : f * 1000 + 5 ≠ mid) (h11 : f * 1000 + 11 ≠ mid) (h9 : f * 1000 + 900 ≠ mid) :
  ACall Tryz.prog 54 [.fn (.func 56) [] [.fptr [.mp mid mver] 0]] [(mid, mver, .map es)] fun r H' => ∃ l, l.Perm (es.map (·.1)) ∧ ((l = [] ∧ r = .v (.slice none 0 0) ∧ H' = []) ∨
   ∃ id av, l ≠ [] ∧ r = .ar id av 1 0 l.length ∧ H' = [(id, av, .arr 1 9 (l.map .str))]) := by
 refine ACall.of_body Tryz.func54 rfl rfl (Nat.le_of_ble_eq_true rfl) ?_
 unfold Tryz.f54
 dsimp only [enumS, Nat.reduceAdd]
 refine AW.rseq (fid := f) (mt := []) [0] rfl fun K hK => ?_
 simp only [go_sem, reduceIte, Nat.reduceEqDiff, Int.reduceLE]
 refine hK _ ?_
 clear hK K
 refine AW.rseq (fid := f) (mt := []) [2] rfl fun K hK => ?_
 simp only [go_sem, reduceIte, Nat.reduceEqDiff, Int.reduceLE]
 refine (w160 hn hbig h2 h5 h11 h9).mono ?_
 rintro r H' hr
 refine hK _ ?_
 clear hK K
 refine AW.ret ⟨.inr rfl, ?_⟩
 simp only [go_sem, reduceIte, Nat.reduceEqDiff]
 exact ⟨_, _, Conv.refl _ _, hr⟩
theorem w81 {f mid mver : Nat} {es : List (List UInt8 × HV)} (hn : (es.map (·.1)).Nodup) (hbig : es.length ≤ 1099511627776) (h2 : f * 1000 + 2 ≠ mid) (h5 : f * 1000 + 5 ≠ mid) (h11 : f * 1000 + 11 ≠ mid) (h9 : f * 1000 + 900 ≠ mid) :
  ACall Tryz.prog 35 [.fn (.func 56) [] [.fptr [.mp mid mver] 0]] [(mid, mver, .map es)] fun r H' => (es = [] ∧ r = nilS ∧ H' = []) ∨
   ∃ id av, es ≠ [] ∧ r = .ar id av 1 0 es.length ∧ H' = [(id, av, .arr 1 9 ((sortS (es.map (·.1))).map .str))] := by
 refine ACall.of_body Tryz.func35 rfl rfl (Nat.le_of_ble_eq_true rfl) ?_
 unfold Tryz.f35
 dsimp only [enumS, Nat.reduceAdd]
 refine AW.rseq (fid := f) (mt := []) [0] rfl fun K hK => ?_
 simp only [go_sem, reduceIte, Nat.reduceEqDiff, Int.reduceLE]
 refine hK _ ?_
 clear hK K
 refine AW.rseq (fid := f) (mt := []) [3] rfl fun K hK => ?_
 simp only [go_sem, reduceIte, Nat.reduceEqDiff, Int.reduceLE]
 refine (w126 hn hbig h2 h5 h11 h9).mono ?_
 rintro r H' ⟨l, hp, ⟨rfl, rfl, rfl⟩ | ⟨id, av, hln, rfl, rfl⟩⟩
 ·refine hK _ ?_
  clear hK K
  have he : es = [] := by
   have := hp.length_eq
   simp only [List.length_nil, List.length_map] at this
   exact List.eq_nil_of_length_eq_zero this.symm
  refine AW.rseq (fid := f) (mt := []) [3] rfl fun K hK => ?_
  simp only [go_sem, reduceIte, Nat.reduceEqDiff, Int.reduceLE]
  refine w45n ?_
  refine hK _ ?_
  clear hK K
  refine AW.rseq (fid := f) (mt := []) [2] rfl fun K hK => ?_
  simp only [go_sem, reduceIte, Nat.reduceEqDiff, Int.reduceLE]
  refine hK _ ?_
  clear hK K
  refine AW.ret ⟨.inr rfl, ?_⟩
  simp only [go_sem, reduceIte, Nat.reduceEqDiff]
  exact ⟨_, _, Conv.refl _ _, .inl ⟨he, rfl, rfl⟩⟩
 ·refine hK _ ?_
  clear hK K
  have hlen := hp.length_eq
  rw [List.length_map] at hlen
  refine AW.rseq (fid := f) (mt := []) [3] rfl fun K hK => ?_
  simp only [go_sem, reduceIte, Nat.reduceEqDiff, Int.reduceLE]
  refine w45 hget_0 (by omega) ?_
  simp only [go_sem, reduceIte, Nat.reduceEqDiff, Int.reduceLE]
  refine hK _ ?_
  clear hK K
  refine AW.rseq (fid := f) (mt := []) [2] rfl fun K hK => ?_
  simp only [go_sem, reduceIte, Nat.reduceEqDiff, Int.reduceLE]
  refine hK _ ?_
  clear hK K
  refine AW.ret ⟨.inr rfl, ?_⟩
  simp only [go_sem, reduceIte, Nat.reduceEqDiff]
  exact ⟨_, _, Conv.refl _ _, .inr ⟨id, av, by rintro rfl; exact hln (List.eq_nil_of_length_eq_zero hlen), by rw [hlen], by rw [sortS_perm hp]⟩⟩
theorem w82 {id ver : Nat} {H : Heap} {K : HV → Heap → Prop} (hK : K (.fn (.func 56) [] [.fptr [.mp id ver] 0]) H) : ACall Tryz.prog 36 [.mp id ver] H K := by
 refine ACall.of_body Tryz.func36 rfl rfl (Nat.le_of_ble_eq_true rfl) ?_
 unfold Tryz.f36
 dsimp only [enumS, Nat.reduceAdd]
 refine AW.rseq (fid := 82) (mt := []) [1] rfl fun K1 hK1 => ?_
 simp only [go_sem, reduceIte, Nat.reduceEqDiff, Int.reduceLE, HV.one]
 refine hK1 _ ?_
 clear hK1 K1
 refine AW.rseq (fid := 82) (mt := []) [2] rfl fun K1 hK1 => ?_
 simp only [go_sem, reduceIte, Nat.reduceEqDiff, Int.reduceLE]
 refine hK1 _ ?_
 clear hK1 K1
 refine AW.ret ⟨.inr rfl, ?_⟩
 simp only [go_sem, reduceIte, Nat.reduceEqDiff]
 exact ⟨_, _, Conv.refl _ _, hK⟩
end Go.AW
namespace Go.AW
open Go
noncomputable def stpM (g : TLabelsStatesEdges) (a : List Int) (c : UInt8) : List Int := (m_language_step g a (c.toNat : Int)).getD []
def StepsOk (g : TLabelsStatesEdges) (set : List Int) : Prop := ∃ A : List Int → Prop, A set ∧ ∀ a c, A a → c ∈ letters.take g.1.toNat → ∃ b, m_language_step g a (c.toNat : Int) = some b ∧ A b
open Classical in
noncomputable def m_language_list (g : TLabelsStatesEdges) (set : List Int) (n : Int) : Option (List WS × Bool) :=
 if 0 ≤ g.1 ∧ g.1 ≤ 16 ∧ 0 ≤ n ∧ StepsOk g set then
  some (if okLvl (stpM g) (letters.take g.1.toNat) set n.toNat = true then (lvl (stpM g) (letters.take g.1.toNat) set n.toNat, true) else ([], false))
 else none
noncomputable def m_language_Words (p0 : TLabelsStatesEdges) (p1 : Int) : Option ((List (List UInt8)) × Int) :=
 (m_language_lengths p0 p1).bind fun x1 =>
 if x1 ≠ 0 then
  some ([], x1)
 else
  (m_language_states p0).bind fun x3 =>
  (m_language_list p0 x3 p1).bind fun x5 =>
  if x5.2 = true then
   some (sortS ((x5.1).map Prod.fst), 0)
  else
   some ([], 4)
end Go.AW
namespace Go.AW
open Go Go.Proofs
theorem fo24_0 : fieldOf Tryz.prog 24 0 = some (0, { desc := TypeDesc.int IntKind.i64, size := 1, bytes := 8, zero := Value.int IntKind.i64 (0) }) := by kernel_rfl
theorem fo24_1 : fieldOf Tryz.prog 24 1 = some (1, { desc := TypeDesc.int IntKind.i64, size := 1, bytes := 8, zero := Value.int IntKind.i64 (0) }) := by kernel_rfl
theorem fo24_2 : fieldOf Tryz.prog 24 2 = some (2, { desc := TypeDesc.slice 44, size := 1, bytes := 24, zero := Value.slice none 0 0 }) := by kernel_rfl
theorem fo44_0 : fieldOf Tryz.prog 44 0 = some (0, { desc := TypeDesc.int IntKind.i64, size := 1, bytes := 8, zero := Value.int IntKind.i64 (0) }) := by kernel_rfl
theorem fo44_1 : fieldOf Tryz.prog 44 1 = some (1, { desc := TypeDesc.int IntKind.i64, size := 1, bytes := 8, zero := Value.int IntKind.i64 (0) }) := by kernel_rfl
theorem fo44_2 : fieldOf Tryz.prog 44 2 = some (2, { desc := TypeDesc.int IntKind.i64, size := 1, bytes := 8, zero := Value.int IntKind.i64 (0) }) := by kernel_rfl
theorem fo81_0 : fieldOf Tryz.prog 81 0 = some (0, { desc := TypeDesc.int IntKind.i64, size := 1, bytes := 8, zero := Value.int IntKind.i64 (0) }) := by kernel_rfl
theorem fo81_1 : fieldOf Tryz.prog 81 1 = some (1, { desc := TypeDesc.int IntKind.i64, size := 1, bytes := 8, zero := Value.int IntKind.i64 (0) }) := by kernel_rfl
theorem fo81_2 : fieldOf Tryz.prog 81 2 = some (2, { desc := TypeDesc.bool, size := 1, bytes := 1, zero := Value.bool false }) := by kernel_rfl
theorem fo81_3 : fieldOf Tryz.prog 81 3 = some (3, { desc := TypeDesc.int IntKind.i64, size := 1, bytes := 8, zero := Value.int IntKind.i64 (0) }) := by kernel_rfl
theorem fo86_1 : fieldOf Tryz.prog 86 1 = some (1, { desc := TypeDesc.slice 5, size := 1, bytes := 24, zero := Value.slice none 0 0 }) := by kernel_rfl
theorem fo91_1 : fieldOf Tryz.prog 91 1 = some (3, { desc := TypeDesc.string, size := 1, bytes := 16, zero := Value.string { data := #[] } }) := by kernel_rfl
theorem fo91_2 : fieldOf Tryz.prog 91 2 = some (4, { desc := TypeDesc.slice 121, size := 1, bytes := 24, zero := Value.slice none 0 0 }) := by kernel_rfl
theorem fo91_3 : fieldOf Tryz.prog 91 3 = some (5, { desc := TypeDesc.slice 22, size := 1, bytes := 24, zero := Value.slice none 0 0 }) := by kernel_rfl
theorem fo91_4 : fieldOf Tryz.prog 91 4 = some (6, { desc := TypeDesc.map 81 4, size := 1, bytes := 8, zero := Value.map none }) := by kernel_rfl
theorem fo135_0 : fieldOf Tryz.prog 135 0 = some (0, { desc := TypeDesc.string, size := 1, bytes := 16, zero := Value.string { data := #[] } }) := by kernel_rfl
theorem fo135_1 : fieldOf Tryz.prog 135 1 = some (1, { desc := TypeDesc.slice 3, size := 1, bytes := 24, zero := Value.slice none 0 0 }) := by kernel_rfl
theorem es22 : elemSize Tryz.prog 22 = some 3 := by kernel_rfl
theorem es27 : elemSize Tryz.prog 27 = some 1 := by kernel_rfl
theorem es55 : elemSize Tryz.prog 55 = some 1 := by kernel_rfl
theorem es79 : elemSize Tryz.prog 79 = some 4 := by kernel_rfl
theorem es84 : elemSize Tryz.prog 84 = some 1 := by kernel_rfl
theorem es88 : elemSize Tryz.prog 88 = some 16 := by kernel_rfl
theorem es89 : elemSize Tryz.prog 89 = some 1 := by kernel_rfl
theorem es101 : elemSize Tryz.prog 101 = some 1 := by kernel_rfl
theorem es103 : elemSize Tryz.prog 103 = some 1 := by kernel_rfl
theorem es104 : elemSize Tryz.prog 104 = some 2 := by kernel_rfl
theorem es121 : elemSize Tryz.prog 121 = some 1 := by kernel_rfl
theorem es130 : elemSize Tryz.prog 130 = some 1 := by kernel_rfl
end Go.AW
namespace Go.AW
open Go Go.Proofs Go.Sort Go.Lib
theorem put_world {α : Type} [Inhabited α] {enc : α → Value} {f : α → HV} (hf1 : ∀ x, (f x).one = true) {w : World} {μ : Mu} {H : Heap} {id ver b k : Nat} {e : TypeId} {l d : List α} (hs : SR w μ H) (hg : hget H id = some (ver, .arr k e (l.map f)))
  (hl : μ.loc id = some (ver, some b)) (hrep : ∀ x ∈ d, Rep w μ (f x) (enc x)) (hor : OR w μ (.arr k e (l.map f)) (some b)) (hv : ∀ vs, RepL w μ (l.map f) vs → vs = l.map enc) (hlen : d.length = l.length) (n : Nat) :
  SR (putRow enc (Sort.ahead w n) b 0 d.toArray) μ (hset H id ver (.arr k e (d.map f))) ∧ Evo w μ (putRow enc (Sort.ahead w n) b 0 d.toArray) μ := by
 obtain ⟨h0, cur, vs, rest, hrow, hcl, hrl⟩ := hor
 have hvs := hv vs hrl
 subst hvs
 have hcsz : cur.size = l.length + rest.length := by rw [← Array.length_toList, hcl]; simp
 obtain ⟨lo, hi, hbk, hfr⟩ := hrow
 have hbk' : (putRow enc (Sort.ahead w n) b 0 d.toArray).heap[b]? = some (.cells (putCells enc 0 d.toArray cur) e (lo, hi)) := by
  show (w.heap.modify b _)[b]? = _
  rw [Array.getElem?_modify, if_pos rfl, hbk]
  rfl
 have hcur' : (putCells enc 0 d.toArray cur).toList = d.map enc ++ rest := by
  apply List.ext_getElem?
  intro i
  rw [Array.getElem?_toList]
  simp only [putCells, Array.getElem?_mapIdx]
  have hc : cur[i]? = (l.map enc ++ rest)[i]? := by rw [← hcl, Array.getElem?_toList]
  rw [hc]
  rcases Nat.lt_or_ge i d.length with hi | hi
  ·rw [List.getElem?_append_left (by simp; omega), List.getElem?_append_left (by simpa using hi), List.getElem?_map, List.getElem?_map, List.getElem?_eq_getElem (by omega : i < l.length), List.getElem?_eq_getElem hi]
   simp only [Option.map_some]
   rw [if_pos ⟨Nat.zero_le _, by simpa using hi⟩]
   simp [hi]
  ·rw [List.getElem?_append_right (by simp; omega), List.getElem?_append_right (by simpa using hi)]
   simp only [List.length_map, hlen]
   cases rest[i - l.length]? with
   | none => rfl
   | some x =>
    simp only [Option.map_some]
    rw [if_neg (by simp; omega)]
 have hsz1 : (putRow enc (Sort.ahead w n) b 0 d.toArray).heap.size = w.heap.size := by rw [size_putRow]; rfl
 have hrow1 : Row (putRow enc (Sort.ahead w n) b 0 d.toArray) b (putCells enc 0 d.toArray cur) e := ⟨lo, hi, hbk', by simpa [putCells] using hfr⟩
 have hold : ∀ b', b' ≠ b → (putRow enc (Sort.ahead w n) b 0 d.toArray).heap[b']? = w.heap[b']? := fun b' hne => by
  show (w.heap.modify b _)[b']? = _
  rw [Array.getElem?_modify, if_neg (fun e => hne e.symm)]
 exact hs.updArr (cs' := d.map f) (w' := putRow enc (Sort.ahead w n) b 0 d.toArray) hg hl ⟨rfl, rfl, rfl⟩ hsz1 hold ⟨lo, hi, hbk, hfr⟩ hrow1 (by simp [putCells]) fun E => by
  refine ⟨fun c hc => ?_, _, d.map enc, rest, hrow1, hcur', repL_map.2 fun x hx => Rep.evo E hs.ok _ _ (hrep x hx)⟩
  obtain ⟨x, _, rfl⟩ := List.mem_map.1 hc
  exact hf1 x
end Go.AW
namespace Go.Proofs
open Go
set_option maxHeartbeats 1000000 in
set_option maxRecDepth 100000 in
theorem Tryz.stringslite_IndexByte (s : ByteArray) (c : Int) (w : World) :
  Calls Tryz.prog 74 #[.string s, .int .u8 c] w fun e w' => e = .returned (.int .i64 (Lib.indexByte s.data.toList c.toNat.toUInt8)) ∧ w' = w := by
 go_enter Tryz.func74, Tryz.ntmps74
 go_wp2
 rw [run_callFunc_extern Tryz.func97 (by kernel_rfl) (by kernel_rfl) (by kernel_rfl) (e := Extern.BytealgIndexByte.indexByte) (by kernel_rfl), Lib.run_indexByteString]
 simp only [Result.andThen]
 rw [Oper.upon_value]
 go_wp2
 go_ret
 exact ⟨rfl, rfl⟩
set_option maxHeartbeats 1000000 in
theorem Tryz.strings_IndexByte (s : ByteArray) (c : Int) (w : World) :
  Calls Tryz.prog 48 #[.string s, .int .u8 c] w fun e w' => e = .returned (.int .i64 (Lib.indexByte s.data.toList c.toNat.toUInt8)) ∧ w' = w := by
 go_enter Tryz.func48, Tryz.ntmps48
 go_wp2_with (go_at_call 74; refine (Tryz.stringslite_IndexByte _ _ _).mono ?_; rintro e w' ⟨rfl, rfl⟩)
 go_ret
 exact ⟨rfl, rfl⟩
end Go.Proofs
namespace Go.AW
open Go Go.Proofs
theorem idx_wf (l : List UInt8) (c : UInt8) (hl : l.length ≤ maxLen) : (Lit.int .i64 (Lib.indexByte l c)).wf = true := by
 have h : ∀ l : List UInt8, -1 ≤ Lib.indexByte l c ∧ Lib.indexByte l c ≤ l.length := by
  intro l
  induction l with
  | nil => simp [Lib.indexByte]
  | cons a l ih =>
   simp only [Lib.indexByte, List.length_cons]
   split
   ·omega
   ·split
    ·omega
    ·omega
 have := h l
 simp only [maxLen] at hl
 simp only [Lit.wf, IntKind.min, IntKind.max, IntKind.signed, IntKind.bits, Bool.and_eq_true, decide_eq_true_eq]
 simp
 omega
theorem w51 (l : List UInt8) (c : Int) : Pure Tryz.prog 48 [.str l, .int .u8 c] (· = .int .i64 (Lib.indexByte l c.toNat.toUInt8)) := by
 refine ⟨enters' Tryz.func48 rfl rfl, fun μ w vs hs hr _ => ?_⟩
 obtain ⟨x, xs, rfl, ⟨rfl, hl⟩, y, ys, rfl, ⟨rfl, _⟩, hn⟩ := hr
 cases hn
 refine (Tryz.strings_IndexByte ⟨l.toArray⟩ c w).mono ?_
 rintro e w' ⟨rfl, rfl⟩
 exact ⟨_, _, [], μ, rfl, ⟨rfl, trivial, rfl⟩, hs, ⟨by simp, idx_wf l _ hl⟩, Evo.refl _ _⟩
end Go.AW
namespace Go.Proofs
open Go
def Tryz.compI_ren : Go.Shelf.Ren := ⟨fun | 20 => 103 | n => n, fun | 22 => 55 | 3 => 3 | 4 => 4 | 0 => 0 | n => n, fun | n => n⟩
theorem Tryz.compI : Go.Proofs.Lays2.n20 Tryz.prog Tryz.compI_ren where
 mixed := by kernel_rfl
 f20 := Tryz.func103.trans (congrArg some (by kernel_rfl))
 t0 := Tryz.underlying0
 a0 := Tryz.isAgg0
 z0 := Tryz.sizeOf0
 v0 := Tryz.zeroValue0
 t3 := Tryz.underlying3
 a3 := Tryz.isAgg3
 z3 := Tryz.sizeOf3
 v3 := Tryz.zeroValue3
 t4 := Tryz.underlying4
 a4 := Tryz.isAgg4
 z4 := Tryz.sizeOf4
 v4 := Tryz.zeroValue4
 t22 := Tryz.underlying55
 a22 := Tryz.isAgg55
 z22 := Tryz.sizeOf55
 v22 := Tryz.zeroValue55
 i3 := by kernel_rfl
end Go.Proofs
namespace Go.AW
open Go Go.Proofs Go.Sort Go.Lib
set_option linter.unusedVariables false
theorem c_sortI : SortsI Tryz.prog 102 := sorts179
theorem w180 {H : Heap} {id ver : Nat} {e : TypeId} {l : List Int} {K : HV → Heap → Prop} (hg : hget H id = some (ver, .arr 1 e (l.map (.int .i64))))
  (hK : K (.ar id ver 1 0 (compact_ l).length) (hset H id ver (.arr 1 e ((compact_ l ++ List.replicate (l.length - (compact_ l).length) 0).map (.int .i64))))) : ACall Tryz.prog 103 [.ar id ver 1 0 l.length] H K := by
 refine ⟨enters' Tryz.func103 rfl rfl, fun μ w vs hs hr _ => ?_⟩
 obtain ⟨x, xs, rfl, hr, hn⟩ := hr
 cases hn
 obtain ⟨lo, hl, hor⟩ := hs.has _ _ _ hg
 rcases hr with ⟨lo', hl', h⟩ | ⟨hd, _⟩
 ·rw [hl] at hl'
  cases hl'
  rcases h with ⟨rfl, rfl, h0, _⟩ | ⟨b, cap, cur, e', rfl, rfl, hcap, hcm, hrow, hsz⟩
  ·have hl0 := List.eq_nil_of_length_eq_zero h0
   subst hl0
   refine (Any.slices_Compact_int_empty Tryz.compI none 0 w).mono ?_
   rintro e2 w' ⟨rfl, rfl⟩
   refine ⟨_, .ar id ver 1 0 0, _, μ, rfl, hK, hs.reobj hg fun l hl hor => hor, .inl ⟨none, hl, .inl ⟨rfl, rfl, rfl, rfl⟩⟩, Evo.refl _ _⟩
  ·have hor' := hor
   obtain ⟨h0, cur', vs', rest, hrow', hcl, hrl⟩ := hor
   obtain ⟨hvs, hreps⟩ := repL_ints hrl
   subst hvs
   refine (Any.slices_Compact_int Tryz.compI b 0 cap l w (holds_row hrow' hcl) (by have := hcm; simp only [maxLen] at this; omega) hcap).mono ?_
   ·rintro e2 w' ⟨rfl, n, rfl⟩
    have hle := compact_le l
    have hlen : (compact_ l ++ List.replicate (l.length - (compact_ l).length) (0 : Int)).length = l.length := by simp; omega
    obtain ⟨h1, h2⟩ := put_world (f := HV.int .i64) (fun _ => rfl) hs hg hl (d := compact_ l ++ List.replicate (l.length - (compact_ l).length) 0) (fun x hx => by
     rcases List.mem_append.1 hx with hx | hx
     ·exact hreps x (compact_mem hx)
     ·rw [List.eq_of_mem_replicate hx]; exact ⟨rfl, rfl⟩) hor' (fun vs hv => (repL_ints hv).1) hlen n
    refine ⟨_, .ar id ver 1 0 (compact_ l).length, _, μ, rfl, hK, h1, .inl ⟨some b, hl, .inr ⟨b, cap, putCells (Value.int .i64) 0 (compact_ l ++ List.replicate (l.length - (compact_ l).length) 0).toArray cur, e', rfl, by simp, by omega, hcm, ?_, ?_⟩⟩, h2⟩
    ·obtain ⟨lo, hi, hbk, hfr⟩ := hrow
     refine ⟨lo, hi, ?_, by simpa [putCells] using hfr⟩
     show (w.heap.modify b _)[b]? = _
     rw [Array.getElem?_modify, if_pos rfl, hbk]
     rfl
    ·simp only [putCells, Array.size_mapIdx]; exact hsz
 ·exact absurd hl (hd.2 lo)
theorem c_compactI {H H' : Heap} {id ver n : Nat} {e : TypeId} {l : List Int} {K : HV → Heap → Prop} (hn : n = l.length) (hg : hget H id = some (ver, .arr 1 e (l.map (.int .i64)))) (hle : ∀ j x, hget H' j = some x → hget H j = some x) (hno : hget H' id = none)
  (hK : K (slE eInt (compact_ l)) H') : ACall Tryz.prog 103 [.ar id ver 1 0 n] H K := by
 subst hn
 have hlen := compact_le l
 refine ACall.freeze 2 [(id, ver, .arr 1 e ((compact_ l ++ List.replicate (l.length - (compact_ l).length) 0).map (.int .i64)))] H' (w180 hg ⟨fun j x hx => ?_, fun j x hx => ?_, ?_⟩)
 ·rw [hget_hset, if_neg (fun e => by rw [e, hno] at hx; cases hx)]
  exact hle j x hx
 ·simp only [hget] at hx
  split at hx
  ·rename_i e
   subst e
   cases hx
   exact ⟨by rw [hget_hset, if_pos rfl], hno⟩
  ·cases hx
 ·have : frz 2 [(id, ver, .arr 1 e ((compact_ l ++ List.replicate (l.length - (compact_ l).length) 0).map (.int .i64)))] (.ar id ver 1 0 (compact_ l).length) = slE eInt (compact_ l) := by
   have h0 : hget [(id, ver, AObj.arr 1 e ((compact_ l ++ List.replicate (l.length - (compact_ l).length) 0).map (.int .i64)))] id = some (ver, .arr 1 e ((compact_ l ++ List.replicate (l.length - (compact_ l).length) 0).map (.int .i64))) := by simp only [hget, if_true]
   rw [frz, h0]
   have h1 : ver = ver ∧ 0 + (compact_ l).length * 1 ≤ ((compact_ l ++ List.replicate (l.length - (compact_ l).length) (0 : Int)).map (HV.int .i64)).length := ⟨rfl, by simp⟩
   refine (if_pos h1).trans ?_
   rw [List.drop_zero, Nat.mul_one, List.map_append, List.take_left' (List.length_map _), List.map_map]
   rfl
  rw [this]
  exact hK
theorem w_strings_IndexByte {l : List UInt8} {c r : Int} (h : m_strings_IndexByte l c = some r) : Pure Tryz.prog 48 [HV.str l, HV.int .u8 c] (· = HV.int .i64 r) := by
 cases h
 exact w51 l c
end Go.AW
namespace Go.AW
open Go Go.Proofs
set_option linter.unusedVariables false
theorem le_slH {l l' : List (Nat × HV)} {H : Heap} (h : leS l l') : (⟨l, H⟩ : AS).le ⟨l', H⟩ := ⟨leS_get h, fun _ _ h => h⟩
set_option maxRecDepth 100000 in
theorem iy_graph_leaving {g : TLabelsStatesEdges} {s : Int} {L : List (Int × TFromLabelTo)} (h : y_graph_leaving g s = some L) : Yields Tryz.prog 124 [] [gF g, .fptr [hI s] 0] (L.map fun x => [hI x.1, .agg [hI x.2.1, hI x.2.2.1, hI x.2.2.2]]) := by
  unfold y_graph_leaving at h
  split at h
  · rename_i hm
    cases h
    obtain ⟨gl, gs, es⟩ := g
    dsimp only at hm ⊢
    intro id ver H J Stop K hmn h0 hstep hdone hstop
    refine ACall.of_body Tryz.func124 rfl rfl (lb rfl) ?_
    unfold Tryz.f124
    dsimp only [enumS, Nat.reduceAdd]
    refine AW.rgs rfl fun K1 hK => ?_
    refine bv rfl (v_fieldAddrF fo24_2 rfl) (bv rfl (v_loadF ty22 rfl (l_lit rfl rfl)) (bv rfl (v_lenF rfl rfl ty22 rfl) (mv rfl rfl ?_)))
    refine b_nil (hK _ (AW.to (to_le (s' := ⟨[(0, .yl id ver), (2, .fptr [hI s] 0), (7, slE eFromLabelTo es), (8, .int .i64 (es.length : Int)), (9, .int .i64 ((0 : Nat) : Int))], H⟩) (le_slH ⟨rfl, rfl, rfl, rfl, rfl, trivial⟩) ?_)))
    clear hK K1
    refine AW.block ?_
    refine AW.loopS (fun p : Nat × Heap => ⟨[(0, .yl id ver), (2, .fptr [hI s] 0), (7, slE eFromLabelTo es), (8, .int .i64 (es.length : Int)), (9, .int .i64 (p.1 : Int))], p.2⟩)
      (fun p => p.1 ≤ es.length ∧ J (leaveL (es.take p.1) s).length p.2) (fun p => es.length - p.1) (0, H) (AS.le_refl _) ⟨Nat.zero_le _, h0⟩ ?_
    rintro ⟨i, H1⟩ ⟨hi, hj⟩
    dsimp only at hi hj ⊢
    refine AW.rgs rfl fun K1 hK => ?_
    refine bv rfl (v_bin rfl rfl b_lss) ?_
    refine b_nil (hK _ ?_)
    clear hK K1
    refine AW.cseq rfl (fun hc => ?_) (fun hc => ?_)
    · have hi' : i < es.length := by have := of_decide_eq_true hc; omega
      have hx : idx es (i : Int) = some es[i] := ix hi'
      obtain ⟨f, hf⟩ := fresh_id H1 5
      refine AW.skip ?_
      refine AW.seq (AW.block ?_)
      refine AW.rgs rfl fun K1 hK => ?_
      refine mv rfl rfl (bv rfl (v_idxF ty22 es22 rfl rfl (idx_lt hx)) (bv rfl (v_loadF ty44 rfl (l_agg eFromLabelTo hx rfl rfl)) ?_))
      refine b_op rfl (o_alloc (fid := f) (zs := [hI 0, hI 0, hI 0]) (f * 1000 + 5) rfl rfl ty44 rfl (fun ov => ?_))
      refine mv rfl rfl ?_
      refine b_op rfl (o_store (cs := cFromLabelTo es[i]) (zs := cFromLabelTo es[i]) rfl rfl rfl ty44 rfl hget_0 rfl rfl rfl ?_)
      refine b_nil (hK _ (AW.to (to_le (s' := ⟨[(0, .yl id ver), (2, .fptr [hI s] 0), (4, .int .i64 (i : Int)), (5, .ptr (f * 1000 + 5) ov 0), (7, slE eFromLabelTo es), (8, .int .i64 (es.length : Int)), (9, .int .i64 (i : Int))], (f * 1000 + 5, ov, .arr 3 44 (cFromLabelTo es[i])) :: H1⟩) ⟨leS_get ⟨rfl, rfl, rfl, rfl, rfl, rfl, rfl, trivial⟩, fun j x hx => ?_⟩ ?_)))
      · simp only [hget] at hx ⊢
        split <;> rename_i hij
        · rw [if_pos hij] at hx; exact hx
        · first | exact hx | (rw [if_neg hij] at hx; first | exact hx | (rw [if_neg hij]; exact hx)) | (rw [if_neg hij]; exact hx)
      clear hK K1
      have hJ1 := hmn _ _ _ hj (cons_le (ver := ov) (ob := .arr 3 44 (cFromLabelTo es[i])) hf)
      refine AW.rgs rfl fun K1 hK => ?_
      refine bv rfl (v_fieldAddrP fo44_0 rfl hget_0) (bv rfl (v_loadP ty28 rfl hget_0 (l_lit rfl rfl)) (bv rfl (v_loadF ty28 rfl (l_lit rfl rfl)) (bv rfl (v_bin rfl rfl b_eql) (mv rfl rfl ?_))))
      have htk := leaveL_take es s hi'
      by_cases hs : es[i].1 = s
      · rw [if_pos hs] at htk
        obtain ⟨rest, hr⟩ := leaveL_split es s (i + 1)
        rw [htk] at hr
        refine b_T rfl rfl rfl rfl (decide_eq_true hs) (o_val rfl (mv_val rfl rfl).2 ?_)
        refine b_T rfl rfl rfl rfl rfl (o_val rfl (mv_val rfl rfl).2 ?_)
        refine b_T rfl rfl rfl rfl rfl (o_val rfl (v_loadP ty44 rfl hget_0 (l_litA (ds := cFromLabelTo es[i]) rfl (lb rfl) rfl)) ?_)
        refine b_T rfl rfl rfl rfl rfl (o_yield (hs := [hI (i : Int), .agg (cFromLabelTo es[i])]) rfl rfl rfl ?_)
        refine (hstep (leaveL (es.take i) s).length [hI (i : Int), .agg (cFromLabelTo es[i])] _ ?_ hJ1).mono ?_
        · rw [List.getElem?_map, hr, List.append_assoc, List.getElem?_append_right (Nat.le_refl _), Nat.sub_self]
          rfl
        rintro r H2 ⟨b, rfl, h3, h4⟩
        refine b_T rfl rfl rfl rfl rfl (o_val rfl (v_not rfl) ?_)
        refine bv rfl (v_pickT rfl rfl rfl) ?_
        refine b_nil (hK _ (AW.to (to_le (s' := ⟨[(0, .yl id ver), (2, .fptr [hI s] 0), (7, slE eFromLabelTo es), (8, .int .i64 (es.length : Int)), (9, .int .i64 (i : Int)), (24, .bool (!b))], H2⟩) (le_slH ⟨rfl, rfl, rfl, rfl, rfl, rfl, trivial⟩) ?_)))
        clear hK K1
        refine AW.cond rfl (fun hc => ?_) (fun hc => ?_)
        · have hb : b = false := by simpa using hc
          refine AW.ret ⟨.inr rfl, ?_⟩
          simp only [go_sem, reduceIte, Nat.reduceEqDiff]
          exact ⟨_, _, Conv.refl _ _, hstop _ (h4 hb)⟩
        · have hb : b = true := by simpa using hc
          refine AW.skip ?_
          refine AW.region (fid := f) (mt := []) [0, 2, 7, 8, 9] rfl fun K hK => ?_
          simp only [go_sem, reduceIte, Nat.reduceEqDiff, Int.reduceLE]
          refine hK _ ?_
          refine ⟨(i + 1, H2), ⟨by dsimp only; omega, ?_⟩, by dsimp only; omega, ?_⟩
          · dsimp only
            rw [htk, List.length_append]
            exact h3 hb
          · dsimp only
            rw [cnt_next hm hi']
            exact AS.le_refl _
      · rw [if_neg hs, List.append_nil] at htk
        refine b_F rfl rfl rfl rfl rfl (decide_eq_false hs) ?_
        refine b_F rfl rfl rfl rfl rfl rfl ?_
        refine b_F rfl rfl rfl rfl rfl rfl ?_
        refine b_F rfl rfl rfl rfl rfl rfl ?_
        refine b_F rfl rfl rfl rfl rfl rfl ?_
        refine bv rfl (v_pickF rfl rfl rfl) ?_
        refine b_nil (hK _ (AW.to (to_le (s' := ⟨[(0, .yl id ver), (2, .fptr [hI s] 0), (7, slE eFromLabelTo es), (8, .int .i64 (es.length : Int)), (9, .int .i64 (i : Int)), (24, .bool false)], _⟩) (le_slH ⟨rfl, rfl, rfl, rfl, rfl, rfl, trivial⟩) ?_)))
        clear hK K1
        refine AW.cond rfl (fun hc => by cases hc) (fun _ => ?_)
        refine AW.skip ?_
        refine AW.region (fid := f) (mt := []) [0, 2, 7, 8, 9] rfl fun K hK => ?_
        simp only [go_sem, reduceIte, Nat.reduceEqDiff, Int.reduceLE]
        refine hK _ ?_
        refine ⟨(i + 1, (f * 1000 + 5, ov, .arr 3 44 (cFromLabelTo es[i])) :: H1), ⟨by dsimp only; omega, ?_⟩, by dsimp only; omega, ?_⟩
        · dsimp only
          rw [htk]
          exact hJ1
        · dsimp only
          rw [cnt_next hm hi']
          exact AS.le_refl _
    · have hi2 : es.length ≤ i := by have := of_decide_eq_false hc; omega
      have hie : i = es.length := by omega
      subst hie
      rw [List.take_length] at hj
      refine AW.exit ?_
      refine ⟨.inl rfl, ?_⟩
      simp only [go_sem, reduceIte, Nat.reduceEqDiff]
      exact ⟨_, _, Conv.refl _ _, hdone _ (by rw [List.length_map]; exact hj)⟩
  · cases h
end Go.AW
namespace Go.AW
open Go
def m_strings_Repeat (s : List UInt8) (n : Int) : Option (List UInt8) := if 0 ≤ n ∧ n ≤ 9223372036854775807 ∧ s.length * n.toNat ≤ 140737488355328 then some (List.replicate n.toNat s).flatten else none
set_option linter.unusedVariables false
noncomputable def m_slices_Equal_Lint_int (p0 : List (Int)) (p1 : List (Int)) : Option (Bool) :=
 if ((p0).length : Int) ≠ ((p1).length : Int) then
  some false
 else
  lpO (loopW (S := Int) (X := Ou (Unit) (Bool)) (fun a1 =>
    if a1 < ((p0).length : Int) then
     (idx p0 a1).bind fun x5 =>
     (idx p1 a1).bind fun x7 =>
     if x5 ≠ x7 then
      some (Stp.exit (Ou.ret false))
     else
      some (Stp.next (IntKind.wrap .i64 (a1 + 1)))
    else
     some (Stp.exit (Ou.go ()))) 0) (fun a9 =>
    some true) some
noncomputable def m_language_ends (p0 : TLabelsStatesEdges) (p1 : List (Int)) (p2 : List UInt8) : Option ((List (Int))) :=
 (loopW (S := (List Int) × Int) (X := (List Int)) (fun a1 =>
   jp (fun (a5 : Bool) =>
    if a5 = true then
     (idx p2 a1.2).bind fun x8 =>
     (m_language_step p0 a1.1 (x8.toNat : Int)).bind fun x10 =>
     some (Stp.next (x10, IntKind.wrap .i64 (a1.2 + 1)))
    else
     some (Stp.exit a1.1))
    fun k7 =>
    if a1.2 < ((p2).length : Int) then
     k7 (decide (0 < ((a1.1).length : Int)))
    else
     k7 false) (p1, 0)).bind fun a13 =>
 some a13
noncomputable def m_language_Accepts (p0 : TLabelsStatesEdges) (p1 : List UInt8) : Option (Bool × Int) :=
 (m_language_spells p0 p1).bind fun x1 =>
 if x1 ≠ 0 then
  some (false, x1)
 else
  (m_language_states p0).bind fun x3 =>
  (m_language_ends p0 x3 p1).bind fun x5 =>
  some (decide (0 < ((x5).length : Int)), 0)
theorem SR.frzH {w : World} {μ : Mu} {H D H' : Heap} (n : Nat) (h : SR w μ H) (hD : ∀ id x, hget D id = some x → hget H id = some x ∧ hget H' id = none)
  (hs : ∀ id ver o, hget H' id = some (ver, o) → hget H id = some (ver, o) ∨ ∃ k e cs, hget H id = some (ver, .arr k e cs) ∧ o = .arr k e (cs.map (frz n D))) : SR w (μ.cut H') H' where
 ok := fun id ver b hb => h.ok id ver b (Mu.cut_some hb)
 has := fun id ver o ho => by
  rcases hs id ver o ho with h1 | ⟨k, e, cs, h1, rfl⟩
  ·obtain ⟨l, hl, hor⟩ := h.has id ver o h1
   exact ⟨l, by simp [Mu.cut, ho, hl], hor.evo (Evo.cut w μ H') h.ok (fun _ _ => rfl) (fun _ _ _ _ _ _ _ _ => rfl)⟩
  ·obtain ⟨l, hl, hor⟩ := h.has id ver _ h1
   refine ⟨l, by simp [Mu.cut, ho, hl], ?_⟩
   cases l with
   | none =>
    have : cs = [] := hor
    subst this
    exact (rfl : ([] : List HV).map (frz n D) = [])
   | some b =>
    obtain ⟨h0, cur, vs, rest, hrow, hcl, hrl⟩ := hor
    exact ⟨ones_frz h0, cur, vs, rest, hrow, hcl, RepL.mapF (fun c x _ => frz_rep h hD n c x) hrl⟩
 only := fun id x hx => by
  simp only [Mu.cut] at hx
  split at hx
  ·rename_i hi; exact Option.isSome_iff_exists.1 hi
  ·cases hx
 inj := fun i j v u b hi hj => h.inj i j v u b (Mu.cut_some hi) (Mu.cut_some hj)
 held := fun b hb => ⟨(h.held b hb).1, fun ⟨id, ver, hl⟩ => (h.held b hb).2 ⟨id, ver, Mu.cut_some hl⟩⟩
def leO (n : Nat) (D : Heap) (l : Heap) : Heap → Prop
 | [] => True
 | (i, v, o) :: l' => (hget l i = some (v, o) ∨ ∃ k e cs, hget l i = some (v, .arr k e cs) ∧ o = .arr k e (cs.map (frz n D))) ∧ leO n D l l'
theorem leO_get {n : Nat} {D l : Heap} : ∀ {l' : Heap}, leO n D l l' → ∀ t v o, hget l' t = some (v, o) → hget l t = some (v, o) ∨ ∃ k e cs, hget l t = some (v, .arr k e cs) ∧ o = .arr k e (cs.map (frz n D))
 | [], _, _, _, _, h => by cases h
 | (i, g, u) :: l', h, t, v, o, ht => by
  simp only [hget] at ht
  split at ht
  ·rename_i e; subst e; cases ht; exact h.1
  ·exact leO_get h.2 t v o ht
theorem to_fill {s : AS} {G : AS → Prop} (n : Nat) (D : Heap) (s' : AS) (h1 : leF n D s.slots s'.slots) (h2 : leO n D s.heap s'.heap) (h3 : leH s.heap D) (h4 : noneH s'.heap D) (h : G s') : s.to G := by
 intro ro N B μ a w hs
 have hD : ∀ id x, hget D id = some x → hget s.heap id = some x ∧ hget s'.heap id = none := fun id x hx => ⟨leH_get h3 id x hx, noneH_get h4 id x hx⟩
 refine ⟨μ.cut s'.heap, s', h, ⟨hs.size, hs.sr.frzH n hD (leO_get h2), fun t hv ht => ?_, hs.marks.evo (Evo.cut w μ s'.heap), hs.ro.evo (Evo.cut w μ s'.heap)⟩, Evo.cut w μ s'.heap⟩
 obtain ⟨g, hg, rfl⟩ := leF_get h1 t hv ht
 exact ⟨(hs.slot t g hg).1, frz_rep hs.sr hD n g _ (hs.slot t g hg).2⟩
theorem LeL.ones : ∀ {aa bs : List HV} (_ : LeL aa bs), ones aa → ones bs
 | _, _, .nil, h => h
 | _, _, .cons h h', h0 => fun c hc => by
  rcases List.mem_cons.1 hc with rfl | hc
  ·have := h0 _ (List.mem_cons_self ..)
   cases h with
   | refl => exact this
   | nil => rfl
   | empty => rfl
  ·exact LeL.ones h' (fun d hd => h0 d (List.mem_cons_of_mem _ hd)) c hc
section
variable {P : Program} {ro : Option Nat} {N : Nat} {all : Array Oper} {s : AS} {rest : List Oper} {o : Oper} {K : AS → Prop} {fid : Nat} {sl : List (Nat × HV)} {H : Heap}
theorem AOps.to {is : List Nat} (h : s.to (AOps P ro N all is K)) : AOps P ro N all is K s := fun w0 μ0 μ a w Q hs hE hK => by
 obtain ⟨μ1, t, ht, hs1, E1⟩ := h ro N w0.heap.size μ a w hs
 exact ht w0 μ0 μ1 a w Q hs1 (hE.trans E1) hK
theorem b_to {l : List Oper} (h : s.to (bops P ro N all l K)) : bops P ro N all l K s := fun hok i hi => AOps.to (to_mono h fun t ht => ht hok i hi)
end
end Go.AW
namespace Go.AW
open Go Go.Proofs
set_option maxHeartbeats 1600000
set_option maxRecDepth 100000
set_option linter.unusedVariables false
theorem w_graph_list {p0 : TFromLabelTo} {r : (List (Int))} (h : m_graph_list p0 = some r) : Pure Tryz.prog 64 [.agg [hI p0.1, hI p0.2.1, hI p0.2.2]] (· = slE eInt r) := by
 unfold m_graph_list at h
 refine Pure.of_body Tryz.func64 rfl rfl (lb rfl) fun hf => ?_
 unfold Tryz.f64
 dsimp only [enumS, Nat.reduceAdd]
 refine AW.rgs rfl fun K hK => b_op rfl (o_box rfl rfl rfl ?_)
 refine mv rfl rfl ?_
 refine bf hK ⟨[(1, .fptr [hI p0.1, hI p0.2.1, hI p0.2.2] 0)], []⟩ ?_
 refine AW.rgs rfl fun K hK => bv rfl (v_fieldAddrF fo44_0 rfl) (bv rfl (v_loadF ty3 rfl (l_lit rfl rfl)) (bv rfl (v_fieldAddrF fo44_1 rfl) (bv rfl (v_loadF ty3 rfl (l_lit rfl rfl)) (bv rfl (v_fieldAddrF fo44_2 rfl) (bv rfl (v_loadF ty3 rfl (l_lit rfl rfl)) ?_)))))
 refine b_op rfl (o_bsl rfl rfl (as_of (cs := [hI p0.1, hI p0.2.1, hI p0.2.2]) ty55 ty3 rfl rfl rfl rfl rfl) ?_)
 refine mv rfl rfl ?_
 refine bf hK ⟨[(2, slE eInt [p0.1, p0.2.1, p0.2.2])], []⟩ ?_
 refine AW.ret ?_
 have h := Option.some.inj h
 subst h
 exact ret_pure (hs := [slE eInt [p0.1, p0.2.1, p0.2.2]]) (.inr rfl) (resT rfl rfl) rfl (clean_slE fun _ _ => ⟨trivial, trivial⟩)
theorem w_cmp_isNaN_int {p0 : Int} {r : Bool} (h : m_cmp_isNaN_int p0 = some r) : Pure Tryz.prog 132 [hI p0] (· = HV.bool r) := by
 unfold m_cmp_isNaN_int at h
 refine Pure.of_body Tryz.func132 rfl rfl (lb rfl) fun hf => ?_
 unfold Tryz.f132
 dsimp only [enumS, Nat.reduceAdd]
 refine AW.rgs rfl fun K hK => mv rfl rfl ?_
 refine bf hK ⟨[(0, hI p0)], []⟩ ?_
 refine AW.rgs rfl fun K hK => mv rfl rfl (mv rfl rfl (bv rfl (v_bin rfl rfl b_neq) (mv rfl rfl ?_)))
 refine bf hK ⟨[(2, .bool (decide (p0 ≠ p0)))], []⟩ ?_
 refine AW.ret ?_
 have h := Option.some.inj h
 subst h
 exact ret_pure (hs := [.bool (decide (p0 ≠ p0))]) (.inr rfl) (resT rfl rfl) rfl trivial
theorem w_cmp_Compare_int {p0 : Int} {p1 : Int} {r : Int} (h : m_cmp_Compare_int p0 p1 = some r) : Pure Tryz.prog 116 [hI p0, hI p1] (· = hI r) := by
 unfold m_cmp_Compare_int at h
 refine Pure.of_body Tryz.func116 rfl rfl (lb rfl) fun hf => ?_
 unfold Tryz.f116
 dsimp only [enumS, Nat.reduceAdd]
 refine AW.rgs rfl fun K hK => mv rfl rfl ?_
 refine bf hK ⟨[(0, hI p0), (1, hI p1)], []⟩ ?_
 refine AW.rgs rfl fun K hK => mv rfl rfl ?_
 obtain ⟨x1, h2, h⟩ := bS h
 refine b_op rfl (o_call rfl rfl rfl rfl (ACallD.pure0 (w_cmp_isNaN_int h2)) ?_)
 refine mv rfl rfl ?_
 refine bf hK ⟨[(0, hI p0), (1, hI p1), (5, .bool x1)], []⟩ ?_
 refine AW.rgs rfl fun K hK => mv rfl rfl ?_
 obtain ⟨x3, h4, h⟩ := bS h
 refine b_op rfl (o_call rfl rfl rfl rfl (ACallD.pure0 (w_cmp_isNaN_int h4)) ?_)
 refine mv rfl rfl ?_
 refine bf hK ⟨[(0, hI p0), (1, hI p1), (5, .bool x1), (6, .bool x3)], []⟩ ?_
 refine AW.seq ?_
 refine AW.rgs rfl fun K hK => mv rfl rfl ?_
 refine bf hK ⟨[(0, hI p0), (1, hI p1), (6, .bool x3), (11, .bool x1)], []⟩ ?_
 refine AW.cond rfl (fun hc => ?_) (fun hc => ?_)
 ·have h := ifT hc h
  refine AW.seq ?_
  refine AW.rgs rfl fun K hK => mv rfl rfl ?_
  refine bf hK ⟨[(12, .bool x3)], []⟩ ?_
  refine AW.cond rfl (fun hc => ?_) (fun hc => ?_)
  ·have h := ifT hc h
   refine AW.rgs rfl fun K hK => mv rfl rfl ?_
   refine bf hK ⟨[(4, hI 0)], []⟩ ?_
   refine AW.ret ?_
   have h := Option.some.inj h
   subst h
   exact ret_pure (hs := [hI 0]) (.inr rfl) (resT rfl rfl) rfl trivial
  have h := ifF (bF' hc) h
  refine AW.skip ?_
  refine AW.rgs rfl fun K hK => mv rfl rfl ?_
  refine bf hK ⟨[(4, hI (-1))], []⟩ ?_
  refine AW.ret ?_
  have h := Option.some.inj h
  subst h
  exact ret_pure (hs := [hI (-1)]) (.inr rfl) (resT rfl rfl) rfl trivial
 have h := ifF (bF' hc) h
 refine AW.skip ?_
 refine AW.seq ?_
 refine AW.rgs rfl fun K hK => mv rfl rfl ?_
 refine bf hK ⟨[(0, hI p0), (1, hI p1), (13, .bool x3)], []⟩ ?_
 refine AW.cond rfl (fun hc => ?_) (fun hc => ?_)
 ·have h := ifT hc h
  refine AW.rgs rfl fun K hK => mv rfl rfl ?_
  refine bf hK ⟨[(4, hI 1)], []⟩ ?_
  refine AW.ret ?_
  have h := Option.some.inj h
  subst h
  exact ret_pure (hs := [hI 1]) (.inr rfl) (resT rfl rfl) rfl trivial
 have h := ifF (bF' hc) h
 refine AW.skip ?_
 refine AW.seq ?_
 refine AW.rgs rfl fun K hK => mv rfl rfl (mv rfl rfl (bv rfl (v_bin rfl rfl b_lss) ?_))
 refine bf hK ⟨[(0, hI p0), (1, hI p1), (16, .bool (decide (p0 < p1)))], []⟩ ?_
 refine AW.cond rfl (fun hc => ?_) (fun hc => ?_)
 ·obtain ⟨hc, h⟩ := cT hc h
  refine AW.rgs rfl fun K hK => mv rfl rfl ?_
  refine bf hK ⟨[(4, hI (-1))], []⟩ ?_
  refine AW.ret ?_
  have h := Option.some.inj h
  subst h
  exact ret_pure (hs := [hI (-1)]) (.inr rfl) (resT rfl rfl) rfl trivial
 obtain ⟨hc, h⟩ := cF hc h
 refine AW.skip ?_
 refine AW.seq ?_
 refine AW.rgs rfl fun K hK => mv rfl rfl (mv rfl rfl (bv rfl (v_bin rfl rfl b_gtr) ?_))
 refine bf hK ⟨[(19, .bool (decide (p1 < p0)))], []⟩ ?_
 refine AW.cond rfl (fun hc => ?_) (fun hc => ?_)
 ·obtain ⟨hc, h⟩ := cT hc h
  refine AW.rgs rfl fun K hK => mv rfl rfl ?_
  refine bf hK ⟨[(4, hI 1)], []⟩ ?_
  refine AW.ret ?_
  have h := Option.some.inj h
  subst h
  exact ret_pure (hs := [hI 1]) (.inr rfl) (resT rfl rfl) rfl trivial
 obtain ⟨hc, h⟩ := cF hc h
 refine AW.skip ?_
 refine AW.rgs rfl fun K hK => mv rfl rfl ?_
 refine bf hK ⟨[(4, hI 0)], []⟩ ?_
 refine AW.ret ?_
 have h := Option.some.inj h
 subst h
 exact ret_pure (hs := [hI 0]) (.inr rfl) (resT rfl rfl) rfl trivial
theorem w_slices_Compare_Lint_int {p0 : List (Int)} {p1 : List (Int)} {r : Int} (h : m_slices_Compare_Lint_int p0 p1 = some r) : Pure Tryz.prog 87 [slE eInt p0, slE eInt p1] (· = hI r) := by
 unfold m_slices_Compare_Lint_int at h
 refine Pure.of_body Tryz.func87 rfl rfl (lb rfl) fun hf => ?_
 unfold Tryz.f87
 dsimp only [enumS, Nat.reduceAdd]
 refine AW.rgs rfl fun K hK => mv rfl rfl ?_
 refine bf hK ⟨[(0, slE eInt p0), (1, slE eInt p1)], []⟩ ?_
 refine AW.seq ?_
 refine AW.rgs rfl fun K hK => mv rfl rfl (bv rfl (v_lenF rfl rfl ty55 rfl) (mv rfl rfl ?_))
 refine bf hK ⟨[(0, slE eInt p0), (1, slE eInt p1), (9, slE eInt p0), (10, hI ((p0).length : Int)), (11, hI 0)], []⟩ ?_
 refine AW.lpR h (by first | exact up_then | exact up_to) (S := Int) (V := Unit) (fun a v => ⟨[(0, slE eInt p0), (1, slE eInt p1), (9, slE eInt p0), (10, hI ((p0).length : Int)), (11, hI a)], []⟩) ?_ (X := Unit) (W := Unit) (fun a v => ⟨[(0, slE eInt p0), (1, slE eInt p1)], []⟩) (fun a11 w12 h => ?_) (fun a1 w2 st3 h hr4=> ?_)
 ·exact to_L ⟨(), rfl⟩
 ·refine AW.seq ?_
  refine AW.rgs rfl fun K hK => mv rfl rfl (bv rfl (v_lenF rfl rfl ty55 rfl) (mv rfl rfl (bv rfl (v_lenF rfl rfl ty55 rfl) (bv rfl (v_bin rfl rfl b_lss) ?_))))
  refine bf hK ⟨[(35, .bool (decide (((p0).length : Int) < ((p1).length : Int))))], []⟩ ?_
  refine AW.cond rfl (fun hc => ?_) (fun hc => ?_)
  ·obtain ⟨hc, h⟩ := cT hc h
   refine AW.rgs rfl fun K hK => mv rfl rfl ?_
   refine bf hK ⟨[(4, hI (-1))], []⟩ ?_
   refine AW.ret ?_
   have h := Option.some.inj h
   subst h
   exact ret_pure (hs := [hI (-1)]) (.inr rfl) (resT rfl rfl) rfl trivial
  obtain ⟨hc, h⟩ := cF hc h
  refine AW.skip ?_
  refine AW.rgs rfl fun K hK => mv rfl rfl ?_
  refine bf hK ⟨[(4, hI 0)], []⟩ ?_
  refine AW.ret ?_
  have h := Option.some.inj h
  subst h
  exact ret_pure (hs := [hI 0]) (.inr rfl) (resT rfl rfl) rfl trivial
 refine AW.rgs rfl fun K hK => bv rfl (v_bin rfl rfl b_lss) ?_
 refine bf hK ⟨[(0, slE eInt p0), (1, slE eInt p1), (9, slE eInt p0), (10, hI ((p0).length : Int)), (11, hI a1), (12, .bool (decide (a1 < ((p0).length : Int))))], []⟩ ?_
 refine AW.cseq rfl (fun hc => ?_) (fun hc => ?_)
 ·obtain ⟨hc, h⟩ := cT hc h
  refine AW.skip ?_
  refine AW.seq (AW.block ?_)
  refine AW.rgs rfl fun K hK => mv rfl rfl ?_
  obtain ⟨x5, h6, h⟩ := bS h
  refine bv rfl (v_idxF ty55 es55 rfl rfl (idx_lt h6)) (bv rfl (v_loadF ty3 rfl (l_cell eInt h6 (o := 0) rfl rfl)) (mv rfl rfl (mv rfl rfl ?_)))
  refine bf hK ⟨[(0, slE eInt p0), (1, slE eInt p1), (5, hI a1), (6, hI x5), (9, slE eInt p0), (10, hI ((p0).length : Int)), (11, hI a1)], []⟩ ?_
  refine AW.seq ?_
  refine AW.rgs rfl fun K hK => mv rfl rfl (mv rfl rfl (bv rfl (v_lenF rfl rfl ty55 rfl) (bv rfl (v_bin rfl rfl b_geq) ?_)))
  refine bf hK ⟨[(0, slE eInt p0), (1, slE eInt p1), (5, hI a1), (6, hI x5), (9, slE eInt p0), (10, hI ((p0).length : Int)), (11, hI a1), (19, .bool (decide (((p1).length : Int) ≤ a1)))], []⟩ ?_
  refine AW.cond rfl (fun hc => ?_) (fun hc => ?_)
  ·obtain ⟨hc, h⟩ := cT hc h
   refine AW.rgs rfl fun K hK => mv rfl rfl ?_
   refine bf hK ⟨[(4, hI 1)], []⟩ ?_
   have h := hr4 _ h
   refine AW.ret ?_
   have h := Option.some.inj h
   subst h
   exact ret_pure (hs := [hI 1]) (.inr rfl) (resT rfl rfl) rfl trivial
  obtain ⟨hc, h⟩ := cF hc h
  refine AW.skip ?_
  refine AW.rgs rfl fun K hK => mv rfl rfl (mv rfl rfl ?_)
  obtain ⟨x7, h8, h⟩ := bS h
  refine bv rfl (v_idxF ty55 es55 rfl rfl (idx_lt h8)) (bv rfl (v_loadF ty3 rfl (l_cell eInt h8 (o := 0) rfl rfl)) (mv rfl rfl ?_))
  refine bf hK ⟨[(0, slE eInt p0), (1, slE eInt p1), (6, hI x5), (7, hI x7), (9, slE eInt p0), (10, hI ((p0).length : Int)), (11, hI a1)], []⟩ ?_
  refine AW.rgs rfl fun K hK => mv rfl rfl (mv rfl rfl ?_)
  obtain ⟨x9, h10, h⟩ := bS h
  refine b_op rfl (o_call rfl rfl rfl rfl (ACallD.pure0 (w_cmp_Compare_int h10)) ?_)
  refine mv rfl rfl ?_
  refine bf hK ⟨[(0, slE eInt p0), (1, slE eInt p1), (8, hI x9), (9, slE eInt p0), (10, hI ((p0).length : Int)), (11, hI a1)], []⟩ ?_
  refine AW.rgs rfl fun K hK => mv rfl rfl (bv rfl (v_bin rfl rfl b_neq) ?_)
  refine bf hK ⟨[(0, slE eInt p0), (1, slE eInt p1), (8, hI x9), (9, slE eInt p0), (10, hI ((p0).length : Int)), (11, hI a1), (28, .bool (decide (x9 ≠ 0)))], []⟩ ?_
  refine AW.cond rfl (fun hc => ?_) (fun hc => ?_)
  ·obtain ⟨hc, h⟩ := cT hc h
   refine AW.rgs rfl fun K hK => mv rfl rfl (mv rfl rfl ?_)
   refine bf hK ⟨[(4, hI x9)], []⟩ ?_
   have h := hr4 _ h
   refine AW.ret ?_
   have h := Option.some.inj h
   subst h
   exact ret_pure (hs := [hI x9]) (.inr rfl) (resT rfl rfl) rfl trivial
  obtain ⟨hc, h⟩ := cF hc h
  refine AW.skip ?_
  refine AW.rg rfl fun K hK => bv rfl (v_bin rfl rfl b_add) (mv rfl rfl ?_)
  refine b_nil (hK _ ?_)
  exact to_L ⟨IntKind.wrap .i64 (a1 + 1), (), h, rfl⟩
 obtain ⟨hc, h⟩ := cF hc h
 refine AW.exit ?_
 exact to_L ⟨(), (), h, rfl⟩
theorem w_graph_by_api_Edge_1 {p0 : TFromLabelTo} {p1 : TFromLabelTo} {r : Int} (h : m_graph_by_api_Edge_1 p0 p1 = some r) : Pure Tryz.prog 86 [.agg [hI p0.1, hI p0.2.1, hI p0.2.2], .agg [hI p1.1, hI p1.2.1, hI p1.2.2], .fptr [.fn (.func 64) [] []] 0] (· = hI r) := by
 unfold m_graph_by_api_Edge_1 at h
 refine Pure.of_body Tryz.func86 rfl rfl (lb rfl) fun hf => ?_
 unfold Tryz.f86
 dsimp only [enumS, Nat.reduceAdd]
 refine AW.rgs rfl fun K hK => b_op rfl (o_box rfl rfl rfl ?_)
 refine b_op rfl (o_box rfl rfl rfl ?_)
 refine mv rfl rfl ?_
 refine bf hK ⟨[(2, .fptr [.fn (.func 64) [] []] 0), (3, .fptr [hI p0.1, hI p0.2.1, hI p0.2.2] 0), (4, .fptr [hI p1.1, hI p1.2.1, hI p1.2.2] 0)], []⟩ ?_
 refine AW.dgs 8 follows rfl rfl fun K hK => ?_
 refine sv rfl (v_loadF ty98 rfl (l_lit rfl rfl)) ?_
 refine sv rfl (v_loadF ty44 rfl (l_litA rfl (lb rfl) rfl)) ?_
 obtain ⟨x1, h2, h⟩ := bS h
 refine s_op rfl rfl (ops_call rfl rfl rfl rfl (ACallD.pure0 (w_graph_list h2)) ?_)
 refine sv rfl (v_loadF ty98 rfl (l_lit rfl rfl)) ?_
 refine sv rfl (v_loadF ty44 rfl (l_litA rfl (lb rfl) rfl)) ?_
 obtain ⟨x3, h4, h⟩ := bS h
 refine s_op rfl rfl (ops_call rfl rfl rfl rfl (ACallD.pure0 (w_graph_list h4)) ?_)
 obtain ⟨x5, h6, h⟩ := bS h
 refine s_op rfl rfl (ops_call rfl rfl rfl rfl (ACallD.pure0 (w_slices_Compare_Lint_int h6)) ?_)
 refine sm rfl rfl ?_
 refine s_nil ?_
 refine bf hK ⟨[(5, hI x5)], []⟩ ?_
 refine AW.ret ?_
 have h := Option.some.inj h
 subst h
 exact ret_pure (hs := [hI x5]) (.inr rfl) (resT rfl rfl) rfl trivial
theorem w_graph_by_api_Edge  : Pure Tryz.prog 63 [.fn (.func 64) [] []] (· = HV.fn (.func 86) [] [.fptr [.fn (.func 64) [] []] 0]) := by
 refine Pure.of_body Tryz.func63 rfl rfl (lb rfl) fun hf => ?_
 unfold Tryz.f63
 dsimp only [enumS, Nat.reduceAdd]
 refine AW.rgs rfl fun K hK => b_op rfl (o_box rfl rfl rfl ?_)
 refine mv rfl rfl ?_
 refine bf hK ⟨[(1, .fptr [.fn (.func 64) [] []] 0)], []⟩ ?_
 refine AW.rgs rfl fun K hK => bv rfl (v_func rfl rfl) (mv rfl rfl ?_)
 refine bf hK ⟨[(2, .fn (.func 86) [] [.fptr [.fn (.func 64) [] []] 0])], []⟩ ?_
 refine AW.ret ?_
 exact ret_pure (hs := [.fn (.func 86) [] [.fptr [.fn (.func 64) [] []] 0]]) (.inr rfl) (resT rfl rfl) rfl ⟨trivial, ⟨⟨⟨trivial, trivial⟩, trivial⟩, trivial⟩⟩
theorem w_graph_Check {p0 : TLabelsStatesEdges} {r : Int} (h : m_graph_Check p0 = some r) : Pure Tryz.prog 41 [gA p0] (· = hI r) := by
 unfold m_graph_Check at h
 refine Pure.of_body Tryz.func41 rfl rfl (lb rfl) fun hf => ?_
 unfold Tryz.f41
 dsimp only [enumS, Nat.reduceAdd]
 refine AW.rgs rfl fun K hK => b_op rfl (o_box rfl rfl rfl ?_)
 refine mv rfl rfl ?_
 refine bf hK ⟨[(1, gF p0)], []⟩ ?_
 refine AW.seq (AW.block ?_)
 refine AW.seqJ h (S := Bool) (V := Unit) (fun a v => ⟨[(1, gF p0), (6, .bool a)], []⟩) (fun a1 w2 h => ?_) (fun k3 h => ?_)
 ·refine AW.cond rfl (fun hc => ?_) (fun hc => ?_)
  ·have h := ifT hc h
   refine AW.rgs rfl fun K hK => mv rfl rfl ?_
   refine bf hK ⟨[(2, hI 12)], []⟩ ?_
   refine AW.ret ?_
   have h := Option.some.inj h
   subst h
   exact ret_pure (hs := [hI 12]) (.inr rfl) (resT rfl rfl) rfl trivial
  have h := ifF (bF' hc) h
  refine AW.rgs rfl fun K hK => bv rfl (v_fieldAddrF fo24_1 rfl) (bv rfl (v_loadF ty3 rfl (l_lit rfl rfl)) (bv rfl (v_bin rfl rfl b_lss) (mv rfl rfl ?_)))
  refine bf hK ⟨[(1, gF p0), (15, .bool (decide (p0.2.1 < 0)))], []⟩ ?_
  refine AW.cond rfl (fun hc => ?_) (fun hc => ?_)
  ·obtain ⟨hc, h⟩ := cT hc h
   refine AW.rgs rfl fun K hK => mv rfl rfl ?_
   refine bf hK ⟨[(2, hI 2)], []⟩ ?_
   refine AW.ret ?_
   have h := Option.some.inj h
   subst h
   exact ret_pure (hs := [hI 2]) (.inr rfl) (resT rfl rfl) rfl trivial
  obtain ⟨hc, h⟩ := cF hc h
  refine AW.seqJ h (S := Bool) (V := Unit) (fun a v => ⟨[(1, gF p0), (19, .bool a)], []⟩) (fun a4 w5 h => ?_) (fun k6 h => ?_)
  ·refine AW.cond rfl (fun hc => ?_) (fun hc => ?_)
   ·have h := ifT hc h
    refine AW.rgs rfl fun K hK => mv rfl rfl ?_
    refine bf hK ⟨[(2, hI 4)], []⟩ ?_
    refine AW.ret ?_
    have h := Option.some.inj h
    subst h
    exact ret_pure (hs := [hI 4]) (.inr rfl) (resT rfl rfl) rfl trivial
   have h := ifF (bF' hc) h
   refine AW.skip ?_
   refine AW.rgs rfl fun K hK => b_op rfl (o_call rfl rfl rfl rfl (ACallD.pure0 (w_graph_by_api_Edge )) ?_)
   refine mv rfl rfl ?_
   refine bf hK ⟨[(1, gF p0), (3, .fn (.func 86) [] [.fptr [.fn (.func 64) [] []] 0])], []⟩ ?_
   refine AW.seq ?_
   refine AW.rgs rfl fun K hK => bv rfl (v_fieldAddrF fo24_2 rfl) (bv rfl (v_loadF ty22 rfl (l_lit rfl rfl)) (bv rfl (v_lenF rfl rfl ty22 rfl) (mv rfl rfl ?_)))
   refine bf hK ⟨[(1, gF p0), (3, .fn (.func 86) [] [.fptr [.fn (.func 64) [] []] 0]), (31, slE eFromLabelTo p0.2.2), (32, hI ((p0.2.2).length : Int)), (33, hI 0)], []⟩ ?_
   refine AW.lpR h (by first | exact up_then | exact up_to) (S := Int) (V := Unit) (fun a v => ⟨[(1, gF p0), (3, .fn (.func 86) [] [.fptr [.fn (.func 64) [] []] 0]), (31, slE eFromLabelTo p0.2.2), (32, hI ((p0.2.2).length : Int)), (33, hI a)], []⟩) ?_ (X := Unit) (W := Unit) (fun a v => ⟨[], []⟩) (fun a27 w28 h => ?_) (fun a7 w8 st9 h hr10=> ?_)
   ·exact to_L ⟨(), rfl⟩
   ·refine AW.rgs rfl fun K hK => mv rfl rfl ?_
    refine bf hK ⟨[(2, hI 0)], []⟩ ?_
    refine AW.ret ?_
    have h := Option.some.inj h
    subst h
    exact ret_pure (hs := [hI 0]) (.inr rfl) (resT rfl rfl) rfl trivial
   refine AW.rgs rfl fun K hK => bv rfl (v_bin rfl rfl b_lss) ?_
   refine bf hK ⟨[(1, gF p0), (3, .fn (.func 86) [] [.fptr [.fn (.func 64) [] []] 0]), (31, slE eFromLabelTo p0.2.2), (32, hI ((p0.2.2).length : Int)), (33, hI a7), (34, .bool (decide (a7 < ((p0.2.2).length : Int))))], []⟩ ?_
   refine AW.cseq rfl (fun hc => ?_) (fun hc => ?_)
   ·obtain ⟨hc, h⟩ := cT hc h
    refine AW.skip ?_
    refine AW.seq (AW.block ?_)
    refine AW.rgs rfl fun K hK => mv rfl rfl ?_
    obtain ⟨x11, h12, h⟩ := bS h
    refine bv rfl (v_idxF ty22 es22 rfl rfl (idx_lt h12)) (bv rfl (v_loadF ty44 rfl (l_agg eFromLabelTo h12 rfl rfl)) ?_)
    refine b_op rfl (o_alloc (fid := 41) (zs := [hI 0, hI 0, hI 0]) 41005 rfl rfl ty44 rfl (fun v13 => ?_))
    refine mv rfl rfl ?_
    refine b_op rfl (o_store (cs := [hI x11.1, hI x11.2.1, hI x11.2.2]) (zs := [hI x11.1, hI x11.2.1, hI x11.2.2]) rfl rfl rfl ty44 rfl rfl rfl rfl rfl ?_)
    refine bf hK ⟨[(1, gF p0), (3, .fn (.func 86) [] [.fptr [.fn (.func 64) [] []] 0]), (4, hI a7), (5, .ptr 41005 v13 0), (31, slE eFromLabelTo p0.2.2), (32, hI ((p0.2.2).length : Int)), (33, hI a7)], [(41005, v13, .arr 3 44 [hI x11.1, hI x11.2.1, hI x11.2.2])]⟩ ?_
    refine AW.seq ?_
    refine AW.seqJ h (S := Bool) (V := Unit) (fun a v => ⟨[(1, gF p0), (3, .fn (.func 86) [] [.fptr [.fn (.func 64) [] []] 0]), (4, hI a7), (5, .ptr 41005 v13 0), (31, slE eFromLabelTo p0.2.2), (32, hI ((p0.2.2).length : Int)), (33, hI a7), (62, .bool a)], [(41005, v13, .arr 3 44 [hI x11.1, hI x11.2.1, hI x11.2.2])]⟩) (fun a14 w15 h => ?_) (fun k16 h => ?_)
    ·refine AW.cond rfl (fun hc => ?_) (fun hc => ?_)
     ·have h := ifT hc h
      refine AW.rgs rfl fun K hK => mv rfl rfl ?_
      refine bf hK ⟨[(2, hI 2)], []⟩ ?_
      have h := hr10 _ h
      refine AW.ret ?_
      have h := Option.some.inj h
      subst h
      exact ret_pure (hs := [hI 2]) (.inr rfl) (resT rfl rfl) rfl trivial
     have h := ifF (bF' hc) h
     refine AW.skip ?_
     refine AW.seqJ h (S := Bool) (V := Unit) (fun a v => ⟨[(1, gF p0), (3, .fn (.func 86) [] [.fptr [.fn (.func 64) [] []] 0]), (31, slE eFromLabelTo p0.2.2), (32, hI ((p0.2.2).length : Int)), (33, hI a7), (76, .bool a)], []⟩) (fun a17 w18 h => ?_) (fun k19 h => ?_)
     ·refine AW.cond rfl (fun hc => ?_) (fun hc => ?_)
      ·have h := ifT hc h
       refine AW.rgs rfl fun K hK => mv rfl rfl ?_
       refine bf hK ⟨[(2, hI 10)], []⟩ ?_
       have h := hr10 _ h
       refine AW.ret ?_
       have h := Option.some.inj h
       subst h
       exact ret_pure (hs := [hI 10]) (.inr rfl) (resT rfl rfl) rfl trivial
      have h := ifF (bF' hc) h
      refine AW.skip ?_
      refine AW.rg rfl fun K hK => bv rfl (v_bin rfl rfl b_add) (mv rfl rfl ?_)
      refine b_nil (hK _ ?_)
      exact to_L ⟨IntKind.wrap .i64 (a7 + 1), (), h, rfl⟩
     refine AW.dg 14 follows rfl rfl fun K hK => ?_
     refine sm rfl rfl ?_
     refine sv rfl (v_bin rfl rfl b_gtr) ?_
     refine sm rfl rfl ?_
     by_cases hg24 : 0 < a7
     ·have h := ifT hg24 h
      refine s_T rfl rfl rfl rfl rfl (decide_eq_true hg24) (ops_val rfl (mv_val rfl rfl).2 ?_)
      refine s_T rfl rfl rfl rfl rfl rfl (ops_val rfl (v_fieldAddrF fo24_2 rfl) ?_)
      refine s_T rfl rfl rfl rfl rfl rfl (ops_val rfl (v_loadF ty22 rfl (l_lit rfl rfl)) ?_)
      refine s_T rfl rfl rfl rfl rfl rfl (ops_val rfl (mv_val rfl rfl).2 ?_)
      refine s_T rfl rfl rfl rfl rfl rfl (ops_val rfl (v_bin rfl rfl b_sub) ?_)
      obtain ⟨x20, h21, h⟩ := bS h
      refine s_T rfl rfl rfl rfl rfl rfl (ops_val rfl (v_idxF ty22 es22 rfl rfl (idx_lt h21)) ?_)
      refine s_T rfl rfl rfl rfl rfl rfl (ops_val rfl (v_loadF ty44 rfl (l_agg eFromLabelTo h21 rfl rfl)) ?_)
      refine s_T rfl rfl rfl rfl rfl rfl (ops_val rfl (v_loadP ty44 rfl rfl (l_litA rfl (lb rfl) rfl)) ?_)
      obtain ⟨x22, h23, h⟩ := bS h
      refine s_T rfl rfl rfl rfl rfl rfl (ops_call rfl rfl rfl rfl (ACallD.pure0 (w_graph_by_api_Edge_1 h23)) ?_)
      refine s_T rfl rfl rfl rfl rfl rfl (ops_val rfl (v_bin rfl rfl b_geq) ?_)
      refine sv rfl (v_pickT rfl rfl rfl) ?_
      refine s_nil ?_
      refine b_nil (hK _ ?_)
      exact to_L ⟨decide (0 ≤ x22), (), h, rfl⟩
     have h := ifF hg24 h
     refine s_F rfl rfl rfl rfl rfl (decide_eq_false hg24) ?_
     refine s_F rfl rfl rfl rfl rfl rfl ?_
     refine s_F rfl rfl rfl rfl rfl rfl ?_
     refine s_F rfl rfl rfl rfl rfl rfl ?_
     refine s_F rfl rfl rfl rfl rfl rfl ?_
     refine s_F rfl rfl rfl rfl rfl rfl ?_
     refine s_F rfl rfl rfl rfl rfl rfl ?_
     refine s_F rfl rfl rfl rfl rfl rfl ?_
     refine s_F rfl rfl rfl rfl rfl rfl ?_
     refine s_F rfl rfl rfl rfl rfl rfl ?_
     refine sv rfl (v_pickF rfl rfl rfl) ?_
     refine s_nil ?_
     refine b_nil (hK _ ?_)
     exact to_L ⟨false, (), h, rfl⟩
    refine AW.rg rfl fun K hK => bv rfl (v_fieldAddrP fo44_0 rfl rfl) (bv rfl (v_loadP ty3 rfl rfl (l_lit rfl rfl)) (bv rfl (v_fieldAddrP fo44_1 rfl rfl) (bv rfl (v_loadP ty3 rfl rfl (l_lit rfl rfl)) (bv rfl (v_fieldAddrP fo44_2 rfl rfl) (bv rfl (v_loadP ty3 rfl rfl (l_lit rfl rfl)) ?_)))))
    refine bv rfl (v_min3 rfl rfl rfl rfl) (bv rfl (v_bin rfl rfl b_lss) (mv rfl rfl ?_))
    by_cases hg26 : (min (min x11.1 x11.2.1) x11.2.2) < 0
    ·have h := ifT hg26 h
     refine b_F rfl rfl rfl rfl rfl (decide_eq_true hg26) ?_
     refine b_F rfl rfl rfl rfl rfl rfl ?_
     refine b_F rfl rfl rfl rfl rfl rfl ?_
     refine b_F rfl rfl rfl rfl rfl rfl ?_
     refine b_F rfl rfl rfl rfl rfl rfl ?_
     refine b_F rfl rfl rfl rfl rfl rfl ?_
     refine b_F rfl rfl rfl rfl rfl rfl ?_
     refine b_F rfl rfl rfl rfl rfl rfl ?_
     refine bv rfl (v_pickT rfl rfl rfl) (mv rfl rfl ?_)
     refine b_F rfl rfl rfl rfl rfl rfl ?_
     refine b_F rfl rfl rfl rfl rfl rfl ?_
     refine b_F rfl rfl rfl rfl rfl rfl ?_
     refine b_F rfl rfl rfl rfl rfl rfl ?_
     refine b_F rfl rfl rfl rfl rfl rfl ?_
     refine bv rfl (v_pickT rfl rfl rfl) ?_
     refine b_nil (hK _ ?_)
     exact to_L ⟨true, (), h, rfl⟩
    have h := ifF hg26 h
    refine b_T rfl rfl rfl rfl (decide_eq_false hg26) (o_val rfl (v_fieldAddrP fo44_0 rfl rfl) ?_)
    refine b_T rfl rfl rfl rfl rfl (o_val rfl (v_loadP ty3 rfl rfl (l_lit rfl rfl)) ?_)
    refine b_T rfl rfl rfl rfl rfl (o_val rfl (v_fieldAddrP fo44_2 rfl rfl) ?_)
    refine b_T rfl rfl rfl rfl rfl (o_val rfl (v_loadP ty3 rfl rfl (l_lit rfl rfl)) ?_)
    refine b_T rfl rfl rfl rfl rfl (o_val rfl (v_max rfl rfl rfl) ?_)
    refine b_T rfl rfl rfl rfl rfl (o_val rfl (v_fieldAddrF fo24_1 rfl) ?_)
    refine b_T rfl rfl rfl rfl rfl (o_val rfl (v_loadF ty3 rfl (l_lit rfl rfl)) ?_)
    refine b_T rfl rfl rfl rfl rfl (o_val rfl (v_bin rfl rfl b_geq) ?_)
    refine bv rfl (v_pickF rfl rfl rfl) (mv rfl rfl ?_)
    by_cases hg25 : p0.2.1 ≤ (max x11.1 x11.2.2)
    ·have h := ifT hg25 h
     refine b_F rfl rfl rfl rfl rfl (decide_eq_true hg25) ?_
     refine b_F rfl rfl rfl rfl rfl rfl ?_
     refine b_F rfl rfl rfl rfl rfl rfl ?_
     refine b_F rfl rfl rfl rfl rfl rfl ?_
     refine b_F rfl rfl rfl rfl rfl rfl ?_
     refine bv rfl (v_pickT rfl rfl rfl) ?_
     refine b_nil (hK _ ?_)
     exact to_L ⟨true, (), h, rfl⟩
    have h := ifF hg25 h
    refine b_T rfl rfl rfl rfl (decide_eq_false hg25) (o_val rfl (v_fieldAddrP fo44_1 rfl rfl) ?_)
    refine b_T rfl rfl rfl rfl rfl (o_val rfl (v_loadP ty3 rfl rfl (l_lit rfl rfl)) ?_)
    refine b_T rfl rfl rfl rfl rfl (o_val rfl (v_fieldAddrF fo24_0 rfl) ?_)
    refine b_T rfl rfl rfl rfl rfl (o_val rfl (v_loadF ty3 rfl (l_lit rfl rfl)) ?_)
    refine b_T rfl rfl rfl rfl rfl (o_val rfl (v_bin rfl rfl b_geq) ?_)
    refine bv rfl (v_pickF rfl rfl rfl) ?_
    refine b_nil (hK _ ?_)
    exact to_L ⟨decide (p0.1 ≤ x11.2.1), (), h, rfl⟩
   obtain ⟨hc, h⟩ := cF hc h
   refine AW.exit ?_
   exact to_L ⟨(), (), h, rfl⟩
  refine AW.rg rfl fun K hK => bv rfl (v_fieldAddrF fo24_1 rfl) (bv rfl (v_loadF ty3 rfl (l_lit rfl rfl)) (bv rfl (v_bin rfl rfl b_gtr) (mv rfl rfl ?_)))
  by_cases hg29 : 64 < p0.2.1
  ·have h := ifT hg29 h
   refine b_F rfl rfl rfl rfl rfl (decide_eq_true hg29) ?_
   refine b_F rfl rfl rfl rfl rfl rfl ?_
   refine b_F rfl rfl rfl rfl rfl rfl ?_
   refine b_F rfl rfl rfl rfl rfl rfl ?_
   refine bv rfl (v_pickT rfl rfl rfl) (mv rfl rfl ?_)
   refine b_nil (hK _ ?_)
   exact to_L ⟨true, (), h, rfl⟩
  have h := ifF hg29 h
  refine b_T rfl rfl rfl rfl (decide_eq_false hg29) (o_val rfl (v_fieldAddrF fo24_2 rfl) ?_)
  refine b_T rfl rfl rfl rfl rfl (o_val rfl (v_loadF ty22 rfl (l_lit rfl rfl)) ?_)
  refine b_T rfl rfl rfl rfl rfl (o_val rfl (v_lenF rfl rfl ty22 rfl) ?_)
  refine b_T rfl rfl rfl rfl rfl (o_val rfl (v_bin rfl rfl b_gtr) ?_)
  refine bv rfl (v_pickF rfl rfl rfl) (mv rfl rfl ?_)
  refine b_nil (hK _ ?_)
  exact to_L ⟨decide (1024 < ((p0.2.2).length : Int)), (), h, rfl⟩
 refine AW.rg rfl fun K hK => bv rfl (v_fieldAddrF fo24_0 rfl) (bv rfl (v_loadF ty3 rfl (l_lit rfl rfl)) (bv rfl (v_bin rfl rfl b_lss) (mv rfl rfl ?_)))
 by_cases hg30 : p0.1 < 1
 ·have h := ifT hg30 h
  refine b_F rfl rfl rfl rfl rfl (decide_eq_true hg30) ?_
  refine b_F rfl rfl rfl rfl rfl rfl ?_
  refine b_F rfl rfl rfl rfl rfl rfl ?_
  refine bv rfl (v_pickT rfl rfl rfl) (mv rfl rfl ?_)
  refine b_nil (hK _ ?_)
  exact to_L ⟨true, (), h, rfl⟩
 have h := ifF hg30 h
 refine b_T rfl rfl rfl rfl (decide_eq_false hg30) (o_val rfl (v_fieldAddrF fo24_0 rfl) ?_)
 refine b_T rfl rfl rfl rfl rfl (o_val rfl (v_loadF ty3 rfl (l_lit rfl rfl)) ?_)
 refine b_T rfl rfl rfl rfl rfl (o_val rfl (v_bin rfl rfl b_gtr) ?_)
 refine bv rfl (v_pickF rfl rfl rfl) (mv rfl rfl ?_)
 refine b_nil (hK _ ?_)
 exact to_L ⟨decide (256 < p0.1), (), h, rfl⟩
theorem w_graph_checkSet {p0 : TLabelsStatesEdges} {p1 : List (Int)} {r : Int} (h : m_graph_checkSet p0 p1 = some r) : Pure Tryz.prog 100 [gA p0, slE eInt p1] (· = hI r) := by
 unfold m_graph_checkSet at h
 refine Pure.of_body Tryz.func100 rfl rfl (lb rfl) fun hf => ?_
 unfold Tryz.f100
 dsimp only [enumS, Nat.reduceAdd]
 refine AW.rgs rfl fun K hK => b_op rfl (o_box rfl rfl rfl ?_)
 refine mv rfl rfl ?_
 refine bf hK ⟨[(1, slE eInt p1), (2, gF p0)], []⟩ ?_
 refine AW.seq ?_
 refine AW.rgs rfl fun K hK => mv rfl rfl (bv rfl (v_lenF rfl rfl ty55 rfl) (mv rfl rfl ?_))
 refine bf hK ⟨[(1, slE eInt p1), (2, gF p0), (7, slE eInt p1), (8, hI ((p1).length : Int)), (9, hI 0)], []⟩ ?_
 refine AW.lpR h (by first | exact up_then | exact up_to) (S := Int) (V := Unit) (fun a v => ⟨[(1, slE eInt p1), (2, gF p0), (7, slE eInt p1), (8, hI ((p1).length : Int)), (9, hI a)], []⟩) ?_ (X := Unit) (W := Unit) (fun a v => ⟨[], []⟩) (fun a17 w18 h => ?_) (fun a1 w2 st3 h hr4=> ?_)
 ·exact to_L ⟨(), rfl⟩
 ·refine AW.rgs rfl fun K hK => mv rfl rfl ?_
  refine bf hK ⟨[(4, hI 0)], []⟩ ?_
  refine AW.ret ?_
  have h := Option.some.inj h
  subst h
  exact ret_pure (hs := [hI 0]) (.inr rfl) (resT rfl rfl) rfl trivial
 refine AW.rgs rfl fun K hK => bv rfl (v_bin rfl rfl b_lss) ?_
 refine bf hK ⟨[(1, slE eInt p1), (2, gF p0), (7, slE eInt p1), (8, hI ((p1).length : Int)), (9, hI a1), (10, .bool (decide (a1 < ((p1).length : Int))))], []⟩ ?_
 refine AW.cseq rfl (fun hc => ?_) (fun hc => ?_)
 ·obtain ⟨hc, h⟩ := cT hc h
  refine AW.skip ?_
  refine AW.seq (AW.block ?_)
  refine AW.rgs rfl fun K hK => mv rfl rfl ?_
  obtain ⟨x5, h6, h⟩ := bS h
  refine bv rfl (v_idxF ty55 es55 rfl rfl (idx_lt h6)) (bv rfl (v_loadF ty3 rfl (l_cell eInt h6 (o := 0) rfl rfl)) (mv rfl rfl (mv rfl rfl ?_)))
  refine bf hK ⟨[(1, slE eInt p1), (2, gF p0), (5, hI a1), (6, hI x5), (7, slE eInt p1), (8, hI ((p1).length : Int)), (9, hI a1)], []⟩ ?_
  refine AW.seq ?_
  refine AW.seqJ h (S := Bool) (V := Unit) (fun a v => ⟨[(1, slE eInt p1), (2, gF p0), (5, hI a1), (6, hI x5), (7, slE eInt p1), (8, hI ((p1).length : Int)), (9, hI a1), (21, .bool a)], []⟩) (fun a7 w8 h => ?_) (fun k9 h => ?_)
  ·refine AW.cond rfl (fun hc => ?_) (fun hc => ?_)
   ·have h := ifT hc h
    refine AW.rgs rfl fun K hK => mv rfl rfl ?_
    refine bf hK ⟨[(4, hI 25)], []⟩ ?_
    have h := hr4 _ h
    refine AW.ret ?_
    have h := Option.some.inj h
    subst h
    exact ret_pure (hs := [hI 25]) (.inr rfl) (resT rfl rfl) rfl trivial
   have h := ifF (bF' hc) h
   refine AW.skip ?_
   refine AW.seqJ h (S := Bool) (V := Unit) (fun a v => ⟨[(1, slE eInt p1), (2, gF p0), (7, slE eInt p1), (8, hI ((p1).length : Int)), (9, hI a1), (32, .bool a)], []⟩) (fun a10 w11 h => ?_) (fun k12 h => ?_)
   ·refine AW.cond rfl (fun hc => ?_) (fun hc => ?_)
    ·have h := ifT hc h
     refine AW.rgs rfl fun K hK => mv rfl rfl ?_
     refine bf hK ⟨[(4, hI 10)], []⟩ ?_
     have h := hr4 _ h
     refine AW.ret ?_
     have h := Option.some.inj h
     subst h
     exact ret_pure (hs := [hI 10]) (.inr rfl) (resT rfl rfl) rfl trivial
    have h := ifF (bF' hc) h
    refine AW.skip ?_
    refine AW.rg rfl fun K hK => bv rfl (v_bin rfl rfl b_add) (mv rfl rfl ?_)
    refine b_nil (hK _ ?_)
    exact to_L ⟨IntKind.wrap .i64 (a1 + 1), (), h, rfl⟩
   refine AW.rg rfl fun K hK => mv rfl rfl (bv rfl (v_bin rfl rfl b_gtr) (mv rfl rfl ?_))
   by_cases hg15 : 0 < a1
   ·have h := ifT hg15 h
    refine b_T rfl rfl rfl rfl (decide_eq_true hg15) (o_val rfl (mv_val rfl rfl).2 ?_)
    refine b_T rfl rfl rfl rfl rfl (o_val rfl (mv_val rfl rfl).2 ?_)
    refine b_T rfl rfl rfl rfl rfl (o_val rfl (mv_val rfl rfl).2 ?_)
    refine b_T rfl rfl rfl rfl rfl (o_val rfl (v_bin rfl rfl b_sub) ?_)
    obtain ⟨x13, h14, h⟩ := bS h
    refine b_T rfl rfl rfl rfl rfl (o_val rfl (v_idxF ty55 es55 rfl rfl (idx_lt h14)) ?_)
    refine b_T rfl rfl rfl rfl rfl (o_val rfl (v_loadF ty3 rfl (l_cell eInt h14 (o := 0) rfl rfl)) ?_)
    refine b_T rfl rfl rfl rfl rfl (o_val rfl (v_bin rfl rfl b_leq) ?_)
    refine bv rfl (v_pickT rfl rfl rfl) ?_
    refine b_nil (hK _ ?_)
    exact to_L ⟨decide (x5 ≤ x13), (), h, rfl⟩
   have h := ifF hg15 h
   refine b_F rfl rfl rfl rfl rfl (decide_eq_false hg15) ?_
   refine b_F rfl rfl rfl rfl rfl rfl ?_
   refine b_F rfl rfl rfl rfl rfl rfl ?_
   refine b_F rfl rfl rfl rfl rfl rfl ?_
   refine b_F rfl rfl rfl rfl rfl rfl ?_
   refine b_F rfl rfl rfl rfl rfl rfl ?_
   refine b_F rfl rfl rfl rfl rfl rfl ?_
   refine bv rfl (v_pickF rfl rfl rfl) ?_
   refine b_nil (hK _ ?_)
   exact to_L ⟨false, (), h, rfl⟩
  refine AW.rg rfl fun K hK => mv rfl rfl (bv rfl (v_bin rfl rfl b_lss) (mv rfl rfl ?_))
  by_cases hg16 : x5 < 0
  ·have h := ifT hg16 h
   refine b_F rfl rfl rfl rfl rfl (decide_eq_true hg16) ?_
   refine b_F rfl rfl rfl rfl rfl rfl ?_
   refine b_F rfl rfl rfl rfl rfl rfl ?_
   refine b_F rfl rfl rfl rfl rfl rfl ?_
   refine bv rfl (v_pickT rfl rfl rfl) ?_
   refine b_nil (hK _ ?_)
   exact to_L ⟨true, (), h, rfl⟩
  have h := ifF hg16 h
  refine b_T rfl rfl rfl rfl (decide_eq_false hg16) (o_val rfl (mv_val rfl rfl).2 ?_)
  refine b_T rfl rfl rfl rfl rfl (o_val rfl (v_fieldAddrF fo24_1 rfl) ?_)
  refine b_T rfl rfl rfl rfl rfl (o_val rfl (v_loadF ty3 rfl (l_lit rfl rfl)) ?_)
  refine b_T rfl rfl rfl rfl rfl (o_val rfl (v_bin rfl rfl b_geq) ?_)
  refine bv rfl (v_pickF rfl rfl rfl) ?_
  refine b_nil (hK _ ?_)
  exact to_L ⟨decide (p0.2.1 ≤ x5), (), h, rfl⟩
 obtain ⟨hc, h⟩ := cF hc h
 refine AW.exit ?_
 exact to_L ⟨(), (), h, rfl⟩
theorem w_graph_leaving (p0 : TLabelsStatesEdges) (p1 : Int) : Pure Tryz.prog 101 [gA p0, hI p1] (· = HV.fn (.func 124) [] [gF p0, .fptr [hI p1] 0]) := by
 refine Pure.of_body Tryz.func101 rfl rfl (lb rfl) fun hf => ?_
 unfold Tryz.f101
 dsimp only [enumS, Nat.reduceAdd]
 refine AW.rgs rfl fun K hK => b_op rfl (o_box rfl rfl rfl ?_)
 refine b_op rfl (o_box rfl rfl rfl ?_)
 refine mv rfl rfl ?_
 refine bf hK ⟨[(2, gF p0), (3, .fptr [hI p1] 0)], []⟩ ?_
 refine AW.rgs rfl fun K hK => bv rfl (v_func rfl rfl) (mv rfl rfl ?_)
 refine bf hK ⟨[(4, .fn (.func 124) [] [gF p0, .fptr [hI p1] 0])], []⟩ ?_
 refine AW.ret ?_
 exact ret_pure (hs := [.fn (.func 124) [] [gF p0, .fptr [hI p1] 0]]) (.inr rfl) (resT rfl rfl) rfl ⟨trivial, ⟨⟨trivial, trivial, (clean_slE fun _ _ => ⟨trivial, trivial, trivial, trivial⟩), trivial⟩, ⟨trivial, trivial⟩, trivial⟩⟩
theorem w_graph_Step {p0 : TLabelsStatesEdges} {p1 : List (Int)} {p2 : Int} {r : (List (Int)) × Int} (h : m_graph_Step p0 p1 p2 = some r) : Pure Tryz.prog 79 [gA p0, slE eInt p1, hI p2] (· = HV.tup [slE eInt r.1, hI r.2]) := by
 unfold m_graph_Step at h
 refine Pure.of_body Tryz.func79 rfl rfl (lb rfl) fun hf => ?_
 unfold Tryz.f79
 dsimp only [enumS, Nat.reduceAdd]
 refine AW.rgs rfl fun K hK => b_op rfl (o_box rfl rfl rfl ?_)
 refine b_op rfl (o_box rfl rfl rfl ?_)
 refine mv rfl rfl (mv rfl rfl ?_)
 refine bf hK ⟨[(1, slE eInt p1), (3, gF p0), (5, .fptr [hI p2] 0)], []⟩ ?_
 refine AW.seq ?_
 refine AW.rgs rfl fun K hK => bv rfl (v_loadF ty24 rfl (l_litA rfl (lb rfl) rfl)) ?_
 obtain ⟨x1, h2, h⟩ := bS h
 refine b_op rfl (o_call rfl rfl rfl rfl (ACallD.pure0 (w_graph_Check h2)) ?_)
 refine bv rfl (v_bin rfl rfl b_neq) ?_
 refine bf hK ⟨[(1, slE eInt p1), (3, gF p0), (5, .fptr [hI p2] 0), (16, .bool (decide (x1 ≠ 0)))], []⟩ ?_
 refine AW.cond rfl (fun hc => ?_) (fun hc => ?_)
 ·obtain ⟨hc, h⟩ := cT hc h
  refine AW.rgs rfl fun K hK => mv rfl rfl (mv rfl rfl ?_)
  refine bf hK ⟨[(6, .v (.slice none 0 0)), (7, hI 1)], []⟩ ?_
  refine AW.to (to_weak ⟨[(6, slE eInt ([] : List Int)), (7, hI 1)], []⟩ ⟨⟨_, rfl, .nil _⟩, ⟨_, rfl, .refl _⟩, trivial⟩ trivial ?_)
  refine AW.ret ?_
  have h := Option.some.inj h
  subst h
  exact ret_pure (hs := [slE eInt ([] : List Int), hI 1]) (.inr rfl) (resT rfl (resT rfl rfl)) rfl ⟨(clean_slE fun _ _ => ⟨trivial, trivial⟩), trivial, trivial⟩
 obtain ⟨hc, h⟩ := cF hc h
 refine AW.skip ?_
 refine AW.seq ?_
 refine AW.rgs rfl fun K hK => bv rfl (v_loadF ty24 rfl (l_litA rfl (lb rfl) rfl)) (mv rfl rfl ?_)
 obtain ⟨x3, h4, h⟩ := bS h
 refine b_op rfl (o_call rfl rfl rfl rfl (ACallD.pure0 (w_graph_checkSet h4)) ?_)
 refine mv rfl rfl ?_
 refine bf hK ⟨[(1, slE eInt p1), (3, gF p0), (5, .fptr [hI p2] 0), (8, hI x3)], []⟩ ?_
 refine AW.rgs rfl fun K hK => mv rfl rfl (bv rfl (v_bin rfl rfl b_neq) ?_)
 refine bf hK ⟨[(1, slE eInt p1), (3, gF p0), (5, .fptr [hI p2] 0), (8, hI x3), (21, .bool (decide (x3 ≠ 0)))], []⟩ ?_
 refine AW.cond rfl (fun hc => ?_) (fun hc => ?_)
 ·obtain ⟨hc, h⟩ := cT hc h
  refine AW.rgs rfl fun K hK => mv rfl rfl (mv rfl rfl (mv rfl rfl ?_))
  refine bf hK ⟨[(6, .v (.slice none 0 0)), (7, hI x3)], []⟩ ?_
  refine AW.to (to_weak ⟨[(6, slE eInt ([] : List Int)), (7, hI x3)], []⟩ ⟨⟨_, rfl, .nil _⟩, ⟨_, rfl, .refl _⟩, trivial⟩ trivial ?_)
  refine AW.ret ?_
  have h := Option.some.inj h
  subst h
  exact ret_pure (hs := [slE eInt ([] : List Int), hI x3]) (.inr rfl) (resT rfl (resT rfl rfl)) rfl ⟨(clean_slE fun _ _ => ⟨trivial, trivial⟩), trivial, trivial⟩
 obtain ⟨hc, h⟩ := cF hc h
 refine AW.skip ?_
 refine AW.seq ?_
 refine AW.seqJ h (S := Bool) (V := Unit) (fun a v => ⟨[(1, slE eInt p1), (3, gF p0), (5, .fptr [hI p2] 0), (30, .bool a)], []⟩) (fun a5 w6 h => ?_) (fun k7 h => ?_)
 ·refine AW.cond rfl (fun hc => ?_) (fun hc => ?_)
  ·have h := ifT hc h
   refine AW.rgs rfl fun K hK => mv rfl rfl (mv rfl rfl ?_)
   refine bf hK ⟨[(6, .v (.slice none 0 0)), (7, hI 2)], []⟩ ?_
   refine AW.to (to_weak ⟨[(6, slE eInt ([] : List Int)), (7, hI 2)], []⟩ ⟨⟨_, rfl, .nil _⟩, ⟨_, rfl, .refl _⟩, trivial⟩ trivial ?_)
   refine AW.ret ?_
   have h := Option.some.inj h
   subst h
   exact ret_pure (hs := [slE eInt ([] : List Int), hI 2]) (.inr rfl) (resT rfl (resT rfl rfl)) rfl ⟨(clean_slE fun _ _ => ⟨trivial, trivial⟩), trivial, trivial⟩
  have h := ifF (bF' hc) h
  refine AW.skip ?_
  refine AW.rgs rfl fun K hK => b_op rfl (o_alloc (fid := 79) (zs := [.v (.slice none 0 0)]) 79009 rfl rfl ty55 rfl (fun v8 => ?_))
  refine bf hK ⟨[(1, slE eInt p1), (3, gF p0), (5, .fptr [hI p2] 0), (9, .ptr 79009 v8 0)], [(79009, v8, .arr 1 55 [.v (.slice none 0 0)])]⟩ ?_
  refine AW.seq ?_
  refine AW.rgs rfl fun K hK => mv rfl rfl (bv rfl (v_lenF rfl rfl ty55 rfl) (mv rfl rfl ?_))
  refine bf hK ⟨[(3, gF p0), (5, .fptr [hI p2] 0), (9, .ptr 79009 v8 0), (31, slE eInt p1), (32, hI ((p1).length : Int)), (33, hI 0)], [(79009, v8, .arr 1 55 [.v (.slice none 0 0)])]⟩ ?_
  refine AW.lpX h (by first | exact up_then | exact up_to) (S := Int × (List Int)) (V := Nat) (fun a v => ⟨[(3, gF p0), (5, .fptr [hI p2] 0), (9, .ptr 79009 v8 0), (31, slE eInt p1), (32, hI ((p1).length : Int)), (33, hI a.1)], [(79009, v8, .arr 1 55 [.ar 79050 v eInt.k 0 ((a.2).length)]), (79050, v, .arr eInt.k 3 (eInt.E a.2))]⟩) ?_ (X := (List Int)) (W := Nat) (fun a v => ⟨[(9, .ptr 79009 v8 0)], [(79009, v8, .arr 1 55 [.ar 79050 v eInt.k 0 ((a).length)]), (79050, v, .arr eInt.k 3 (eInt.E a))]⟩) (fun a31 w32 h => ?_) (fun a9 w10 st11 h => ?_)
  ·refine to_bind (to_ownC 79050 79009 v8 1 0 eInt.k 3 55 rfl rfl (by decide) fun v30 => ?_)
   exact to_le (s' := ⟨[(3, gF p0), (5, .fptr [hI p2] 0), (9, .ptr 79009 v8 0), (31, slE eInt p1), (32, hI ((p1).length : Int)), (33, hI 0)], [(79009, v8, .arr 1 55 [.ar 79050 v30 eInt.k 0 ((([] : List Int)).length)]), (79050, v30, .arr eInt.k 3 (eInt.E ([] : List Int)))]⟩) (AS.le_of ⟨rfl, rfl, rfl, rfl, rfl, rfl, trivial⟩ ⟨hle rfl (by first | rfl | simp only [List.length_set, sortI_len, sortS_len]), rfl, trivial⟩) ⟨v30, rfl⟩
  ·refine AW.rgs rfl fun K hK => bv rfl (v_loadP ty55 rfl rfl (l_lit rfl rfl)) ?_
   obtain ⟨h33, h⟩ := ifN h
   refine b_op rfl (o_sortI c_sortI (l := a31) rfl rfl rfl rfl h33 ?_)
   refine b_fin hK (s' := ⟨[(9, .ptr 79009 v8 0)], [(79009, v8, .arr 1 55 [.ar 79050 w32 eInt.k 0 ((sortI a31).length)]), (79050, w32, .arr eInt.k 3 (eInt.E (sortI a31)))]⟩) (AS.le_of ⟨rfl, trivial⟩ ⟨hle rfl (by first | rfl | simp only [List.length_set, sortI_len, sortS_len]), rfl, trivial⟩) ?_
   refine AW.rgs rfl fun K hK => bv rfl (v_loadP ty55 rfl rfl (l_lit rfl rfl)) ?_
   refine b_op rfl (o_callK (q := slE eInt (compact_ (sortI a31))) [(79009, v8, .arr 1 55 [.ar 79050 w32 eInt.k 0 ((sortI a31).length)])] rfl rfl rfl rfl (fun K hK => c_compactI (H' := [(79009, v8, .arr 1 55 [.ar 79050 w32 eInt.k 0 ((sortI a31).length)])]) (l := sortI a31) rfl rfl (leH_get ⟨rfl, trivial⟩) rfl hK) ?_)
   refine mv rfl rfl (mv rfl rfl ?_)
   refine bf hK ⟨[(6, slE eInt (compact_ (sortI a31))), (7, hI 0)], []⟩ ?_
   refine AW.ret ?_
   have h := Option.some.inj h
   subst h
   exact ret_pure (hs := [slE eInt (compact_ (sortI a31)), hI 0]) (.inr rfl) (resT rfl (resT rfl rfl)) rfl ⟨(clean_slE fun _ _ => ⟨trivial, trivial⟩), trivial, trivial⟩
  refine AW.rgs rfl fun K hK => bv rfl (v_bin rfl rfl b_lss) ?_
  refine bf hK ⟨[(3, gF p0), (5, .fptr [hI p2] 0), (9, .ptr 79009 v8 0), (31, slE eInt p1), (32, hI ((p1).length : Int)), (33, hI a9.1), (34, .bool (decide (a9.1 < ((p1).length : Int))))], [(79009, v8, .arr 1 55 [.ar 79050 w10 eInt.k 0 ((a9.2).length)]), (79050, w10, .arr eInt.k 3 (eInt.E a9.2))]⟩ ?_
  refine AW.cseq rfl (fun hc => ?_) (fun hc => ?_)
  ·obtain ⟨hc, h⟩ := cT hc h
   refine AW.skip ?_
   refine AW.seq (AW.block ?_)
   refine AW.rgs rfl fun K hK => ?_
   obtain ⟨x13, h14, h⟩ := bS h
   refine bv rfl (v_idxF ty55 es55 rfl rfl (idx_lt h14)) (bv rfl (v_loadF ty3 rfl (l_cell eInt h14 (o := 0) rfl rfl)) (mv rfl rfl ?_))
   refine bf hK ⟨[(3, gF p0), (5, .fptr [hI p2] 0), (9, .ptr 79009 v8 0), (11, hI x13), (31, slE eInt p1), (32, hI ((p1).length : Int)), (33, hI a9.1)], [(79009, v8, .arr 1 55 [.ar 79050 w10 eInt.k 0 ((a9.2).length)]), (79050, w10, .arr eInt.k 3 (eInt.E a9.2))]⟩ ?_
   refine AW.rgs rfl fun K hK => bv rfl (v_loadF ty24 rfl (l_litA rfl (lb rfl) rfl)) (mv rfl rfl ?_)
   refine b_op rfl (o_call rfl rfl rfl rfl (ACallD.pure0 (w_graph_leaving p0 x13)) ?_)
   refine bf hK ⟨[(3, gF p0), (5, .fptr [hI p2] 0), (9, .ptr 79009 v8 0), (31, slE eInt p1), (32, hI ((p1).length : Int)), (33, hI a9.1), (39, .fn (.func 124) [] [gF p0, .fptr [hI x13] 0])], [(79009, v8, .arr 1 55 [.ar 79050 w10 eInt.k 0 ((a9.2).length)]), (79050, w10, .arr eInt.k 3 (eInt.E a9.2))]⟩ ?_
   refine AW.block ?_
   refine AW.to (to_le (s' := ⟨[(3, gF p0), (5, .fptr [hI p2] 0), (9, .ptr 79009 v8 0), (31, slE eInt p1), (32, hI ((p1).length : Int)), (33, hI a9.1), (39, .fn (.func 124) [] [gF p0, .fptr [hI x13] 0])], [(79009, v8, .arr 1 55 [.ar 79050 w10 eInt.k 0 ((a9.2).length)]), (79050, w10, .arr eInt.k 3 (eInt.E a9.2))]⟩) (le_q rfl rfl) ?_)
   obtain ⟨L15, h16, h⟩ := bS h
   refine AW.rangeY (c := .ret) 79900 (fun x => [hI x.1, .agg [hI x.2.1, hI x.2.2.1, hI x.2.2.2]]) h (by first | exact up_then | exact up_to) rfl (iy_graph_leaving h16) (S := (List Int)) (V := Nat) (fun a v => [(79009, v8, .arr 1 55 [.ar 79050 v eInt.k 0 ((a).length)]), (79050, v, .arr eInt.k 3 (eInt.E a))]) w10 (X := Unit) (W := Unit) (fun _ _ => []) (fun _ _ => rfl) (fun _ _ => rfl) rfl (fun _ => rfl) (fun a26 w27 h => ?_) (fun a28 w29 h => ?_) (fun Lo l22 v20 a17 x19 w18 st21 h => ?_)
   ·refine AW.rg rfl fun K hK => bv rfl (v_bin rfl rfl b_add) (mv rfl rfl ?_)
    refine b_nil (hK _ ?_)
    exact to_L ⟨(IntKind.wrap .i64 (a9.1 + 1), a26), w27, h, rfl⟩
   ·cases h
   refine AW.rg rfl fun K hK => b_op rfl (o_alloc (fid := 79) (zs := [hI 0, hI 0, hI 0]) 79013 rfl rfl ty44 rfl (fun v23 => ?_))
   refine b_op rfl (o_store (cs := [hI x19.2.1, hI x19.2.2.1, hI x19.2.2.2]) (zs := [hI x19.2.1, hI x19.2.2.1, hI x19.2.2.2]) rfl rfl rfl ty44 rfl rfl rfl rfl rfl ?_)
   refine b_nil (hK _ ?_)
   refine ⟨rfl, rfl, ?_⟩
   refine AW.block ?_
   refine AW.rgs rfl fun K hK => bv rfl (v_fieldAddrP fo44_1 rfl rfl) (bv rfl (v_loadP ty3 rfl rfl (l_lit rfl rfl)) (bv rfl (v_loadF ty3 rfl (l_lit rfl rfl)) (bv rfl (v_bin rfl rfl b_eql) ?_)))
   refine bf hK ⟨[(3, gF p0), (5, .fptr [hI p2] 0), (9, .ptr 79009 v8 0), (13, .ptr 79013 v23 0), (31, slE eInt p1), (32, hI ((p1).length : Int)), (33, hI a9.1), (41, .agg [hI x19.2.1, hI x19.2.2.1, hI x19.2.2.2]), (45, .bool (decide (x19.2.2.1 = p2)))], [(79900, v20, Lo .busy none), (79009, v8, .arr 1 55 [.ar 79050 w18 eInt.k 0 ((a17).length)]), (79050, w18, .arr eInt.k 3 (eInt.E a17)), (79013, v23, .arr 3 44 [hI x19.2.1, hI x19.2.2.1, hI x19.2.2.2])]⟩ ?_
   refine AW.cond rfl (fun hc => ?_) (fun hc => ?_)
   ·obtain ⟨hc, h⟩ := cT hc h
    refine AW.rg rfl fun K hK => bv rfl (v_loadP ty55 rfl rfl (l_lit rfl rfl)) (bv rfl (v_fieldAddrP fo44_2 rfl rfl) (bv rfl (v_loadP ty3 rfl rfl (l_lit rfl rfl)) ?_))
    refine b_op rfl (o_bsl rfl rfl (as_of (cs := [hI x19.2.2.2]) ty55 ty3 rfl rfl rfl rfl rfl) ?_)
    obtain ⟨h25, h⟩ := ifN h
    refine b_op rfl (o_appE eInt (l := a17) (m := [x19.2.2.2]) rfl rfl ty55 ty55 ty3 rfl rfl rfl rfl rfl h25 (fun v24 => ?_))
    refine b_op rfl (o_store (cs := [.ar 79050 v24 eInt.k 0 ((a17 ++ [x19.2.2.2]).length)]) (zs := [.ar 79050 v24 eInt.k 0 ((a17 ++ [x19.2.2.2]).length)]) rfl rfl rfl ty55 rfl rfl rfl rfl rfl ?_)
    refine b_nil (hK _ ?_)
    exact ⟨a17 ++ [x19.2.2.2], v24, h, (AS.le_of trivial ⟨rfl, rfl, rfl, trivial⟩)⟩
   obtain ⟨hc, h⟩ := cF hc h
   refine AW.skip ?_
   exact ⟨a17, w18, h, (AS.le_of trivial ⟨rfl, rfl, rfl, trivial⟩)⟩
  obtain ⟨hc, h⟩ := cF hc h
  refine AW.exit ?_
  exact to_L ⟨a9.2, w10, h, rfl⟩
 refine AW.rg rfl fun K hK => bv rfl (v_loadF ty3 rfl (l_lit rfl rfl)) (bv rfl (v_bin rfl rfl b_lss) (mv rfl rfl ?_))
 by_cases hg34 : p2 < 0
 ·have h := ifT hg34 h
  refine b_F rfl rfl rfl rfl rfl (decide_eq_true hg34) ?_
  refine b_F rfl rfl rfl rfl rfl rfl ?_
  refine b_F rfl rfl rfl rfl rfl rfl ?_
  refine b_F rfl rfl rfl rfl rfl rfl ?_
  refine bv rfl (v_pickT rfl rfl rfl) ?_
  refine b_nil (hK _ ?_)
  exact to_L ⟨true, (), h, rfl⟩
 have h := ifF hg34 h
 refine b_T rfl rfl rfl rfl (decide_eq_false hg34) (o_val rfl (v_loadF ty3 rfl (l_lit rfl rfl)) ?_)
 refine b_T rfl rfl rfl rfl rfl (o_val rfl (v_fieldAddrF fo24_0 rfl) ?_)
 refine b_T rfl rfl rfl rfl rfl (o_val rfl (v_loadF ty3 rfl (l_lit rfl rfl)) ?_)
 refine b_T rfl rfl rfl rfl rfl (o_val rfl (v_bin rfl rfl b_geq) ?_)
 refine bv rfl (v_pickF rfl rfl rfl) ?_
 refine b_nil (hK _ ?_)
 exact to_L ⟨decide (p0.1 ≤ p2), (), h, rfl⟩
theorem w_language_step {p0 : TLabelsStatesEdges} {p1 : List (Int)} {p2 : Int} {r : (List (Int))} (h : m_language_step p0 p1 p2 = some r) : Pure Tryz.prog 53 [gA p0, slE eInt p1, .int .u8 p2] (· = slE eInt r) := by
 unfold m_language_step at h
 refine Pure.of_body Tryz.func53 rfl rfl (lb rfl) fun hf => ?_
 unfold Tryz.f53
 dsimp only [enumS, Nat.reduceAdd]
 refine AW.rgs rfl fun K hK => b_op rfl (o_box rfl rfl rfl ?_)
 refine mv rfl rfl ?_
 refine bf hK ⟨[(1, slE eInt p1), (2, .int .u8 p2), (3, gF p0)], []⟩ ?_
 refine AW.dgs 10 follows rfl rfl fun K hK => ?_
 refine sv rfl (v_loadF ty24 rfl (l_litA rfl (lb rfl) rfl)) ?_
 refine sm rfl rfl ?_
 refine sm rfl rfl ?_
 obtain ⟨x1, h2, h⟩ := bS h
 refine s_op rfl rfl (ops_call rfl rfl rfl rfl (ACallD.pure0 (w_strings_IndexByte h2)) ?_)
 obtain ⟨x3, h4, h⟩ := bS h
 refine s_op rfl rfl (ops_call rfl rfl rfl rfl (ACallD.pure0 (w_graph_Step h4)) ?_)
 refine sm rfl rfl ?_
 refine sv rfl (v_extract rfl rfl) ?_
 refine sv rfl (v_extract rfl rfl) ?_
 refine sm rfl rfl ?_
 refine sm rfl rfl ?_
 refine s_nil ?_
 refine bf hK ⟨[(7, slE eInt x3.1)], []⟩ ?_
 refine AW.rgs rfl fun K hK => mv rfl rfl (mv rfl rfl ?_)
 refine bf hK ⟨[(6, slE eInt x3.1)], []⟩ ?_
 refine AW.ret ?_
 have h := Option.some.inj h
 subst h
 exact ret_pure (hs := [slE eInt x3.1]) (.inr rfl) (resT rfl rfl) rfl (clean_slE fun _ _ => ⟨trivial, trivial⟩)
theorem w_language_states {p0 : TLabelsStatesEdges} {r : (List (Int))} (h : m_language_states p0 = some r) : Pure Tryz.prog 34 [gA p0] (· = slE eInt r) := by
 unfold m_language_states at h
 refine Pure.of_body Tryz.func34 rfl rfl (lb rfl) fun hf => ?_
 unfold Tryz.f34
 dsimp only [enumS, Nat.reduceAdd]
 refine AW.rgs rfl fun K hK => b_op rfl (o_box rfl rfl rfl ?_)
 refine mv rfl rfl ?_
 refine bf hK ⟨[(1, gF p0)], []⟩ ?_
 refine AW.rgs rfl fun K hK => bv rfl (v_fieldAddrF fo24_1 rfl) (bv rfl (v_loadF ty3 rfl (l_lit rfl rfl)) ?_)
 obtain ⟨h2, h⟩ := ifN h
 refine b_op rfl (o_makeE (fid := 34) eInt (0 : Int) 34007 rfl rfl ty55 rfl rfl ty3 rfl rfl h2 (fun v1 => ?_))
 refine mv rfl rfl ?_
 refine bf hK ⟨[(3, .ar 34007 v1 eInt.k 0 ((List.replicate (p0.2.1).toNat (0 : Int)).length))], [(34007, v1, .arr eInt.k 3 (eInt.E (List.replicate (p0.2.1).toNat (0 : Int))))]⟩ ?_
 refine AW.seq ?_
 refine AW.rgs rfl fun K hK => mv rfl rfl (bv rfl (v_lenA rfl rfl ty55 rfl rfl) (mv rfl rfl ?_))
 refine bf hK ⟨[(3, .ar 34007 v1 eInt.k 0 ((List.replicate (p0.2.1).toNat (0 : Int)).length)), (9, hI (((List.replicate (p0.2.1).toNat (0 : Int)).length : Nat) : Int)), (10, hI 0)], [(34007, v1, .arr eInt.k 3 (eInt.E (List.replicate (p0.2.1).toNat (0 : Int))))]⟩ ?_
 refine AW.lpX h (by first | exact up_then | exact up_to) (S := Int × (List Int)) (V := Unit) (fun a v => ⟨[(3, .ar 34007 v1 eInt.k 0 ((a.2).length)), (9, hI (((List.replicate (p0.2.1).toNat (0 : Int)).length : Nat) : Int)), (10, hI a.1)], [(34007, v1, .arr eInt.k 3 (eInt.E a.2))]⟩) ?_ (X := (List Int)) (W := Unit) (fun a v => ⟨[(3, .ar 34007 v1 eInt.k 0 ((a).length))], [(34007, v1, .arr eInt.k 3 (eInt.E a))]⟩) (fun a9 w10 h => ?_) (fun a3 w4 st5 h => ?_)
 ·exact to_L ⟨(), rfl⟩
 ·refine AW.rgs rfl fun K hK => mv rfl rfl (mv rfl rfl ?_)
  refine bf hK ⟨[(2, .ar 34007 v1 eInt.k 0 ((a9).length))], [(34007, v1, .arr eInt.k 3 (eInt.E a9))]⟩ ?_
  refine AW.to (to_frz 2 [(34007, v1, .arr eInt.k 3 (eInt.E a9))] ⟨[(2, slE eInt a9)], []⟩ ⟨⟨_, rfl, frz_slE eInt (l := a9) rfl fun _ _ => rfl⟩, trivial⟩ trivial ⟨rfl, trivial⟩ ⟨rfl, trivial⟩ ?_)
  refine AW.ret ?_
  have h := Option.some.inj h
  subst h
  exact ret_pure (hs := [slE eInt a9]) (.inr rfl) (resT rfl rfl) rfl (clean_slE fun _ _ => ⟨trivial, trivial⟩)
 refine AW.rgs rfl fun K hK => bv rfl (v_bin rfl rfl b_lss) ?_
 refine bf hK ⟨[(3, .ar 34007 v1 eInt.k 0 ((a3.2).length)), (9, hI (((List.replicate (p0.2.1).toNat (0 : Int)).length : Nat) : Int)), (10, hI a3.1), (11, .bool (decide (a3.1 < (((List.replicate (p0.2.1).toNat (0 : Int)).length : Nat) : Int))))], [(34007, v1, .arr eInt.k 3 (eInt.E a3.2))]⟩ ?_
 refine AW.cseq rfl (fun hc => ?_) (fun hc => ?_)
 ·obtain ⟨hc, h⟩ := cT hc h
  refine AW.skip ?_
  refine AW.seq (AW.block ?_)
  refine AW.rgs rfl fun K hK => mv rfl rfl (mv rfl rfl ?_)
  refine bf hK ⟨[(3, .ar 34007 v1 eInt.k 0 ((a3.2).length)), (4, hI a3.1), (9, hI (((List.replicate (p0.2.1).toNat (0 : Int)).length : Nat) : Int)), (10, hI a3.1)], [(34007, v1, .arr eInt.k 3 (eInt.E a3.2))]⟩ ?_
  refine AW.rg rfl fun K hK => mv rfl rfl (mv rfl rfl (mv rfl rfl ?_))
  obtain ⟨x7, h8, h⟩ := bS h
  refine bv rfl (v_idxA ty55 es55 rfl rfl (idx_lt h8) rfl) ?_
  refine b_op rfl (o_storeE eInt (l := a3.2) (j := a3.1) (v := a3.1) rfl rfl rfl ty3 rfl rfl rfl (idx_lt h8) ?_)
  refine b_fin hK (s' := ⟨[(3, .ar 34007 v1 eInt.k 0 (((a3.2).set (a3.1).toNat a3.1).length)), (9, hI (((List.replicate (p0.2.1).toNat (0 : Int)).length : Nat) : Int)), (10, hI a3.1)], [(34007, v1, .arr eInt.k 3 (eInt.E ((a3.2).set (a3.1).toNat a3.1)))]⟩) (AS.le_of ⟨arl (by first | rfl | simp only [List.length_set, sortI_len, sortS_len]), rfl, rfl, trivial⟩ ⟨rfl, trivial⟩) ?_
  refine AW.rg rfl fun K hK => bv rfl (v_bin rfl rfl b_add) (mv rfl rfl ?_)
  refine b_nil (hK _ ?_)
  exact to_L ⟨(IntKind.wrap .i64 (a3.1 + 1), (a3.2).set (a3.1).toNat a3.1), (), h, rfl⟩
 obtain ⟨hc, h⟩ := cF hc h
 refine AW.exit ?_
 exact to_L ⟨a3.2, (), h, rfl⟩
theorem w_language_check {p0 : TLabelsStatesEdges} {r : Int} (h : m_language_check p0 = some r) : Pure Tryz.prog 52 [gA p0] (· = hI r) := by
 unfold m_language_check at h
 refine Pure.of_body Tryz.func52 rfl rfl (lb rfl) fun hf => ?_
 unfold Tryz.f52
 dsimp only [enumS, Nat.reduceAdd]
 refine AW.rgs rfl fun K hK => b_op rfl (o_box rfl rfl rfl ?_)
 refine mv rfl rfl ?_
 refine bf hK ⟨[(1, gF p0)], []⟩ ?_
 refine AW.seq (AW.block ?_)
 refine AW.rgs rfl fun K hK => bv rfl (v_loadF ty24 rfl (l_litA rfl (lb rfl) rfl)) ?_
 obtain ⟨x1, h2, h⟩ := bS h
 refine b_op rfl (o_call rfl rfl rfl rfl (ACallD.pure0 (w_graph_Check h2)) ?_)
 refine bv rfl (v_bin rfl rfl b_neq) (mv rfl rfl ?_)
 refine bf hK ⟨[(1, gF p0), (3, .bool (decide (x1 ≠ 0)))], []⟩ ?_
 refine AW.cond rfl (fun hc => ?_) (fun hc => ?_)
 ·obtain ⟨hc, h⟩ := cT hc h
  refine AW.rgs rfl fun K hK => mv rfl rfl ?_
  refine bf hK ⟨[(2, hI 1)], []⟩ ?_
  refine AW.ret ?_
  have h := Option.some.inj h
  subst h
  exact ret_pure (hs := [hI 1]) (.inr rfl) (resT rfl rfl) rfl trivial
 obtain ⟨hc, h⟩ := cF hc h
 refine AW.rgs rfl fun K hK => bv rfl (v_fieldAddrF fo24_0 rfl) (bv rfl (v_loadF ty3 rfl (l_lit rfl rfl)) (bv rfl (v_bin rfl rfl b_gtr) (mv rfl rfl ?_)))
 refine bf hK ⟨[(7, .bool (decide (16 < p0.1)))], []⟩ ?_
 refine AW.cond rfl (fun hc => ?_) (fun hc => ?_)
 ·obtain ⟨hc, h⟩ := cT hc h
  refine AW.rgs rfl fun K hK => mv rfl rfl ?_
  refine bf hK ⟨[(2, hI 12)], []⟩ ?_
  refine AW.ret ?_
  have h := Option.some.inj h
  subst h
  exact ret_pure (hs := [hI 12]) (.inr rfl) (resT rfl rfl) rfl trivial
 obtain ⟨hc, h⟩ := cF hc h
 refine AW.skip ?_
 refine AW.rgs rfl fun K hK => mv rfl rfl ?_
 refine bf hK ⟨[(2, hI 0)], []⟩ ?_
 refine AW.ret ?_
 have h := Option.some.inj h
 subst h
 exact ret_pure (hs := [hI 0]) (.inr rfl) (resT rfl rfl) rfl trivial
theorem w_language_lengths {p0 : TLabelsStatesEdges} {p1 : Int} {r : Int} (h : m_language_lengths p0 p1 = some r) : Pure Tryz.prog 32 [gA p0, hI p1] (· = hI r) := by
 unfold m_language_lengths at h
 refine Pure.of_body Tryz.func32 rfl rfl (lb rfl) fun hf => ?_
 unfold Tryz.f32
 dsimp only [enumS, Nat.reduceAdd]
 refine AW.rgs rfl fun K hK => b_op rfl (o_box rfl rfl rfl ?_)
 refine mv rfl rfl ?_
 refine bf hK ⟨[(1, hI p1), (2, gF p0)], []⟩ ?_
 refine AW.seq ?_
 refine AW.rgs rfl fun K hK => bv rfl (v_loadF ty24 rfl (l_litA rfl (lb rfl) rfl)) ?_
 obtain ⟨x1, h2, h⟩ := bS h
 refine b_op rfl (o_call rfl rfl rfl rfl (ACallD.pure0 (w_language_check h2)) ?_)
 refine mv rfl rfl ?_
 refine bf hK ⟨[(1, hI p1), (5, hI x1)], []⟩ ?_
 refine AW.rgs rfl fun K hK => mv rfl rfl (bv rfl (v_bin rfl rfl b_neq) ?_)
 refine bf hK ⟨[(1, hI p1), (5, hI x1), (9, .bool (decide (x1 ≠ 0)))], []⟩ ?_
 refine AW.cond rfl (fun hc => ?_) (fun hc => ?_)
 ·obtain ⟨hc, h⟩ := cT hc h
  refine AW.rgs rfl fun K hK => mv rfl rfl (mv rfl rfl ?_)
  refine bf hK ⟨[(4, hI x1)], []⟩ ?_
  refine AW.ret ?_
  have h := Option.some.inj h
  subst h
  exact ret_pure (hs := [hI x1]) (.inr rfl) (resT rfl rfl) rfl trivial
 obtain ⟨hc, h⟩ := cF hc h
 refine AW.skip ?_
 refine AW.seq ?_
 refine AW.seqJ h (S := Bool) (V := Unit) (fun a v => ⟨[(16, .bool a)], []⟩) (fun a3 w4 h => ?_) (fun k5 h => ?_)
 ·refine AW.cond rfl (fun hc => ?_) (fun hc => ?_)
  ·have h := ifT hc h
   refine AW.rgs rfl fun K hK => mv rfl rfl ?_
   refine bf hK ⟨[(4, hI 2)], []⟩ ?_
   refine AW.ret ?_
   have h := Option.some.inj h
   subst h
   exact ret_pure (hs := [hI 2]) (.inr rfl) (resT rfl rfl) rfl trivial
  have h := ifF (bF' hc) h
  refine AW.skip ?_
  refine AW.rgs rfl fun K hK => mv rfl rfl ?_
  refine bf hK ⟨[(4, hI 0)], []⟩ ?_
  refine AW.ret ?_
  have h := Option.some.inj h
  subst h
  exact ret_pure (hs := [hI 0]) (.inr rfl) (resT rfl rfl) rfl trivial
 refine AW.rg rfl fun K hK => mv rfl rfl (bv rfl (v_bin rfl rfl b_lss) (mv rfl rfl ?_))
 by_cases hg6 : p1 < 0
 ·have h := ifT hg6 h
  refine b_F rfl rfl rfl rfl rfl (decide_eq_true hg6) ?_
  refine b_F rfl rfl rfl rfl rfl rfl ?_
  refine bv rfl (v_pickT rfl rfl rfl) ?_
  refine b_nil (hK _ ?_)
  exact to_L ⟨true, (), h, rfl⟩
 have h := ifF hg6 h
 refine b_T rfl rfl rfl rfl (decide_eq_false hg6) (o_val rfl (mv_val rfl rfl).2 ?_)
 refine b_T rfl rfl rfl rfl rfl (o_val rfl (v_bin rfl rfl b_gtr) ?_)
 refine bv rfl (v_pickF rfl rfl rfl) ?_
 refine b_nil (hK _ ?_)
 exact to_L ⟨decide (4096 < p1), (), h, rfl⟩
end Go.AW

namespace Go.AW
open Go Go.Proofs
set_option linter.unusedVariables false
theorem list_steps {g : TLabelsStatesEdges} {set : List Int} (h : StepsOk g set) : ∃ A : List Int → Prop, A set ∧ (∀ a c, A a → c ∈ letters.take g.1.toNat → A (stpM g a c)) ∧
  ∀ a c, A a → c ∈ letters.take g.1.toNat → Pure Tryz.prog 53 [HV.agg [HV.int .i64 g.1, HV.int .i64 g.2.1, slE eFromLabelTo g.2.2], ints a, .int .u8 c.toNat] (· = ints (stpM g a c)) := by
 obtain ⟨A, h0, hs⟩ := h
 refine ⟨A, h0, fun a c ha hc => ?_, fun a c ha hc => ?_⟩
 ·obtain ⟨b, hb, hA⟩ := hs a c ha hc
  simp only [stpM, hb, Option.getD_some]
  exact hA
 ·obtain ⟨b, hb, hA⟩ := hs a c ha hc
  simp only [stpM, hb, Option.getD_some]
  exact w_language_step hb
theorem c_listT {g : TLabelsStatesEdges} {set : List Int} {n : Int} {x : List WS × Bool} (h : m_language_list g set n = some x) (hx : x.2 = true) {K : HV → Heap → Prop}
  (hK : ∀ id ver es, es.Perm (x.1.map ent) ∧ (x.1.map (·.1)).Nodup ∧ x.1.length ≤ 1099511627776 → K (.tup [.mp id ver, .bool true]) [(id, ver, .map es)]) : ACall Tryz.prog 33 [HV.agg [HV.int .i64 g.1, HV.int .i64 g.2.1, slE eFromLabelTo g.2.2], slE eInt set, .int .i64 n] [] K := by
 unfold m_language_list at h
 split at h
 ·rename_i hc
  obtain ⟨h1, h2, h3, h4⟩ := hc
  cases h
  split at hx
  ·rename_i hok
   rw [if_pos hok] at hK
   obtain ⟨A, hA0, hA, hstep⟩ := list_steps h4
   obtain ⟨gl, gs, ge⟩ := g
   try dsimp only at h1
   try dsimp only at h2
   try dsimp only at hA
   try dsimp only at hstep
   try dsimp only at hok
   try dsimp only
   try dsimp only at hK
   obtain ⟨L, rfl⟩ := Int.eq_ofNat_of_zero_le h1
   obtain ⟨m, rfl⟩ := Int.eq_ofNat_of_zero_le h3
   simp only [Int.toNat_natCast] at hok hK hA hstep
   refine (w79 (L := L) (n := m) (gS := HV.int .i64 gs) (gE := slE eFromLabelTo ge) (by omega) rfl rfl hA0 hA hstep).mono ?_
   rintro r H' (⟨hok', id, ver, es, rfl, rfl, hes⟩ | ⟨j, j1, j2, j3, rfl, rfl⟩)
   ·refine hK id ver es ⟨hes, lvl_keys (letters_nodup.sublist (List.take_sublist _ _)) m, ?_⟩
    cases m with
    | zero => simp only [lvl]; split <;> simp
    | succ m => have := hok' (m + 1) (by omega) (Nat.le_refl _); omega
   ·have := okLvl_iff.1 hok j j1 j2
    omega
  ·cases hx
 ·cases h
theorem c_listF {g : TLabelsStatesEdges} {set : List Int} {n : Int} {x : List WS × Bool} (h : m_language_list g set n = some x) (hx : ¬ x.2 = true) {K : HV → Heap → Prop}
  (hK : K (.tup [.v (.map none), .bool false]) []) : ACall Tryz.prog 33 [HV.agg [HV.int .i64 g.1, HV.int .i64 g.2.1, slE eFromLabelTo g.2.2], slE eInt set, .int .i64 n] [] K := by
 unfold m_language_list at h
 split at h
 ·rename_i hc
  obtain ⟨h1, h2, h3, h4⟩ := hc
  cases h
  split at hx
  ·exact absurd rfl hx
  ·rename_i hok
   obtain ⟨A, hA0, hA, hstep⟩ := list_steps h4
   obtain ⟨gl, gs, ge⟩ := g
   try dsimp only at h1
   try dsimp only at h2
   try dsimp only at hA
   try dsimp only at hstep
   try dsimp only at hok
   try dsimp only
   obtain ⟨L, rfl⟩ := Int.eq_ofNat_of_zero_le h1
   obtain ⟨m, rfl⟩ := Int.eq_ofNat_of_zero_le h3
   simp only [Int.toNat_natCast] at hok hA hstep
   refine (w79 (L := L) (n := m) (gS := HV.int .i64 gs) (gE := slE eFromLabelTo ge) (by omega) rfl rfl hA0 hA hstep).mono ?_
   rintro r H' (⟨hok', id, ver, es, rfl, rfl, hes⟩ | ⟨j, j1, j2, j3, rfl, rfl⟩)
   ·exact absurd (okLvl_iff.2 hok') hok
   ·exact hK
 ·cases h
theorem c_sortedKeys {id ver : Nat} {es : List (List UInt8 × HV)} {l : List WS} (hes : es.Perm (l.map ent) ∧ (l.map (·.1)).Nodup ∧ l.length ≤ 1099511627776) {K : HV → Heap → Prop} (hK : K (slE eStr (sortS (l.map (·.1)))) []) :
  ACall Tryz.prog 35 [.fn (.func 56) [] [.fptr [.mp id ver] 0]] [(id, ver, .map es)] K := by
 obtain ⟨hp, hn, hb⟩ := hes
 have hlen : es.length = l.length := by rw [hp.length_eq, List.length_map]
 have hsk : sortS (es.map (·.1)) = sortS (l.map (·.1)) := by
  refine sortS_perm ?_
  have := hp.map (·.1)
  rw [List.map_map] at this
  exact this
 refine (w81 (f := id + 1) (perm_keys hp hn) (by omega) (by omega) (by omega) (by omega) (by omega)).conv' ?_
 rintro r H' (⟨he, rfl, rfl⟩ | ⟨id', av, hen, rfl, rfl⟩)
 ·have hl : l = [] := List.eq_nil_of_length_eq_zero (by rw [← hlen, he]; rfl)
  subst hl
  have e0 : sortS (([] : List WS).map (·.1)) = [] := List.eq_nil_of_length_eq_zero (by rw [sortS_len]; rfl)
  rw [e0] at hK
  exact ⟨slE eStr [], [], Conv.le (.nil 1), hK⟩
 ·refine ⟨_, [], Conv.all 2, ?_⟩
  have e : es.length = (sortS (es.map (·.1))).length := by rw [sortS_len, List.length_map]
  rw [e]
  have hf := frz_slE eStr (D := [(id', av, .arr 1 9 ((sortS (es.map (·.1))).map .str))]) (l := sortS (es.map (·.1))) hget_0 (fun _ _ => rfl)
  have hk2 := hK
  rw [← hsk, ← hf] at hk2
  exact hk2
end Go.AW
namespace Go.Proofs
open Go
def Tryz.index_ren : Go.Shelf.Ren := ⟨fun | 143 => 99 | 219 => 123 | 217 => 74 | 225 => 135 | 224 => 136 | 267 => 137 | 266 => 97 | 314 => 148 | n => n, fun | 9 => 9 | 3 => 3 | 4 => 4 | 5 => 5 | 46 => 117 | 146 => 159 | 51 => 153 | n => n, fun | 1 => 0 | n => n⟩
theorem Tryz.index : Go.Proofs.LaysM.n143 Tryz.prog Tryz.index_ren where
 mixed := by kernel_rfl
 f143 := Tryz.func99.trans (congrArg some (by kernel_rfl))
 f217 := Tryz.func74.trans (congrArg some (by kernel_rfl))
 f219 := Tryz.func123.trans (congrArg some (by kernel_rfl))
 f224 := Tryz.func136.trans (congrArg some (by kernel_rfl))
 f225 := Tryz.func135.trans (congrArg some (by kernel_rfl))
 f266 := Tryz.func97.trans (congrArg some (by kernel_rfl))
 f267 := Tryz.func137.trans (congrArg some (by kernel_rfl))
 f314 := Tryz.func148.trans (congrArg some (by kernel_rfl))
 t3 := Tryz.underlying3
 a3 := Tryz.isAgg3
 z3 := Tryz.sizeOf3
 v3 := Tryz.zeroValue3
 t4 := Tryz.underlying4
 a4 := Tryz.isAgg4
 z4 := Tryz.sizeOf4
 v4 := Tryz.zeroValue4
 t5 := Tryz.underlying5
 a5 := Tryz.isAgg5
 z5 := Tryz.sizeOf5
 v5 := Tryz.zeroValue5
 t9 := Tryz.underlying9
 a9 := Tryz.isAgg9
 z9 := Tryz.sizeOf9
 v9 := Tryz.zeroValue9
 t46 := Tryz.underlying117
 a46 := Tryz.isAgg117
 z46 := Tryz.sizeOf117
 v46 := Tryz.zeroValue117
 t51 := Tryz.underlying153
 a51 := Tryz.isAgg153
 z51 := Tryz.sizeOf153
 v51 := Tryz.zeroValue153
 t146 := Tryz.underlying159
 a146 := Tryz.isAgg159
 z146 := Tryz.sizeOf159
 v146 := Tryz.zeroValue159
 g1 := by kernel_rfl
 i3 := by kernel_rfl
 i4 := by kernel_rfl
 i5 := by kernel_rfl
 i9 := by kernel_rfl
 i46 := by kernel_rfl
 i51 := by kernel_rfl
 i146 := by kernel_rfl
 m1 := by kernel_rfl
 s1_3 := fun w h => Go.Proofs.cell_of_shapedOpen_int (zero := #[.int .i64 0]) (t := 3) h (of_decide_eq_true (by kernel_rfl)) (by kernel_rfl) rfl (by kernel_rfl) (by kernel_rfl) Tryz.underlying3
end Go.Proofs
namespace Go.AW
open Go
noncomputable def m_strings_Index (a b : List UInt8) : Option Int := if a.length < 4294967281 then some (Lib.index a b) else none
theorem index_wf (a b : List UInt8) (h : a.length < 4294967281) : (Lit.int .i64 (Lib.index a b)).wf = true := by
 have h1 := Lib.index_le a b
 have h2 := Lib.index_ge a b
 simp only [Lit.wf, IntKind.min, IntKind.max, IntKind.signed, IntKind.bits, Bool.and_eq_true, decide_eq_true_eq]
 simp
 omega
def occB (w u : List UInt8) (n : Nat) : List Int := ((List.range n).filter fun i => u.isPrefixOf (w.drop i)).map Int.ofNat
def occL (w u : List UInt8) : List Int := occB w u (w.length + 1)
def y_word_occurrences (u w : List UInt8) : Option (List Int) := if w.length < 4294967281 ∧ u.length ≤ 9223372036854775807 - 4294967281 then some (occL w u) else none
theorem occB_split (w u : List UInt8) {a b : Nat} (h : a ≤ b) : occB w u b = occB w u a ++ ((List.range' a (b - a)).filter fun i => u.isPrefixOf (w.drop i)).map Int.ofNat := by
 unfold occB
 rw [← List.map_append, ← List.filter_append]
 congr 2
 rw [List.range_eq_range', List.range_eq_range']
 have := List.range'_append_1 (s := 0) (m := a) (n := b - a)
 rw [Nat.zero_add] at this
 rw [this, show a + (b - a) = b by omega]
theorem prefix_len {u v : List UInt8} (h : u.isPrefixOf v = true) : u.length ≤ v.length := (List.isPrefixOf_iff_prefix.1 h).length_le
theorem occ_none {w u : List UInt8} {a b : Nat} (h : a ≤ b) (hn : ∀ i, a ≤ i → i < b → u.isPrefixOf (w.drop i) = false) : occB w u b = occB w u a := by
 rw [occB_split w u h]
 have : (List.range' a (b - a)).filter (fun i => u.isPrefixOf (w.drop i)) = [] := by
  rw [List.filter_eq_nil_iff]
  intro i hi
  have := List.mem_range'_1.1 hi
  rw [hn i this.1 (by omega)]
  decide
 rw [this]
 simp
theorem occ_one {w u : List UInt8} {a i : Nat} (h : a ≤ i) (hn : ∀ j, a ≤ j → j < i → u.isPrefixOf (w.drop j) = false) (hi : u.isPrefixOf (w.drop i) = true) : occB w u (i + 1) = occB w u a ++ [(i : Int)] := by
 rw [← occ_none h hn]
 unfold occB
 rw [List.range_succ, List.filter_append, List.map_append]
 congr 1
 rw [List.filter_cons, if_pos hi]
 rfl
theorem index_tells (w u : List UInt8) {a : Nat} (ha : a ≤ w.length) : (Lib.index (w.drop a) u < 0 ∧ ∀ i, a ≤ i → i < w.length + 1 → u.isPrefixOf (w.drop i) = false) ∨
  ∃ k : Nat, Lib.index (w.drop a) u = (k : Int) ∧ a + k ≤ w.length ∧ (∀ j, a ≤ j → j < a + k → u.isPrefixOf (w.drop j) = false) ∧ u.isPrefixOf (w.drop (a + k)) = true := by
 by_cases hex : ∃ k, k ≤ w.length - a ∧ u.isPrefixOf (w.drop (a + k)) = true
 ·right
  have hleast : ∃ k, (k ≤ w.length - a ∧ u.isPrefixOf (w.drop (a + k)) = true) ∧ ∀ m, (m ≤ w.length - a ∧ u.isPrefixOf (w.drop (a + m)) = true) → k ≤ m := least _ hex
  obtain ⟨k, ⟨h1, h2⟩, h3⟩ := hleast
  refine ⟨k, ?_, by omega, fun j hj1 hj2 => ?_, h2⟩
  ·refine Lib.index_first (by rw [List.length_drop]; exact h1) ?_ fun j hj => ?_
   ·unfold Lib.occAt
    rw [List.drop_drop]
    exact h2
   ·unfold Lib.occAt
    rw [List.drop_drop]
    cases hc : u.isPrefixOf (w.drop (a + j)) with
    | false => rfl
    | true => have := h3 j ⟨by omega, hc⟩; omega
  ·cases hc : u.isPrefixOf (w.drop j) with
   | false => rfl
   | true =>
    have := h3 (j - a) ⟨by omega, by rw [show a + (j - a) = j by omega]; exact hc⟩
    omega
 ·left
  have hno : ∀ i, a ≤ i → i < w.length + 1 → u.isPrefixOf (w.drop i) = false := fun i h1 h2 => by
   cases hc : u.isPrefixOf (w.drop i) with
   | false => rfl
   | true => exact absurd ⟨i - a, by omega, by rw [show a + (i - a) = i by omega]; exact hc⟩ hex
  refine ⟨?_, hno⟩
  rw [Lib.index_none]
  ·decide
  ·intro j hj
   unfold Lib.occAt
   rw [List.drop_drop]
   rw [List.length_drop] at hj
   exact hno (a + j) (by omega) (by omega)
end Go.AW
namespace Go.AW
open Go Go.Proofs
theorem w_strings_Index {a0 a1 : List UInt8} {r : Int} (h : m_strings_Index a0 a1 = some r) : Pure Tryz.prog 99 [HV.str a0, HV.str a1] (· = HV.int .i64 r) := by
 unfold m_strings_Index at h
 split at h
 ·rename_i hl
  cases h
  refine ⟨enters' Tryz.func99 rfl rfl, fun μ w vs hs hr hgl => ?_⟩
  obtain ⟨x, xs, rfl, ⟨rfl, _⟩, y, ys, rfl, ⟨rfl, _⟩, hn⟩ := hr
  cases hn
  obtain ⟨⟨m, hm⟩, _⟩ := hgl (Tryz.index_ren.g 1) (by decide)
  refine (Any.strings_Index { Tryz.index with } ⟨a0.toArray⟩ ⟨a1.toArray⟩ m w (by show a0.toArray.size < _; simpa using hl) hm).mono ?_
  rintro e w' ⟨rfl, rfl⟩
  exact ⟨_, _, [], μ, rfl, ⟨rfl, trivial, rfl⟩, hs, ⟨by simp, index_wf a0 a1 hl⟩, Evo.refl _ _⟩
 ·cases h
end Go.AW
namespace Go.AW
open Go
def fgo (mark w : List UInt8) : Nat → Nat
 | 0 => 0
 | n + 1 => if (mark.take (n + 1)).isSuffixOf w then n + 1 else fgo mark w n
def foll (mark : List UInt8) (k : Nat) (c : UInt8) : Nat := fgo mark (mark.take k ++ [c]) (min (mark.take k ++ [c]).length mark.length)
abbrev TStateReadBadLeft := Int × Int × Bool × Int
abbrev cStateReadBadLeft (x : TStateReadBadLeft) : List HV := [HV.int .i64 x.1, HV.int .i64 x.2.1, HV.bool x.2.2.1, HV.int .i64 x.2.2.2]
abbrev eStateReadBadLeft : EncL TStateReadBadLeft := encF 4 cStateReadBadLeft (fun _ => rfl)
abbrev TGMarkTableNextMemo := TLabelsStatesEdges × (List UInt8) × (List Int) × (List (List TFromLabelTo)) × (Nat × Nat)
abbrev cGMarkTableNextMemo (x : TGMarkTableNextMemo) : List HV := [HV.int .i64 x.1.1, HV.int .i64 x.1.2.1, slE eFromLabelTo x.1.2.2, HV.str x.2.1, HV.sl 16 ((x.2.2.1).length / 16) (eInt.E x.2.2.1), slE (eSl eFromLabelTo) x.2.2.2.1, HV.mp x.2.2.2.2.1 x.2.2.2.2.2]
def letB (a : Int) : UInt8 := letters.getD a.toNat 0
def stepF (mark : List UInt8) (p : TStateReadBadLeft) (x : TFromLabelTo) : TStateReadBadLeft :=
 (x.2.2, (foll mark p.2.1.toNat (letB x.2.1) : Int), p.2.2.1 || decide (foll mark p.2.1.toNat (letB x.2.1) = mark.length), p.2.2.2 - 1)
def endsG (mark : List UInt8) : List UInt8 → Nat → Bool
 | [], _ => false
 | c :: cs, n => if foll mark n c = mark.length ∧ cs ≠ [] then true else endsG mark cs (foll mark n c)
def endsF (mark : List UInt8) (p : TStateReadBadLeft) : Bool := endsG mark mark p.2.1.toNat || p.2.2.1
def leav (E : List TFromLabelTo) (s : Int) : List TFromLabelTo := E.filter fun x => decide (x.1 = s)
def canF (E : List TFromLabelTo) (mark : List UInt8) : Nat → TStateReadBadLeft → Bool
 | 0, p => endsF mark p
 | n + 1, p => (leav E p.1).any fun x => canF E mark n (stepF mark p x)
def canP (E : List TFromLabelTo) (mark : List UInt8) (p : TStateReadBadLeft) : Bool := canF E mark p.2.2.2.toNat p
section
variable (f : TStateReadBadLeft → Bool) (stp : TStateReadBadLeft → TFromLabelTo → TStateReadBadLeft) (nx : Int → List TFromLabelTo)
def aft1 (a : Int) (p : TStateReadBadLeft) (acc : List TStateReadBadLeft) (x : TFromLabelTo) : List TStateReadBadLeft :=
 if x.2.1 = a then if stp p x ∈ acc then acc else if f (stp p x) = true then acc ++ [stp p x] else acc else acc
def aftP (a : Int) (acc : List TStateReadBadLeft) (p : TStateReadBadLeft) : List TStateReadBadLeft := (nx p.1).foldl (aft1 f stp a p) acc
def aft (now : List TStateReadBadLeft) (a : Int) : List TStateReadBadLeft := now.foldl (aftP f stp nx a) []
def firstA (now : List TStateReadBadLeft) : List Int → Option (Int × List TStateReadBadLeft)
 | [] => none
 | a :: q => if aft f stp nx now a ≠ [] then some (a, aft f stp nx now a) else firstA now q
def growF (L : Int) : Nat → List TStateReadBadLeft → List UInt8
 | 0, _ => []
 | n + 1, now => match firstA f stp nx now ((List.range L.toNat).map Int.ofNat) with
  | none => []
  | some (a, l) => letB a :: growF L n l
end
def startF (g : TLabelsStatesEdges) (mark : List UInt8) (n : Int) : List TStateReadBadLeft :=
 ((List.range g.2.1.toNat).map fun (t : Nat) => (((t : Int), (mark.length : Int), false, n) : TStateReadBadLeft)).filter fun p => canP g.2.2 mark p
def badF (g : TLabelsStatesEdges) (mark : List UInt8) (n : Int) : List UInt8 × Bool :=
 if startF g mark n = [] then ([], false) else (growF (canP g.2.2 mark) (stepF mark) (leav g.2.2) g.1 n.toNat (startF g mark n), true)
def badOk (g : TLabelsStatesEdges) (mark : List UInt8) (n : Int) : Prop :=
 (0 ≤ g.1 ∧ g.1 ≤ 16) ∧ (0 ≤ g.2.1 ∧ g.2.1 ≤ 64) ∧ g.2.2.length ≤ 1024 ∧ (∀ x ∈ g.2.2, (0 ≤ x.1 ∧ x.1 < g.2.1) ∧ (0 ≤ x.2.1 ∧ x.2.1 < g.1) ∧ 0 ≤ x.2.2 ∧ x.2.2 < g.2.1) ∧
 mark ≠ [] ∧ mark.length ≤ 1000 ∧ (∀ c ∈ mark, c ∈ letters) ∧ 0 ≤ n ∧ n ≤ 1000000
instance (g : TLabelsStatesEdges) (mark : List UInt8) (n : Int) : Decidable (badOk g mark n) := by unfold badOk; infer_instance
def m_syncmark_bad (g : TLabelsStatesEdges) (mark : List UInt8) (n : Int) : Option (List UInt8 × Bool) :=
 if badOk g mark n then some (badF g mark n) else none
def m_law54_awake : Option Bool := some true
end Go.AW
namespace Go.AW
open Go
set_option linter.unusedVariables false
noncomputable def m_syncmark_search_step (p0 : TGMarkTableNextMemo) (p1 : TStateReadBadLeft) (p2 : TFromLabelTo) : Option (TStateReadBadLeft) :=
 if 0 ≤ (p1.2.1 : Int) ∧ (p1.2.1 : Int) < (((p0.2.2.1).length / 16 : Nat) : Int) then
  if 0 ≤ (p2.2.1 : Int) ∧ (p2.2.1 : Int) < 16 then
   ((p0.2.2.1)[(p1.2.1).toNat * 16 + (p2.2.1).toNat * 1]?).bind fun x4 =>
   jp (fun (a6 : Bool) =>
     some (p2.2.2, x4, a6, IntKind.wrap .i64 (p1.2.2.2 - 1)))
     fun k8 =>
    if p1.2.2.1 = true then
     k8 true
    else
     k8 (decide (x4 = ((p0.2.1).length : Int)))
  else none
 else none
noncomputable def m_syncmark_search_ends (p0 : TGMarkTableNextMemo) (p1 : TStateReadBadLeft) : Option (Bool) :=
 lpO (loopW (S := Int × Int) (X := Ou (Unit) (Bool)) (fun a1 =>
     if a1.2 < ((p0.2.1).length : Int) then
      (idx p0.2.1 a1.2).bind fun x5 =>
      (m_strings_IndexByte [48, 49, 50, 51, 52, 53, 54, 55, 56, 57, 97, 98, 99, 100, 101, 102] (x5.toNat : Int)).bind fun x7 =>
      if 0 ≤ (a1.1 : Int) ∧ (a1.1 : Int) < (((p0.2.2.1).length / 16 : Nat) : Int) then
       if 0 ≤ (x7 : Int) ∧ (x7 : Int) < 16 then
        ((p0.2.2.1)[(a1.1).toNat * 16 + (x7).toNat * 1]?).bind fun x11 =>
        jp (fun (a13 : Bool) =>
          if a13 = true then
           some (Stp.exit (Ou.ret true))
          else
           some (Stp.next (x11, IntKind.wrap .i64 (a1.2 + 1))))
          fun k15 =>
         if x11 = ((p0.2.1).length : Int) then
          k15 (decide (a1.2 < (IntKind.wrap .i64 (((p0.2.1).length : Int) - 1))))
         else
          k15 false
       else none
      else none
     else
      some (Stp.exit (Ou.go ()))) (p1.2.1, 0)) (fun a17 =>
     some p1.2.2.1) some
noncomputable def m_internal_stringslite_HasSuffix (p0 : List UInt8) (p1 : List UInt8) : Option (Bool) :=
 jp (fun (a1 : Bool) =>
   some a1)
   fun k3 =>
  if ((p1).length : Int) ≤ ((p0).length : Int) then
   if 0 ≤ (IntKind.wrap .i64 (((p0).length : Int) - ((p1).length : Int)) : Int) ∧ (IntKind.wrap .i64 (((p0).length : Int) - ((p1).length : Int)) : Int) ≤ ((p0).length : Int) ∧ ((p0).length : Int) ≤ (p0.length : Int) then
    k3 (decide (((p0.take (((p0).length : Int)).toNat).drop (IntKind.wrap .i64 (((p0).length : Int) - ((p1).length : Int))).toNat) = p1))
   else none
  else
   k3 false
noncomputable def m_strings_HasSuffix (p0 : List UInt8) (p1 : List UInt8) : Option (Bool) :=
 (m_internal_stringslite_HasSuffix p0 p1).bind fun x1 =>
 some x1
section
variable {P : Program} {s : AS}
theorem v_arrF {t e : TypeId} {len a b : Nat} {z : Value} {x i : Operand} {k off : Nat} {cs : List HV} {k' : IntKind} {j : Int} (hT : ty P t = some ⟨.array len e, a, b, z⟩) (hE : elemSize P t = some k) (hx : s.ev x = some (.fptr cs off)) (hi : s.ev i = some (.int k' j)) (hj : 0 ≤ j ∧ j < len) :
  aval P (.indexAddr t x i) s (· = .fptr cs (off + j.toNat * k)) := by
 simp only [aval, hT, hE, hx, hi]
 exact ⟨hj.1, hj.2, trivial⟩
theorem v_arrP {t e : TypeId} {len a b : Nat} {z : Value} {x i : Operand} {k id ver off : Nat} {o : AObj} {k' : IntKind} {j : Int} (hT : ty P t = some ⟨.array len e, a, b, z⟩) (hE : elemSize P t = some k) (hx : s.ev x = some (.ptr id ver off)) (hi : s.ev i = some (.int k' j)) (hj : 0 ≤ j ∧ j < len) (hg : hget s.heap id = some (ver, o)) :
  aval P (.indexAddr t x i) s (· = .ptr id ver (off + j.toNat * k)) := by
 simp only [aval, hT, hE, hx, hi]
 exact ⟨hj.1, hj.2, by simp only [alive, hg], trivial⟩
end
theorem l_flat {T : TyI} {l : List Int} {off : Nat} {y : Int} (h : l[off]? = some y) (ha : aggD T.desc = false) : loadK T (eInt.E l) off (· = .int .i64 y) :=
 l_lit ha (by show (l.map _)[off]? = _; rw [List.getElem?_map, h]; rfl)
theorem frz_flat {id v k n : Nat} {e : TypeId} {l : List Int} (h : (eInt.E l).length = n * k) : frz 2 [(id, v, .arr k e (eInt.E l))] (.ar id v k 0 n) = .sl k n (eInt.E l) := by
 have hm : (eInt.E l).map (frz 1 [(id, v, .arr k e (eInt.E l))]) = eInt.E l := by
  show (l.map _).map _ = l.map _
  rw [List.map_map]
  rfl
 simp only [frz, hget, if_true]
 rw [if_pos ⟨trivial, by omega⟩, List.drop_zero, ← h, List.take_length]
 exact congrArg _ hm
end Go.AW
namespace Go.AW
open Go
abbrev eByte : EncL UInt8 := encM fun b => HV.int .u8 (b.toNat : Int)
section
variable {P : Program} {ro : Option Nat} {N : Nat} {s : AS} {o : Oper} {sl : List (Nat × HV)} {H : Heap} {all : Array Oper} {rest : List Oper} {K : AS → Prop}
end
end Go.AW
namespace Go.AW
open Go Go.Proofs
set_option maxHeartbeats 1600000
set_option maxRecDepth 100000
set_option linter.unusedVariables false
theorem w_syncmark_search_step {p0 : TGMarkTableNextMemo} {p1 : TStateReadBadLeft} {p2 : TFromLabelTo} {r : TStateReadBadLeft} (h : m_syncmark_search_step p0 p1 p2 = some r) : Pure Tryz.prog 60 [.fptr [hI p0.1.1, hI p0.1.2.1, slE eFromLabelTo p0.1.2.2, .str p0.2.1, .sl 16 ((p0.2.2.1).length / 16) (eInt.E p0.2.2.1), slE (eSl eFromLabelTo) p0.2.2.2.1, .mp p0.2.2.2.2.1 p0.2.2.2.2.2] 0, .agg [hI p1.1, hI p1.2.1, .bool p1.2.2.1, hI p1.2.2.2], .agg [hI p2.1, hI p2.2.1, hI p2.2.2]] (· = HV.agg [hI r.1, hI r.2.1, .bool r.2.2.1, hI r.2.2.2]) := by
 unfold m_syncmark_search_step at h
 refine Pure.of_body Tryz.func60 rfl rfl (lb rfl) fun hf => ?_
 unfold Tryz.f60
 dsimp only [enumS, Nat.reduceAdd]
 refine AW.rgs rfl fun K hK => b_op rfl (o_box rfl rfl rfl ?_)
 refine b_op rfl (o_box rfl rfl rfl ?_)
 refine b_op rfl (o_alloc (fid := 60) (zs := [hI 0, hI 0, .bool false, hI 0]) 60006 rfl rfl ty81 rfl (fun v1 => ?_))
 refine bf hK ⟨[(0, .fptr [hI p0.1.1, hI p0.1.2.1, slE eFromLabelTo p0.1.2.2, .str p0.2.1, .sl 16 ((p0.2.2.1).length / 16) (eInt.E p0.2.2.1), slE (eSl eFromLabelTo) p0.2.2.2.1, .mp p0.2.2.2.2.1 p0.2.2.2.2.2] 0), (4, .fptr [hI p1.1, hI p1.2.1, .bool p1.2.2.1, hI p1.2.2.2] 0), (5, .fptr [hI p2.1, hI p2.2.1, hI p2.2.2] 0), (6, .ptr 60006 v1 0)], [(60006, v1, .arr 4 81 [hI 0, hI 0, .bool false, hI 0])]⟩ ?_
 refine AW.dgs 12 follows rfl rfl fun K hK => ?_
 refine sm rfl rfl ?_
 refine sv rfl (v_nilF rfl) ?_
 refine sv rfl (v_fieldAddrF fo91_2 rfl) ?_
 refine sv rfl (v_loadF ty88 rfl (l_lit rfl rfl)) ?_
 refine sv rfl (v_fieldAddrF fo81_1 rfl) ?_
 refine sv rfl (v_loadF ty3 rfl (l_lit rfl rfl)) ?_
 refine sv rfl (v_fieldAddrF fo44_1 rfl) ?_
 refine sv rfl (v_loadF ty3 rfl (l_lit rfl rfl)) ?_
 obtain ⟨h2, h⟩ := ifN h
 refine sv rfl (v_idxF ty88 es88 rfl rfl h2) ?_
 obtain ⟨h3, h⟩ := ifN h
 refine sv rfl (v_arrF ty121 es121 rfl rfl h3) ?_
 obtain ⟨x4, h5, h⟩ := bS h
 refine sv rfl (v_loadF ty3 rfl (l_flat h5 rfl)) ?_
 refine sm rfl rfl ?_
 refine s_nil ?_
 refine bf hK ⟨[(0, .fptr [hI p0.1.1, hI p0.1.2.1, slE eFromLabelTo p0.1.2.2, .str p0.2.1, .sl 16 ((p0.2.2.1).length / 16) (eInt.E p0.2.2.1), slE (eSl eFromLabelTo) p0.2.2.2.1, .mp p0.2.2.2.2.1 p0.2.2.2.2.2] 0), (4, .fptr [hI p1.1, hI p1.2.1, .bool p1.2.2.1, hI p1.2.2.2] 0), (5, .fptr [hI p2.1, hI p2.2.1, hI p2.2.2] 0), (6, .ptr 60006 v1 0), (7, hI x4)], [(60006, v1, .arr 4 81 [hI 0, hI 0, .bool false, hI 0])]⟩ ?_
 refine AW.seqJ h (S := Bool) (V := Unit) (fun a v => ⟨[(6, .ptr 60006 v1 0)], [(60006, v1, .arr 4 81 [hI p2.2.2, hI x4, .bool a, hI (IntKind.wrap .i64 (p1.2.2.2 - 1))])]⟩) (fun a6 w7 h => ?_) (fun k8 h => ?_)
 ·refine AW.ret ?_
  have h := Option.some.inj h
  subst h
  exact ret_pure (hs := [.agg [hI p2.2.2, hI x4, .bool a6, hI (IntKind.wrap .i64 (p1.2.2.2 - 1))]]) (.inr rfl) (resP ty81 rfl rfl (l_litA rfl (lb rfl) rfl) rfl) rfl ⟨trivial, trivial, trivial, trivial, trivial⟩
 refine AW.dg 18 follows rfl rfl fun K hK => ?_
 refine sv rfl (v_fieldAddrF fo44_2 rfl) ?_
 refine sv rfl (v_loadF ty3 rfl (l_lit rfl rfl)) ?_
 refine sm rfl rfl ?_
 refine sv rfl (v_fieldAddrF fo81_2 rfl) ?_
 refine sv rfl (v_loadF ty4 rfl (l_lit rfl rfl)) ?_
 refine sm rfl rfl ?_
 by_cases hg9 : p1.2.2.1 = true
 ·have h := ifT hg9 h
  refine s_F rfl rfl rfl rfl rfl hg9 ?_
  refine s_F rfl rfl rfl rfl rfl rfl ?_
  refine s_F rfl rfl rfl rfl rfl rfl ?_
  refine s_F rfl rfl rfl rfl rfl rfl ?_
  refine s_F rfl rfl rfl rfl rfl rfl ?_
  refine s_F rfl rfl rfl rfl rfl rfl ?_
  refine s_F rfl rfl rfl rfl rfl rfl ?_
  refine sv rfl (v_pickT rfl rfl rfl) ?_
  refine sv rfl (v_fieldAddrF fo81_3 rfl) ?_
  refine sv rfl (v_loadF ty3 rfl (l_lit rfl rfl)) ?_
  refine sv rfl (v_bin rfl rfl b_sub) ?_
  refine s_op rfl rfl (ops_build (cs := [hI p2.2.2, hI x4, .bool true, hI (IntKind.wrap .i64 (p1.2.2.2 - 1))]) rfl (bl_of ty81 rfl rfl rfl rfl) ?_)
  refine s_nil ?_
  refine b_op rfl (o_store (cs := [hI p2.2.2, hI x4, .bool true, hI (IntKind.wrap .i64 (p1.2.2.2 - 1))]) (zs := [hI p2.2.2, hI x4, .bool true, hI (IntKind.wrap .i64 (p1.2.2.2 - 1))]) rfl rfl rfl ty81 rfl rfl rfl rfl rfl ?_)
  refine b_nil (hK _ ?_)
  exact to_L ⟨true, (), h, rfl⟩
 have h := ifF hg9 h
 refine s_T rfl rfl rfl rfl rfl (bF hg9) (ops_val rfl (mv_val rfl rfl).2 ?_)
 refine s_T rfl rfl rfl rfl rfl rfl (ops_val rfl (mv_val rfl rfl).2 ?_)
 refine s_T rfl rfl rfl rfl rfl rfl (ops_val rfl (v_nilF rfl) ?_)
 refine s_T rfl rfl rfl rfl rfl rfl (ops_val rfl (v_fieldAddrF fo91_1 rfl) ?_)
 refine s_T rfl rfl rfl rfl rfl rfl (ops_val rfl (v_loadF ty9 rfl (l_lit rfl rfl)) ?_)
 refine s_T rfl rfl rfl rfl rfl rfl (ops_val rfl (v_lenS rfl rfl ty9 rfl) ?_)
 refine s_T rfl rfl rfl rfl rfl rfl (ops_val rfl (v_bin rfl rfl b_eql) ?_)
 refine sv rfl (v_pickF rfl rfl rfl) ?_
 refine sv rfl (v_fieldAddrF fo81_3 rfl) ?_
 refine sv rfl (v_loadF ty3 rfl (l_lit rfl rfl)) ?_
 refine sv rfl (v_bin rfl rfl b_sub) ?_
 refine s_op rfl rfl (ops_build (cs := [hI p2.2.2, hI x4, .bool (decide (x4 = ((p0.2.1).length : Int))), hI (IntKind.wrap .i64 (p1.2.2.2 - 1))]) rfl (bl_of ty81 rfl rfl rfl rfl) ?_)
 refine s_nil ?_
 refine b_op rfl (o_store (cs := [hI p2.2.2, hI x4, .bool (decide (x4 = ((p0.2.1).length : Int))), hI (IntKind.wrap .i64 (p1.2.2.2 - 1))]) (zs := [hI p2.2.2, hI x4, .bool (decide (x4 = ((p0.2.1).length : Int))), hI (IntKind.wrap .i64 (p1.2.2.2 - 1))]) rfl rfl rfl ty81 rfl rfl rfl rfl rfl ?_)
 refine b_nil (hK _ ?_)
 exact to_L ⟨decide (x4 = ((p0.2.1).length : Int)), (), h, rfl⟩
theorem w_syncmark_search_ends {p0 : TGMarkTableNextMemo} {p1 : TStateReadBadLeft} {r : Bool} (h : m_syncmark_search_ends p0 p1 = some r) : Pure Tryz.prog 84 [.fptr [hI p0.1.1, hI p0.1.2.1, slE eFromLabelTo p0.1.2.2, .str p0.2.1, .sl 16 ((p0.2.2.1).length / 16) (eInt.E p0.2.2.1), slE (eSl eFromLabelTo) p0.2.2.2.1, .mp p0.2.2.2.2.1 p0.2.2.2.2.2] 0, .agg [hI p1.1, hI p1.2.1, .bool p1.2.2.1, hI p1.2.2.2]] (· = HV.bool r) := by
 unfold m_syncmark_search_ends at h
 refine Pure.of_body Tryz.func84 rfl rfl (lb rfl) fun hf => ?_
 unfold Tryz.f84
 dsimp only [enumS, Nat.reduceAdd]
 refine AW.rgs rfl fun K hK => b_op rfl (o_box rfl rfl rfl ?_)
 refine mv rfl rfl ?_
 refine bf hK ⟨[(0, .fptr [hI p0.1.1, hI p0.1.2.1, slE eFromLabelTo p0.1.2.2, .str p0.2.1, .sl 16 ((p0.2.2.1).length / 16) (eInt.E p0.2.2.1), slE (eSl eFromLabelTo) p0.2.2.2.1, .mp p0.2.2.2.2.1 p0.2.2.2.2.2] 0), (3, .fptr [hI p1.1, hI p1.2.1, .bool p1.2.2.1, hI p1.2.2.2] 0)], []⟩ ?_
 refine AW.rgs rfl fun K hK => bv rfl (v_fieldAddrF fo81_1 rfl) (bv rfl (v_loadF ty3 rfl (l_lit rfl rfl)) (mv rfl rfl ?_))
 refine bf hK ⟨[(0, .fptr [hI p0.1.1, hI p0.1.2.1, slE eFromLabelTo p0.1.2.2, .str p0.2.1, .sl 16 ((p0.2.2.1).length / 16) (eInt.E p0.2.2.1), slE (eSl eFromLabelTo) p0.2.2.2.1, .mp p0.2.2.2.2.1 p0.2.2.2.2.2] 0), (3, .fptr [hI p1.1, hI p1.2.1, .bool p1.2.2.1, hI p1.2.2.2] 0), (5, hI p1.2.1)], []⟩ ?_
 refine AW.seq ?_
 refine AW.rgs rfl fun K hK => mv rfl rfl (bv rfl (v_nilF rfl) (bv rfl (v_fieldAddrF fo91_1 rfl) (bv rfl (v_loadF ty9 rfl (l_lit rfl rfl)) (bv rfl (v_lenS rfl rfl ty9 rfl) (mv rfl rfl ?_)))))
 refine bf hK ⟨[(0, .fptr [hI p0.1.1, hI p0.1.2.1, slE eFromLabelTo p0.1.2.2, .str p0.2.1, .sl 16 ((p0.2.2.1).length / 16) (eInt.E p0.2.2.1), slE (eSl eFromLabelTo) p0.2.2.2.1, .mp p0.2.2.2.2.1 p0.2.2.2.2.2] 0), (3, .fptr [hI p1.1, hI p1.2.1, .bool p1.2.2.1, hI p1.2.2.2] 0), (5, hI p1.2.1), (13, hI ((p0.2.1).length : Int)), (14, hI 0)], []⟩ ?_
 refine AW.lpR h (by first | exact up_then | exact up_to) (S := Int × Int) (V := Unit) (fun a v => ⟨[(0, .fptr [hI p0.1.1, hI p0.1.2.1, slE eFromLabelTo p0.1.2.2, .str p0.2.1, .sl 16 ((p0.2.2.1).length / 16) (eInt.E p0.2.2.1), slE (eSl eFromLabelTo) p0.2.2.2.1, .mp p0.2.2.2.2.1 p0.2.2.2.2.2] 0), (3, .fptr [hI p1.1, hI p1.2.1, .bool p1.2.2.1, hI p1.2.2.2] 0), (5, hI a.1), (13, hI ((p0.2.1).length : Int)), (14, hI a.2)], []⟩) ?_ (X := Unit) (W := Unit) (fun a v => ⟨[(3, .fptr [hI p1.1, hI p1.2.1, .bool p1.2.2.1, hI p1.2.2.2] 0)], []⟩) (fun a17 w18 h => ?_) (fun a1 w2 st3 h hr4=> ?_)
 ·exact to_L ⟨(), rfl⟩
 ·refine AW.rgs rfl fun K hK => bv rfl (v_fieldAddrF fo81_2 rfl) (bv rfl (v_loadF ty4 rfl (l_lit rfl rfl)) (mv rfl rfl ?_))
  refine bf hK ⟨[(4, .bool p1.2.2.1)], []⟩ ?_
  refine AW.ret ?_
  have h := Option.some.inj h
  subst h
  exact ret_pure (hs := [.bool p1.2.2.1]) (.inr rfl) (resT rfl rfl) rfl trivial
 refine AW.rgs rfl fun K hK => bv rfl (v_bin rfl rfl b_lss) ?_
 refine bf hK ⟨[(0, .fptr [hI p0.1.1, hI p0.1.2.1, slE eFromLabelTo p0.1.2.2, .str p0.2.1, .sl 16 ((p0.2.2.1).length / 16) (eInt.E p0.2.2.1), slE (eSl eFromLabelTo) p0.2.2.2.1, .mp p0.2.2.2.2.1 p0.2.2.2.2.2] 0), (3, .fptr [hI p1.1, hI p1.2.1, .bool p1.2.2.1, hI p1.2.2.2] 0), (5, hI a1.1), (13, hI ((p0.2.1).length : Int)), (14, hI a1.2), (15, .bool (decide (a1.2 < ((p0.2.1).length : Int))))], []⟩ ?_
 refine AW.cseq rfl (fun hc => ?_) (fun hc => ?_)
 ·obtain ⟨hc, h⟩ := cT hc h
  refine AW.skip ?_
  refine AW.seq (AW.block ?_)
  refine AW.rgs rfl fun K hK => mv rfl rfl (mv rfl rfl ?_)
  refine bf hK ⟨[(0, .fptr [hI p0.1.1, hI p0.1.2.1, slE eFromLabelTo p0.1.2.2, .str p0.2.1, .sl 16 ((p0.2.2.1).length / 16) (eInt.E p0.2.2.1), slE (eSl eFromLabelTo) p0.2.2.2.1, .mp p0.2.2.2.2.1 p0.2.2.2.2.2] 0), (3, .fptr [hI p1.1, hI p1.2.1, .bool p1.2.2.1, hI p1.2.2.2] 0), (5, hI a1.1), (6, hI a1.2), (13, hI ((p0.2.1).length : Int)), (14, hI a1.2)], []⟩ ?_
  refine AW.dgs 16 follows rfl rfl fun K hK => ?_
  refine sm rfl rfl ?_
  refine sv rfl (v_nilF rfl) ?_
  refine sv rfl (v_fieldAddrF fo91_2 rfl) ?_
  refine sv rfl (v_loadF ty88 rfl (l_lit rfl rfl)) ?_
  refine sm rfl rfl ?_
  refine sm rfl rfl ?_
  refine sv rfl (v_nilF rfl) ?_
  refine sv rfl (v_fieldAddrF fo91_1 rfl) ?_
  refine sv rfl (v_loadF ty9 rfl (l_lit rfl rfl)) ?_
  refine sm rfl rfl ?_
  obtain ⟨x5, h6, h⟩ := bS h
  refine sv rfl (v_idxS ty9 rfl rfl h6) ?_
  obtain ⟨x7, h8, h⟩ := bS h
  refine s_op rfl rfl (ops_call rfl rfl rfl rfl (ACallD.pure0 (w_strings_IndexByte h8)) ?_)
  obtain ⟨h9, h⟩ := ifN h
  refine sv rfl (v_idxF ty88 es88 rfl rfl h9) ?_
  obtain ⟨h10, h⟩ := ifN h
  refine sv rfl (v_arrF ty121 es121 rfl rfl h10) ?_
  obtain ⟨x11, h12, h⟩ := bS h
  refine sv rfl (v_loadF ty3 rfl (l_flat h12 rfl)) ?_
  refine sm rfl rfl ?_
  refine s_nil ?_
  refine bf hK ⟨[(0, .fptr [hI p0.1.1, hI p0.1.2.1, slE eFromLabelTo p0.1.2.2, .str p0.2.1, .sl 16 ((p0.2.2.1).length / 16) (eInt.E p0.2.2.1), slE (eSl eFromLabelTo) p0.2.2.2.1, .mp p0.2.2.2.2.1 p0.2.2.2.2.2] 0), (3, .fptr [hI p1.1, hI p1.2.1, .bool p1.2.2.1, hI p1.2.2.2] 0), (5, hI x11), (6, hI a1.2), (13, hI ((p0.2.1).length : Int)), (14, hI a1.2)], []⟩ ?_
  refine AW.seqJ h (S := Bool) (V := Unit) (fun a v => ⟨[(0, .fptr [hI p0.1.1, hI p0.1.2.1, slE eFromLabelTo p0.1.2.2, .str p0.2.1, .sl 16 ((p0.2.2.1).length / 16) (eInt.E p0.2.2.1), slE (eSl eFromLabelTo) p0.2.2.2.1, .mp p0.2.2.2.2.1 p0.2.2.2.2.2] 0), (3, .fptr [hI p1.1, hI p1.2.1, .bool p1.2.2.1, hI p1.2.2.2] 0), (5, hI x11), (13, hI ((p0.2.1).length : Int)), (14, hI a1.2), (48, .bool a)], []⟩) (fun a13 w14 h => ?_) (fun k15 h => ?_)
  ·refine AW.cond rfl (fun hc => ?_) (fun hc => ?_)
   ·have h := ifT hc h
    refine AW.rgs rfl fun K hK => mv rfl rfl ?_
    refine bf hK ⟨[(4, .bool true)], []⟩ ?_
    have h := hr4 _ h
    refine AW.ret ?_
    have h := Option.some.inj h
    subst h
    exact ret_pure (hs := [.bool true]) (.inr rfl) (resT rfl rfl) rfl trivial
   have h := ifF (bF' hc) h
   refine AW.skip ?_
   refine AW.rg rfl fun K hK => bv rfl (v_bin rfl rfl b_add) (mv rfl rfl ?_)
   refine b_nil (hK _ ?_)
   exact to_L ⟨(x11, IntKind.wrap .i64 (a1.2 + 1)), (), h, rfl⟩
  refine AW.rg rfl fun K hK => mv rfl rfl (mv rfl rfl (bv rfl (v_nilF rfl) (bv rfl (v_fieldAddrF fo91_1 rfl) (bv rfl (v_loadF ty9 rfl (l_lit rfl rfl)) (bv rfl (v_lenS rfl rfl ty9 rfl) ?_)))))
  refine bv rfl (v_bin rfl rfl b_eql) (mv rfl rfl ?_)
  by_cases hg16 : x11 = ((p0.2.1).length : Int)
  ·have h := ifT hg16 h
   refine b_T rfl rfl rfl rfl (decide_eq_true hg16) (o_val rfl (mv_val rfl rfl).2 ?_)
   refine b_T rfl rfl rfl rfl rfl (o_val rfl (mv_val rfl rfl).2 ?_)
   refine b_T rfl rfl rfl rfl rfl (o_val rfl (v_nilF rfl) ?_)
   refine b_T rfl rfl rfl rfl rfl (o_val rfl (v_fieldAddrF fo91_1 rfl) ?_)
   refine b_T rfl rfl rfl rfl rfl (o_val rfl (v_loadF ty9 rfl (l_lit rfl rfl)) ?_)
   refine b_T rfl rfl rfl rfl rfl (o_val rfl (v_lenS rfl rfl ty9 rfl) ?_)
   refine b_T rfl rfl rfl rfl rfl (o_val rfl (v_bin rfl rfl b_sub) ?_)
   refine b_T rfl rfl rfl rfl rfl (o_val rfl (v_bin rfl rfl b_lss) ?_)
   refine bv rfl (v_pickT rfl rfl rfl) ?_
   refine b_nil (hK _ ?_)
   exact to_L ⟨decide (a1.2 < (IntKind.wrap .i64 (((p0.2.1).length : Int) - 1))), (), h, rfl⟩
  have h := ifF hg16 h
  refine b_F rfl rfl rfl rfl rfl (decide_eq_false hg16) ?_
  refine b_F rfl rfl rfl rfl rfl rfl ?_
  refine b_F rfl rfl rfl rfl rfl rfl ?_
  refine b_F rfl rfl rfl rfl rfl rfl ?_
  refine b_F rfl rfl rfl rfl rfl rfl ?_
  refine b_F rfl rfl rfl rfl rfl rfl ?_
  refine b_F rfl rfl rfl rfl rfl rfl ?_
  refine b_F rfl rfl rfl rfl rfl rfl ?_
  refine bv rfl (v_pickF rfl rfl rfl) ?_
  refine b_nil (hK _ ?_)
  exact to_L ⟨false, (), h, rfl⟩
 obtain ⟨hc, h⟩ := cF hc h
 refine AW.exit ?_
 exact to_L ⟨(), (), h, rfl⟩
theorem w_internal_stringslite_HasSuffix {p0 : List UInt8} {p1 : List UInt8} {r : Bool} (h : m_internal_stringslite_HasSuffix p0 p1 = some r) : Pure Tryz.prog 77 [.str p0, .str p1] (· = HV.bool r) := by
 unfold m_internal_stringslite_HasSuffix at h
 refine Pure.of_body Tryz.func77 rfl rfl (lb rfl) fun hf => ?_
 unfold Tryz.f77
 dsimp only [enumS, Nat.reduceAdd]
 refine AW.rgs rfl fun K hK => mv rfl rfl ?_
 refine bf hK ⟨[(0, .str p0), (1, .str p1)], []⟩ ?_
 refine AW.seqJ h (S := Bool) (V := Unit) (fun a v => ⟨[(4, .bool a)], []⟩) (fun a1 w2 h => ?_) (fun k3 h => ?_)
 ·refine AW.ret ?_
  have h := Option.some.inj h
  subst h
  exact ret_pure (hs := [.bool a1]) (.inr rfl) (resT rfl rfl) rfl trivial
 refine AW.rg rfl fun K hK => mv rfl rfl (bv rfl (v_lenS rfl rfl ty9 rfl) (mv rfl rfl (bv rfl (v_lenS rfl rfl ty9 rfl) (bv rfl (v_bin rfl rfl b_geq) (mv rfl rfl ?_)))))
 by_cases hg5 : ((p1).length : Int) ≤ ((p0).length : Int)
 ·have h := ifT hg5 h
  refine b_T rfl rfl rfl rfl (decide_eq_true hg5) (o_val rfl (mv_val rfl rfl).2 ?_)
  refine b_T rfl rfl rfl rfl rfl (o_val rfl (mv_val rfl rfl).2 ?_)
  refine b_T rfl rfl rfl rfl rfl (o_val rfl (v_lenS rfl rfl ty9 rfl) ?_)
  refine b_T rfl rfl rfl rfl rfl (o_val rfl (mv_val rfl rfl).2 ?_)
  refine b_T rfl rfl rfl rfl rfl (o_val rfl (v_lenS rfl rfl ty9 rfl) ?_)
  refine b_T rfl rfl rfl rfl rfl (o_val rfl (v_bin rfl rfl b_sub) ?_)
  obtain ⟨h4, h⟩ := ifN h
  refine b_T rfl rfl rfl rfl rfl (o_val rfl (v_sliceS ty9 rfl rfl rfl h4) ?_)
  refine b_T rfl rfl rfl rfl rfl (o_val rfl (mv_val rfl rfl).2 ?_)
  refine b_T rfl rfl rfl rfl rfl (o_val rfl (v_bin rfl rfl b_seql) ?_)
  refine bv rfl (v_pickT rfl rfl rfl) (mv rfl rfl ?_)
  refine b_nil (hK _ ?_)
  exact to_L ⟨decide (((p0.take (((p0).length : Int)).toNat).drop (IntKind.wrap .i64 (((p0).length : Int) - ((p1).length : Int))).toNat) = p1), (), h, rfl⟩
 have h := ifF hg5 h
 refine b_F rfl rfl rfl rfl rfl (decide_eq_false hg5) ?_
 refine b_F rfl rfl rfl rfl rfl rfl ?_
 refine b_F rfl rfl rfl rfl rfl rfl ?_
 refine b_F rfl rfl rfl rfl rfl rfl ?_
 refine b_F rfl rfl rfl rfl rfl rfl ?_
 refine b_F rfl rfl rfl rfl rfl rfl ?_
 refine b_F rfl rfl rfl rfl rfl rfl ?_
 refine b_F rfl rfl rfl rfl rfl rfl ?_
 refine b_F rfl rfl rfl rfl rfl rfl ?_
 refine bv rfl (v_pickF rfl rfl rfl) (mv rfl rfl ?_)
 refine b_nil (hK _ ?_)
 exact to_L ⟨false, (), h, rfl⟩
theorem w_strings_HasSuffix {p0 : List UInt8} {p1 : List UInt8} {r : Bool} (h : m_strings_HasSuffix p0 p1 = some r) : Pure Tryz.prog 50 [.str p0, .str p1] (· = HV.bool r) := by
 unfold m_strings_HasSuffix at h
 refine Pure.of_body Tryz.func50 rfl rfl (lb rfl) fun hf => ?_
 unfold Tryz.f50
 dsimp only [enumS, Nat.reduceAdd]
 refine AW.rgs rfl fun K hK => mv rfl rfl ?_
 refine bf hK ⟨[(0, .str p0), (1, .str p1)], []⟩ ?_
 refine AW.rgs rfl fun K hK => mv rfl rfl (mv rfl rfl ?_)
 obtain ⟨x1, h2, h⟩ := bS h
 refine b_op rfl (o_call rfl rfl rfl rfl (ACallD.pure0 (w_internal_stringslite_HasSuffix h2)) ?_)
 refine mv rfl rfl ?_
 refine bf hK ⟨[(4, .bool x1)], []⟩ ?_
 refine AW.ret ?_
 have h := Option.some.inj h
 subst h
 exact ret_pure (hs := [.bool x1]) (.inr rfl) (resT rfl rfl) rfl trivial
end Go.AW

namespace Go.AW
open Go
set_option linter.unusedSimpArgs false
set_option linter.unusedVariables false
theorem loopW_eq {S X : Type} (body : S → Option (Stp S X)) (s : S) : loopW body s = match body s with
  | none => none
  | some (.exit x) => some x
  | some (.next s') => loopW body s' := by
 cases h : body s with
 | none => exact loopW_stuck h
 | some r => cases r with
  | exit x => exact loopW_exit h
  | next s' => exact loopW_next h
abbrev Gr := TLabelsStatesEdges
abbrev Ed := TFromLabelTo
def cmp3 (x y : Ed) : Int := if x.1 < y.1 then -1 else if y.1 < x.1 then 1 else if x.2.1 < y.2.1 then -1 else if y.2.1 < x.2.1 then 1 else if x.2.2 < y.2.2 then -1 else if y.2.2 < x.2.2 then 1 else 0
theorem cmpC (a b : Int) : m_cmp_Compare_int a b = some (if a < b then -1 else if b < a then 1 else 0) := by
 unfold m_cmp_Compare_int m_cmp_isNaN_int
 simp only [ne_eq, not_true_eq_false, decide_false, Option.bind_some, Bool.false_eq_true, if_false]
 split <;> (try rfl)
 split <;> rfl
theorem wr0 : IntKind.wrap .i64 (0 + 1) = 1 := by decide
theorem wr1 : IntKind.wrap .i64 (1 + 1) = 2 := by decide
theorem wr2 : IntKind.wrap .i64 (2 + 1) = 3 := by decide
theorem ix3_0 (a b c : Int) : idx [a, b, c] 0 = some a := rfl
theorem ix3_1 (a b c : Int) : idx [a, b, c] 1 = some b := rfl
theorem ix3_2 (a b c : Int) : idx [a, b, c] 2 = some c := rfl
theorem len3 (a b c : Int) : (([a, b, c] : List Int).length : Int) = 3 := rfl
theorem by1_eq (x y : Ed) : m_graph_by_api_Edge_1 x y = some (cmp3 x y) := by
 unfold m_graph_by_api_Edge_1 m_graph_list m_slices_Compare_Lint_int cmp3
 simp only [Option.bind_some, len3]
 rw [loopW_eq]
 simp only [ix3_0, cmpC, Option.bind_some, wr0]
 by_cases a1 : x.1 < y.1
 ·simp [a1, lpO]
 by_cases a2 : y.1 < x.1
 ·simp [a1, a2, lpO]
 simp only [a1, a2, if_false, ne_eq, not_true_eq_false, if_true, Int.reduceLT, Int.reduceLE]
 rw [loopW_eq]
 simp only [ix3_1, cmpC, Option.bind_some, wr1]
 by_cases b1 : x.2.1 < y.2.1
 ·simp [b1, lpO]
 by_cases b2 : y.2.1 < x.2.1
 ·simp [b1, b2, lpO]
 simp only [b1, b2, if_false, ne_eq, not_true_eq_false, if_true, Int.reduceLT, Int.reduceLE]
 rw [loopW_eq]
 simp only [ix3_2, cmpC, Option.bind_some, wr2]
 by_cases c1 : x.2.2 < y.2.2
 ·simp [c1, lpO]
 by_cases c2 : y.2.2 < x.2.2
 ·simp [c1, c2, lpO]
 simp only [c1, c2, if_false, ne_eq, not_true_eq_false, if_true, Int.reduceLT, Int.reduceLE]
 rw [loopW_eq]
 simp [lpO]
theorem cmp_eq (x y : Ed) : m_ref09_Compare x y = some (cmp3 x y) := by
 unfold m_ref09_Compare cmp3
 rw [loopW_eq]
 simp only [ix3_0, Option.bind_some, wr0]
 by_cases a1 : x.1 < y.1
 ·simp [a1, lpO]
 by_cases a2 : y.1 < x.1
 ·simp [a1, a2, lpO]
 simp only [a1, a2, if_false, if_true, Int.reduceLT]
 rw [loopW_eq]
 simp only [ix3_1, Option.bind_some, wr1]
 by_cases b1 : x.2.1 < y.2.1
 ·simp [b1, lpO]
 by_cases b2 : y.2.1 < x.2.1
 ·simp [b1, b2, lpO]
 simp only [b1, b2, if_false, if_true, Int.reduceLT]
 rw [loopW_eq]
 simp only [ix3_2, Option.bind_some, wr2]
 by_cases c1 : x.2.2 < y.2.2
 ·simp [c1, lpO]
 by_cases c2 : y.2.2 < x.2.2
 ·simp [c1, c2, lpO]
 simp only [c1, c2, if_false, if_true, Int.reduceLT]
 rw [loopW_eq]
 simp [lpO]
theorem Check_ref (g : Gr) : m_graph_Check g = m_ref09_Check g := by
 unfold m_graph_Check m_ref09_Check
 have key : ∀ (x : Ed) (k : Bool → Option (Stp Int (Ou Unit Int))), (if (min (min x.1 x.2.1) x.2.2) < 0 then k true else if g.2.1 ≤ (max x.1 x.2.2) then k true else k (decide (g.1 ≤ x.2.1))) =
   (if x.1 < 0 then k true else if g.2.1 ≤ x.1 then k true else if x.2.2 < 0 then k true else if g.2.1 ≤ x.2.2 then k true else if x.2.1 < 0 then k true else k (decide (g.1 ≤ x.2.1))) := by
  intro x k
  by_cases h1 : x.1 < 0
  ·rw [if_pos (by omega), if_pos h1]
  by_cases h2 : g.2.1 ≤ x.1
  ·rw [if_neg h1, if_pos h2]
   split
   ·rfl
   ·rw [if_pos (by omega)]
  by_cases h3 : x.2.2 < 0
  ·rw [if_neg h1, if_neg h2, if_pos h3, if_pos (by omega)]
  by_cases h4 : g.2.1 ≤ x.2.2
  ·rw [if_neg h1, if_neg h2, if_neg h3, if_pos h4]
   split
   ·rfl
   ·rw [if_pos (by omega)]
  by_cases h5 : x.2.1 < 0
  ·rw [if_neg h1, if_neg h2, if_neg h3, if_neg h4, if_pos h5, if_pos (by omega)]
  ·rw [if_neg h1, if_neg h2, if_neg h3, if_neg h4, if_neg h5, if_neg (by omega), if_neg (by omega)]
 simp only [by1_eq, cmp_eq, key]
structure VG (g : Gr) : Prop where
 l1 : 1 ≤ g.1
 l2 : g.1 ≤ 256
 s0 : 0 ≤ g.2.1
 s1 : g.2.1 ≤ 64
 el : g.2.2.length ≤ 1024
 ed : ∀ x ∈ g.2.2, 0 ≤ x.1 ∧ x.1 < g.2.1 ∧ 0 ≤ x.2.2 ∧ x.2.2 < g.2.1 ∧ 0 ≤ x.2.1 ∧ x.2.1 < g.1
 ord : ∀ (i : Nat) (h : i + 1 < g.2.2.length), cmp3 (g.2.2[i]'(by omega)) g.2.2[i + 1] < 0
theorem ix_pred {α : Type} {l : List α} {i : Nat} (h : i < l.length) (hm : l.length ≤ 9223372036854775807) (h0 : 0 < i) : idx l (IntKind.wrap .i64 ((i : Int) - 1)) = some (l[i - 1]'(by omega)) := by
 rw [w64 (by omega) (by omega), show ((i : Int) - 1) = ((i - 1 : Nat) : Int) by omega]
 exact ix (by omega)
theorem lpO_ex {V R Y : Type} {o : Option (Ou V R)} {M : V → Option Y} {Rt : R → Option Y} {C : Y → Prop} (Q : Ou V R → Prop) (h : ∃ x, o = some x ∧ Q x) (k : ∀ x, Q x → ∃ e, lpO (some x) M Rt = some e ∧ C e) : ∃ e, lpO o M Rt = some e ∧ C e := by
 obtain ⟨x, rfl, hq⟩ := h
 exact k x hq
theorem Check_tot (g : Gr) : ∃ e, m_ref09_Check g = some e ∧ (e = 0 ↔ VG g) := by
  unfold m_ref09_Check
  simp only [jp]
  by_cases h1 : g.1 < 1
  · exact ⟨12, by simp [h1], by simp; intro v; have := v.l1; omega⟩
  by_cases h2 : 256 < g.1
  · exact ⟨12, by simp [h1, h2], by simp; intro v; have := v.l2; omega⟩
  by_cases h3 : g.2.1 < 0
  · exact ⟨2, by simp [h1, h2, h3], by simp; intro v; have := v.s0; omega⟩
  by_cases h4 : 64 < g.2.1
  · exact ⟨4, by simp [h1, h2, h3, h4], by simp; intro v; have := v.s1; omega⟩
  by_cases h5 : 1024 < (g.2.2.length : Int)
  · exact ⟨4, by simp [h1, h2, h3, h4, h5], by simp; intro v; have := v.el; omega⟩
  simp only [h1, h2, h3, h4, h5, if_false, decide_false, Bool.false_eq_true, cmp_eq, Option.bind_some, if_true]
  refine lpO_ex (fun x => (x = .ret 2 ∧ ¬ VG g) ∨ (x = .ret 10 ∧ ¬ VG g) ∨ (x = .go () ∧ VG g)) ?_ ?_
  · refine loopN g.2.2.length (fun i s => s = (i : Int) ∧ (∀ (j : Nat) (h : j < i) (hj : j < g.2.2.length), 0 ≤ g.2.2[j].1 ∧ g.2.2[j].1 < g.2.1 ∧ 0 ≤ g.2.2[j].2.2 ∧ g.2.2[j].2.2 < g.2.1 ∧ 0 ≤ g.2.2[j].2.1 ∧ g.2.2[j].2.1 < g.1) ∧
        ∀ (j : Nat) (h : j + 1 < i) (hj : j + 1 < g.2.2.length), cmp3 (g.2.2[j]'(by omega)) g.2.2[j + 1] < 0) ?_ ?_ 0 _ (Nat.zero_le _) ⟨rfl, fun _ h => by omega, fun _ h => by omega⟩
    · rintro i s hi ⟨rfl, he, ho⟩
      rw [if_pos (lt_int hi), ix hi]
      simp only [Option.bind_some]
      by_cases hg : 0 ≤ g.2.2[i].1 ∧ g.2.2[i].1 < g.2.1 ∧ 0 ≤ g.2.2[i].2.2 ∧ g.2.2[i].2.2 < g.2.1 ∧ 0 ≤ g.2.2[i].2.1 ∧ g.2.2[i].2.1 < g.1
      · obtain ⟨e1, e2, e3, e4, e5, e6⟩ := hg
        rw [if_neg (by omega), if_neg (by omega), if_neg (by omega), if_neg (by omega), if_neg (by omega)]
        have hd : decide (g.1 ≤ g.2.2[i].2.1) = false := decide_eq_false (by omega)
        rw [hd]
        simp only [Bool.false_eq_true, if_false]
        have he' : ∀ (j : Nat) (h : j < i + 1) (hj : j < g.2.2.length), 0 ≤ g.2.2[j].1 ∧ g.2.2[j].1 < g.2.1 ∧ 0 ≤ g.2.2[j].2.2 ∧ g.2.2[j].2.2 < g.2.1 ∧ 0 ≤ g.2.2[j].2.1 ∧ g.2.2[j].2.1 < g.1 := by
          intro j hj hjl
          by_cases hji : j = i
          · subst hji; exact ⟨e1, e2, e3, e4, e5, e6⟩
          · exact he j (by omega) hjl
        by_cases h0 : 0 < i
        · rw [if_pos (by omega), ix_pred hi (by omega) h0]
          simp only [Option.bind_some]
          by_cases hc : 0 ≤ cmp3 (g.2.2[i - 1]'(by omega)) g.2.2[i]
          · refine .inr ⟨.ret 10, by rw [if_pos (decide_eq_true hc)], .inr (.inl ⟨rfl, fun v => ?_⟩)⟩
            have := v.ord (i - 1) (by omega)
            simp only [show i - 1 + 1 = i by omega] at this
            omega
          · refine .inl ⟨_, by rw [if_neg (by simpa using hc)], by rw [nx (by omega : g.2.2.length ≤ _) hi], he', fun j hj hjl => ?_⟩
            by_cases hji : j + 1 = i
            · have hj' : j = i - 1 := by omega
              subst hj'
              simp only [show i - 1 + 1 = i by omega]
              omega
            · exact ho j (by omega) hjl
        · refine .inl ⟨_, by rw [if_neg (by omega)], by rw [nx (by omega : g.2.2.length ≤ _) hi], he', fun j hj hjl => by omega⟩
      · have hv : ¬ VG g := fun v => hg (v.ed _ (List.getElem_mem hi))
        refine .inr ⟨.ret 2, ?_, .inl ⟨rfl, hv⟩⟩
        by_cases e1 : g.2.2[i].1 < 0
        · rw [if_pos e1]
        rw [if_neg e1]
        by_cases e2 : g.2.1 ≤ g.2.2[i].1
        · rw [if_pos e2]
        rw [if_neg e2]
        by_cases e3 : g.2.2[i].2.2 < 0
        · rw [if_pos e3]
        rw [if_neg e3]
        by_cases e4 : g.2.1 ≤ g.2.2[i].2.2
        · rw [if_pos e4]
        rw [if_neg e4]
        by_cases e5 : g.2.2[i].2.1 < 0
        · rw [if_pos e5]
        rw [if_neg e5, if_pos (decide_eq_true (by omega))]
    · rintro s ⟨rfl, he, ho⟩
      rw [if_neg (not_lt_int _)]
      refine ⟨_, rfl, .inr (.inr ⟨rfl, ⟨by omega, by omega, by omega, by omega, by omega, fun x hx => ?_, fun i h => ho i h h⟩⟩)⟩
      obtain ⟨j, hj, rfl⟩ := List.getElem_of_mem hx
      exact he j hj hj
  · rintro x (⟨rfl, hv⟩ | ⟨rfl, hv⟩ | ⟨rfl, hv⟩)
    · exact ⟨2, rfl, by simp [hv]⟩
    · exact ⟨10, rfl, by simp [hv]⟩
    · exact ⟨0, rfl, by simp [hv]⟩
theorem HasSuffix_eq {a b : List UInt8} (ha : a.length ≤ 4611686018427387904) : m_strings_HasSuffix a b = some (b.isSuffixOf a) := by
 unfold m_strings_HasSuffix m_internal_stringslite_HasSuffix jp
 dsimp only
 by_cases h : (b.length : Int) ≤ (a.length : Int)
 ·have hw : IntKind.wrap .i64 ((a.length : Int) - (b.length : Int)) = ((a.length - b.length : Nat) : Int) := by rw [w64 (by omega) (by omega)]; omega
  rw [if_pos h, hw, if_pos ⟨by omega, by omega, Int.le_refl _⟩]
  simp only [Option.bind_some, Int.toNat_natCast, List.take_length, Option.some.injEq]
  rw [Bool.eq_iff_iff, decide_eq_true_eq, List.isSuffixOf_iff_suffix, List.suffix_iff_eq_drop]
  exact ⟨fun h => h.symm, fun h => h.symm⟩
 ·rw [if_neg h]
  simp only [Option.bind_some, Option.some.injEq]
  rw [eq_comm, Bool.eq_false_iff]
  intro hs
  have := (List.isSuffixOf_iff_suffix.1 hs).length_le
  omega
def ftabE (mark : List UInt8) (q : Nat) : Int := (foll mark (q / 16) (letters.getD (q % 16) 0) : Int)
def ftabL (mark : List UInt8) : List Int := (List.range ((mark.length + 1) * 16)).map (ftabE mark)
def pcell (mark : List UInt8) (m : Nat) : List Int := (List.range ((mark.length + 1) * 16)).map fun q => if q < m then ftabE mark q else 0
theorem ftabL_len (mark : List UInt8) : (ftabL mark).length = (mark.length + 1) * 16 := by simp [ftabL]
theorem ftabL_div (mark : List UInt8) : (ftabL mark).length / 16 = mark.length + 1 := by rw [ftabL_len]; omega
theorem pcell_len (mark : List UInt8) (m : Nat) : (pcell mark m).length = (mark.length + 1) * 16 := by simp [pcell]
theorem pcell_zero (mark : List UInt8) : pcell mark 0 = List.replicate ((mark.length + 1) * 16) 0 := by
 refine List.ext_getElem (by simp [pcell]) fun i h1 h2 => ?_
 simp [pcell]
theorem pcell_set (mark : List UInt8) {m : Nat} : (pcell mark m).set m (ftabE mark m) = pcell mark (m + 1) := by
 refine List.ext_getElem (by simp [pcell]) fun i h1 h2 => ?_
 rw [List.getElem_set]
 simp only [pcell, List.getElem_map, List.getElem_range]
 by_cases e : m = i
 ·subst e
  rw [if_pos rfl, if_pos (by omega)]
 ·rw [if_neg e]
  by_cases h : i < m
  ·rw [if_pos h, if_pos (by omega)]
  ·rw [if_neg h, if_neg (by omega)]
theorem pcell_full (mark : List UInt8) {m : Nat} (h : (mark.length + 1) * 16 ≤ m) : pcell mark m = ftabL mark := by
 refine List.ext_getElem (by simp [pcell, ftabL]) fun i h1 h2 => ?_
 simp only [pcell_len] at h1
 simp only [pcell, ftabL, List.getElem_map, List.getElem_range]
 rw [if_pos (by omega)]
theorem fgo_le (mark w : List UInt8) : ∀ n, fgo mark w n ≤ n
 | 0 => Nat.le_refl _
 | n + 1 => by
  unfold fgo
  split
  ·exact Nat.le_refl _
  ·exact Nat.le_succ_of_le (fgo_le mark w n)
theorem fgo_hit {mark w : List UInt8} {n : Nat} (h : (mark.take n).isSuffixOf w = true) : fgo mark w n = n := by
 cases n with
 | zero => rfl
 | succ n => unfold fgo; rw [if_pos h]
theorem fgo_miss {mark w : List UInt8} {n : Nat} (h : (mark.take n).isSuffixOf w = false) : 0 < n ∧ fgo mark w n = fgo mark w (n - 1) := by
 cases n with
 | zero => rw [List.take_zero] at h; simp [List.isSuffixOf] at h
 | succ n => 
  refine ⟨Nat.succ_pos _, ?_⟩
  rw [show n + 1 - 1 = n by omega]
  conv => lhs; unfold fgo
  rw [if_neg (by rw [h]; decide)]
theorem foll_le (mark : List UInt8) (k : Nat) (c : UInt8) : foll mark k c ≤ mark.length := Nat.le_trans (fgo_le _ _ _) (Nat.min_le_right _ _)
abbrev eA16 : EncL (List Int) := encF 16 (fun x => (List.range 16).map fun i => HV.int .i64 (x.getD i 0)) (fun _ => by simp)
theorem eA16_zero : ∀ n : Nat, eA16.E (List.replicate n []) = eInt.E (List.replicate (n * 16) 0)
 | 0 => rfl
 | n + 1 => by
  have h1 : eA16.E (List.replicate (n + 1) ([] : List Int)) = eA16.C [] ++ eA16.E (List.replicate n []) := by
   rw [eA16.hE, eA16.hE, List.replicate_succ, List.flatMap_cons]
  rw [h1, eA16_zero n, Nat.add_mul, Nat.one_mul, Nat.add_comm, ← List.replicate_append_replicate]
  show _ = List.map _ (_ ++ _)
  rw [List.map_append]
  rfl
section
variable {P : Program} {ro : Option Nat} {N : Nat} {s : AS} {ops : Array Oper} {K : AS → Prop} {F : List Nat → AS → Prop} {L : List Nat}
theorem AOpI.mono {i : Nat} {G G' : AS → Prop} (h : AOpI P ro N ops i G s) (hg : ∀ s', G s' → G' s') : AOpI P ro N ops i G' s := fun w0 μ0 μ a w next Q hs hE hK =>
 h w0 μ0 μ a w next Q hs hE fun μ2 s2 a2 w2 hk hs2 hE2 => hK μ2 s2 a2 w2 (hg s2 hk) hs2 hE2
theorem l_inv (hF : F = AnyL P ro N ops K) (hda : daOk ops = true) (p : Nat) (hp : p ≤ ops.size) (hw : ((List.range ops.size).all fun i => decide (i < p) || (List.range p).all fun k => (da ops i).contains k) = true)
  (Inv : List Nat → AS → Prop) (hstep : ∀ L s i, Inv L s → i < p → i ∉ L → (∀ k ∈ da ops i, k ∈ L) → AOpI P ro N ops i (Inv (i :: L)) s)
  (hend : ∀ L s, Inv L s → (∀ k, k < p ↔ k ∈ L) → F L s) : ∀ (d : Nat) (L : List Nat) (s : AS), Inv L s → (∀ k ∈ L, k < p) → L.Nodup → L.length + d = p → F L s
 | 0, L, s, hI, hL, hn, hd => by
  refine hend L s hI fun k => ⟨fun hk => Classical.byContradiction fun hkn => ?_, hL k⟩
  have hsub : (k :: L) ⊆ List.range p := fun x hx => by
   rcases List.mem_cons.1 hx with rfl | hx
   ·exact List.mem_range.2 hk
   ·exact List.mem_range.2 (hL x hx)
  have := (List.nodup_cons.2 ⟨hkn, hn⟩).length_le_of_subset hsub
  simp only [List.length_cons, List.length_range] at this
  omega
 | d + 1, L, s, hI, hL, hn, hd => by
  have hex : ∃ k, k < p ∧ k ∉ L := Classical.byContradiction fun hno => by
   have hsub : List.range p ⊆ L := fun x hx => Classical.byContradiction fun hx' => hno ⟨x, List.mem_range.1 hx, hx'⟩
   have := (List.nodup_range (n := p)).length_le_of_subset hsub
   simp only [List.length_range] at this
   omega
  obtain ⟨k0, hk0, hkL⟩ := hex
  have hlt : ∀ i, i ∈ readyL ops L → i < p ∧ i ∉ L ∧ ∀ k ∈ da ops i, k ∈ L := fun i hi => by
   simp only [readyL, List.mem_filter, List.mem_range, Bool.and_eq_true, Bool.not_eq_true', List.all_eq_true] at hi
   obtain ⟨h1, h2, h3⟩ := hi
   have h2' : i ∉ L := fun h => by rw [List.contains_iff_mem.2 h] at h2; cases h2
   refine ⟨Classical.byContradiction fun hip => ?_, h2', fun k hk => List.contains_iff_mem.1 (h3 k hk)⟩
   have := List.all_eq_true.1 hw i (List.mem_range.2 h1)
   rw [Bool.or_eq_true, decide_eq_true_eq] at this
   rcases this with h | h
   ·exact hip h
   ·have := List.all_eq_true.1 h k0 (List.mem_range.2 hk0)
    exact hkL (List.contains_iff_mem.1 (h3 k0 (List.contains_iff_mem.1 this)))
  -- some operation is ready
  have hready : (readyL ops L).isEmpty = false := by
   have hdak := daOk_spec hda
   -- the least that is not done
   have hmin : ∃ m, m < p ∧ m ∉ L ∧ ∀ k, k < m → k ∈ L := by
    have : ∀ n, (∃ m, m < n ∧ m < p ∧ m ∉ L) → ∃ m, m < p ∧ m ∉ L ∧ ∀ k, k < m → k ∈ L := by
     intro n
     induction n with
     | zero => rintro ⟨m, h, _⟩; omega
     | succ n ih =>
      rintro ⟨m, h1, h2, h3⟩
      by_cases hc : ∃ m, m < n ∧ m < p ∧ m ∉ L
      ·exact ih hc
      ·refine ⟨m, h2, h3, fun k hk => Classical.byContradiction fun hkn => hc ⟨k, by omega, by omega, hkn⟩⟩
    exact this p ⟨k0, hk0, hk0, hkL⟩
   obtain ⟨m, hm, hmL, hmin⟩ := hmin
   have : m ∈ readyL ops L := by
    simp only [readyL, List.mem_filter, List.mem_range, Bool.and_eq_true, Bool.not_eq_true', List.all_eq_true]
    refine ⟨by omega, ?_, fun k hk => List.contains_iff_mem.2 (hmin k (hdak m (by omega) k hk))⟩
    cases h : L.contains m with
    | false => rfl
    | true => exact absurd (List.contains_iff_mem.1 h) hmL
   cases hl : readyL ops L with
   | nil => rw [hl] at this; cases this
   | cons a l => rfl
  refine l_step hF hda (readyL ops L) rfl hready ?_
  have hall : ∀ l : List Nat, (∀ i ∈ l, i ∈ readyL ops L) → allR l fun i => AOpI P ro N ops i (F (i :: L)) s := by
   intro l
   induction l with
   | nil => intro _; exact trivial
   | cons i l ih =>
    intro hl
    obtain ⟨h1, h2, h3⟩ := hlt i (hl i (List.mem_cons_self ..))
    refine ⟨(hstep L s i hI h1 h2 h3).mono fun s' h' => ?_, ih fun j hj => hl j (List.mem_cons_of_mem _ hj)⟩
    refine l_inv hF hda p hp hw Inv hstep hend d (i :: L) s' h' (fun k hk => ?_) (List.nodup_cons.2 ⟨h2, hn⟩) (by simp only [List.length_cons]; omega)
    rcases List.mem_cons.1 hk with rfl | hk
    ·exact h1
    ·exact hL k hk
  exact hall _ fun i hi => hi
end
end Go.AW
namespace Go.AW
open Go
def rid (i : Nat) : Nat := (1000000 + i) * 1000 + 30
theorem rid_inj {i j : Nat} (h : rid i = rid j) : i = j := by unfold rid at h; omega
theorem hget_hd {id v : Nat} {o : AObj} {H : Heap} : hget ((id, v, o) :: H) id = some (v, o) := by simp [hget]
theorem hget_tl {id j v : Nat} {o : AObj} {H : Heap} (h : id ≠ j) : hget ((j, v, o) :: H) id = hget H id := by simp [hget, h]
theorem le_shadow {id v v' : Nat} {o o' : AObj} {H : Heap} : ∀ j x, hget ((id, v, o) :: H) j = some x → hget ((id, v, o) :: (id, v', o') :: H) j = some x := fun j x h => by
 by_cases e : j = id
 ·subst e; rw [hget_hd] at h ⊢; exact h
 ·rw [hget_tl e] at h ⊢; rw [hget_tl e]; exact h
abbrev Rws := List (Nat × List Int)
def hdr : Nat → Rws → List HV
 | _, [] => []
 | k, (v, l) :: t => .ar (rid k) v 1 0 l.length :: hdr (k + 1) t
abbrev eHd : EncL HV := ⟨1, fun h => [h], fun l => l, fun l => by induction l with
 | nil => rfl
 | cons a l ih => exact congrArg (a :: ·) ih, fun _ => rfl⟩
end Go.AW
