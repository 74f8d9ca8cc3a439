import Derived.Test.YtccnafddjjamoaaLa2
import Derived.Lib.Bytealg
import Derived.Lib.Slices
import Derived.Lib.Strings
import Derived.Lib.Walk
import Derived.Shelf.SortM.Plain
import Derived.Shelf.SortM.SortNone
import Derived.Test.YtccnafddjjamoaaChecked
import Derived.Test.YtccnafddjjamoaaProg
/- Models, printed by lk.py. -/
namespace Go.AW
open Go
set_option linter.unusedVariables false
abbrev TWordEnds := (List UInt8) × (List (Int))
abbrev cWordEnds (x : TWordEnds) : List HV := [HV.str x.1, slE eInt x.2]
abbrev eWordEnds : EncL TWordEnds := encF 2 cWordEnds (fun _ => rfl)
/-- groove/graph.list -/
noncomputable def m_graph_list (p0 : TFromLabelTo) : Option ((List (Int))) :=
  some [p0.1, p0.2.1, p0.2.2]

/-- cmp.isNaN[int] -/
noncomputable def m_cmp_isNaN_int (p0 : Int) : Option (Bool) :=
  some (decide (p0 ≠ p0))

/-- cmp.Compare[int] -/
noncomputable def m_cmp_Compare_int (p0 : Int) (p1 : Int) : Option (Int) :=
  (m_cmp_isNaN_int p0).bind fun x1 =>
  (m_cmp_isNaN_int p1).bind fun x3 =>
  if x1 = true then
    if x3 = true then
      some 0
    else
      some (-1)
  else
    if x3 = true then
      some 1
    else
      if p0 < p1 then
        some (-1)
      else
        if p1 < p0 then
          some 1
        else
          some 0

/-- slices.Compare[[]int,int] -/
noncomputable def m_slices_Compare_Lint_int (p0 : List (Int)) (p1 : List (Int)) : Option (Int) :=
  lpO (loopW (S := Int) (X := Ou (Unit) (Int)) (fun a1 =>
      if a1 < ((p0).length : Int) then
        (idx p0 a1).bind fun x5 =>
        if ((p1).length : Int) ≤ a1 then
          some (Stp.exit (Ou.ret 1))
        else
          (idx p1 a1).bind fun x7 =>
          (m_cmp_Compare_int x5 x7).bind fun x9 =>
          if x9 ≠ 0 then
            some (Stp.exit (Ou.ret x9))
          else
            some (Stp.next (IntKind.wrap .i64 (a1 + 1)))
      else
        some (Stp.exit (Ou.go ()))) 0) (fun a11 =>
      if ((p0).length : Int) < ((p1).length : Int) then
        some (-1)
      else
        some 0) some

/-- groove/graph.by[groove/api.Edge]$1 -/
noncomputable def m_graph_by_api_Edge_1 (p0 : TFromLabelTo) (p1 : TFromLabelTo) : Option (Int) :=
  (m_graph_list p0).bind fun x1 =>
  (m_graph_list p1).bind fun x3 =>
  (m_slices_Compare_Lint_int x1 x3).bind fun x5 =>
  some x5

/-- groove/graph.Check -/
noncomputable def m_graph_Check (p0 : TLabelsStatesEdges) : Option (Int) :=
  jp (fun (a1 : Bool) =>
    if a1 = true then
      some 12
    else
      if p0.2.1 < 0 then
        some 2
      else
        jp (fun (a4 : Bool) =>
          if a4 = true then
            some 4
          else
            lpO (loopW (S := Int) (X := Ou (Unit) (Int)) (fun a7 =>
                if a7 < ((p0.2.2).length : Int) then
                  (idx p0.2.2 a7).bind fun x11 =>
                  jp (fun (a14 : Bool) =>
                    if a14 = true then
                      some (Stp.exit (Ou.ret 2))
                    else
                      jp (fun (a17 : Bool) =>
                        if a17 = true then
                          some (Stp.exit (Ou.ret 10))
                        else
                          some (Stp.next (IntKind.wrap .i64 (a7 + 1))))
                        fun k19 =>
                        if 0 < a7 then
                          (idx p0.2.2 (IntKind.wrap .i64 (a7 - 1))).bind fun x20 =>
                          (m_graph_by_api_Edge_1 x20 x11).bind fun x22 =>
                          k19 (decide (0 ≤ x22))
                        else
                          k19 false)
                    fun k16 =>
                    if (min (min x11.1 x11.2.1) x11.2.2) < 0 then
                      k16 true
                    else
                      if p0.2.1 ≤ (max x11.1 x11.2.2) then
                        k16 true
                      else
                        k16 (decide (p0.1 ≤ x11.2.1))
                else
                  some (Stp.exit (Ou.go ()))) 0) (fun a27 =>
                some 0) some)
          fun k6 =>
          if 64 < p0.2.1 then
            k6 true
          else
            k6 (decide (1024 < ((p0.2.2).length : Int))))
    fun k3 =>
    if p0.1 < 1 then
      k3 true
    else
      k3 (decide (256 < p0.1))

/-- groove/graph.checkSet -/
noncomputable def m_graph_checkSet (p0 : TLabelsStatesEdges) (p1 : List (Int)) : Option (Int) :=
  lpO (loopW (S := Int) (X := Ou (Unit) (Int)) (fun a1 =>
      if a1 < ((p1).length : Int) then
        (idx p1 a1).bind fun x5 =>
        jp (fun (a7 : Bool) =>
          if a7 = true then
            some (Stp.exit (Ou.ret 25))
          else
            jp (fun (a10 : Bool) =>
              if a10 = true then
                some (Stp.exit (Ou.ret 10))
              else
                some (Stp.next (IntKind.wrap .i64 (a1 + 1))))
              fun k12 =>
              if 0 < a1 then
                (idx p1 (IntKind.wrap .i64 (a1 - 1))).bind fun x13 =>
                k12 (decide (x5 ≤ x13))
              else
                k12 false)
          fun k9 =>
          if x5 < 0 then
            k9 true
          else
            k9 (decide (p0.2.1 ≤ x5))
      else
        some (Stp.exit (Ou.go ()))) 0) (fun a17 =>
      some 0) some

/-- groove/graph.Step -/
noncomputable def m_graph_Step (p0 : TLabelsStatesEdges) (p1 : List (Int)) (p2 : Int) : Option ((List (Int)) × Int) :=
  (m_graph_Check p0).bind fun x1 =>
  if x1 ≠ 0 then
    some ([], 1)
  else
    (m_graph_checkSet p0 p1).bind fun x3 =>
    if x3 ≠ 0 then
      some ([], x3)
    else
      jp (fun (a5 : Bool) =>
        if a5 = true then
          some ([], 2)
        else
          (loopW (S := Int × (List Int)) (X := (List Int)) (fun a9 =>
              if a9.1 < ((p1).length : Int) then
                (idx p1 a9.1).bind fun x13 =>
                (y_graph_leaving p0 x13).bind fun L15 =>
                lpO (forL (S := (List Int)) (X := Unit) (fun a17 (x19 : Int × TFromLabelTo) =>
                    if x19.2.2.1 = p2 then
                      if fits 8 ((a17 : List Int).length + ([x19.2.2.2]).length) then
                        some (Stp.next (a17 ++ [x19.2.2.2]))
                      else none
                    else
                      some (Stp.next a17)) L15 a9.2) (fun a26 =>
                    some (Stp.next (IntKind.wrap .i64 (a9.1 + 1), a26))) fun a28 =>
                    none
              else
                some (Stp.exit a9.2)) (0, ([] : List Int))).bind fun a31 =>
          if (a31).length < 4611686018427387904 then
            some (compact_ (sortI a31), 0)
          else none)
        fun k7 =>
        if p2 < 0 then
          k7 true
        else
          k7 (decide (p0.1 ≤ p2))

/-- groove/grooveref09.Compare -/
noncomputable def m_ref09_Compare (p0 : TFromLabelTo) (p1 : TFromLabelTo) : Option (Int) :=
  lpO (loopW (S := Int) (X := Ou (Unit) (Int)) (fun a1 =>
      if a1 < 3 then
        (idx [p0.1, p0.2.1, p0.2.2] a1).bind fun x5 =>
        (idx [p1.1, p1.2.1, p1.2.2] a1).bind fun x7 =>
        if x5 < x7 then
          some (Stp.exit (Ou.ret (-1)))
        else
          (idx [p0.1, p0.2.1, p0.2.2] a1).bind fun x9 =>
          (idx [p1.1, p1.2.1, p1.2.2] a1).bind fun x11 =>
          if x11 < x9 then
            some (Stp.exit (Ou.ret 1))
          else
            some (Stp.next (IntKind.wrap .i64 (a1 + 1)))
      else
        some (Stp.exit (Ou.go ()))) 0) (fun a13 =>
      some 0) some

/-- groove/grooveref09.Check -/
noncomputable def m_ref09_Check (p0 : TLabelsStatesEdges) : Option (Int) :=
  jp (fun (a1 : Bool) =>
    if a1 = true then
      some 12
    else
      if p0.2.1 < 0 then
        some 2
      else
        jp (fun (a4 : Bool) =>
          if a4 = true then
            some 4
          else
            lpO (loopW (S := Int) (X := Ou (Unit) (Int)) (fun a7 =>
                if a7 < ((p0.2.2).length : Int) then
                  (idx p0.2.2 a7).bind fun x11 =>
                  jp (fun (a14 : Bool) =>
                    if a14 = true then
                      some (Stp.exit (Ou.ret 2))
                    else
                      jp (fun (a17 : Bool) =>
                        if a17 = true then
                          some (Stp.exit (Ou.ret 10))
                        else
                          some (Stp.next (IntKind.wrap .i64 (a7 + 1))))
                        fun k19 =>
                        if 0 < a7 then
                          (idx p0.2.2 (IntKind.wrap .i64 (a7 - 1))).bind fun x20 =>
                          (m_ref09_Compare x20 x11).bind fun x22 =>
                          k19 (decide (0 ≤ x22))
                        else
                          k19 false)
                    fun k16 =>
                    if x11.1 < 0 then
                      k16 true
                    else
                      if p0.2.1 ≤ x11.1 then
                        k16 true
                      else
                        if x11.2.2 < 0 then
                          k16 true
                        else
                          if p0.2.1 ≤ x11.2.2 then
                            k16 true
                          else
                            if x11.2.1 < 0 then
                              k16 true
                            else
                              k16 (decide (p0.1 ≤ x11.2.1))
                else
                  some (Stp.exit (Ou.go ()))) 0) (fun a30 =>
                some 0) some)
          fun k6 =>
          if 64 < p0.2.1 then
            k6 true
          else
            k6 (decide (1024 < ((p0.2.2).length : Int))))
    fun k3 =>
    if p0.1 < 1 then
      k3 true
    else
      k3 (decide (256 < p0.1))

/-- groove/grooveref11.check -/
noncomputable def m_ref11_check (p0 : TLabelsStatesEdges) : Option (Int) :=
  (m_ref09_Check p0).bind fun x1 =>
  if x1 ≠ 0 then
    some 1
  else
    if 16 < p0.1 then
      some 12
    else
      some 0

/-- groove/grooveref11.checkNumber -/
noncomputable def m_ref11_checkNumber (p0 : TLabelsStatesEdges) (p1 : Int) : Option (Int) :=
  (m_ref11_check p0).bind fun x1 =>
  if x1 ≠ 0 then
    some x1
  else
    jp (fun (a3 : Bool) =>
      if a3 = true then
        some 2
      else
        some 0)
      fun k5 =>
      if p1 < 0 then
        k5 true
      else
        k5 (decide (4096 < p1))

/-- groove/grooveref11.has -/
noncomputable def m_ref11_has (p0 : List (Int)) (p1 : Int) : Option (Bool) :=
  lpO (loopW (S := Int) (X := Ou (Unit) (Bool)) (fun a1 =>
      if a1 < ((p0).length : Int) then
        (idx p0 a1).bind fun x5 =>
        if x5 = p1 then
          some (Stp.exit (Ou.ret true))
        else
          some (Stp.next (IntKind.wrap .i64 (a1 + 1)))
      else
        some (Stp.exit (Ou.go ()))) 0) (fun a7 =>
      some false) some

/-- groove/grooveref11.Step -/
noncomputable def m_ref11_Step (p0 : TLabelsStatesEdges) (p1 : List (Int)) (p2 : Int) : Option ((List (Int))) :=
  (loopW (S := Int × (List Int)) (X := (List Int)) (fun a2 =>
      if a2.1 < p0.2.1 then
        jp (fun (a6 : (List Int)) =>
          some (Stp.next (IntKind.wrap .i64 (a2.1 + 1), a6)))
          fun k8 =>
          (loopW (S := Bool × Int) (X := Bool) (fun a9 =>
              if a9.2 < ((p0.2.2).length : Int) then
                jp (fun (a13 : Bool) =>
                  some (Stp.next (a13, IntKind.wrap .i64 (a9.2 + 1))))
                  fun k15 =>
                  jp (fun (a16 : Bool) =>
                    if a16 = true then
                      k15 true
                    else
                      k15 a9.1)
                    fun k18 =>
                    (idx p0.2.2 a9.2).bind fun x19 =>
                    if x19.2.2 = a2.1 then
                      (idx p0.2.2 a9.2).bind fun x21 =>
                      if x21.2.1 = p2 then
                        (idx p0.2.2 a9.2).bind fun x23 =>
                        (m_ref11_has p1 x23.1).bind fun x25 =>
                        k18 x25
                      else
                        k18 false
                    else
                      k18 false
              else
                some (Stp.exit a9.1)) (false, 0)).bind fun a29 =>
          if a29 = true then
            if fits 8 ((a2.2 : List Int).length + ([a2.1]).length) then
              k8 (a2.2 ++ [a2.1])
            else none
          else
            k8 a2.2
      else
        some (Stp.exit a2.2)) (0, [])).bind fun a33 =>
  some a33

/-- groove/grooveref11.grow -/
noncomputable def m_ref11_grow (p0 : TLabelsStatesEdges) (p1 : List (TWordEnds)) : Option ((List (TWordEnds))) :=
  (loopW (S := Int × (List TWordEnds)) (X := (List TWordEnds)) (fun a2 =>
      if a2.1 < ((p1).length : Int) then
        (loopW (S := Int × (List TWordEnds)) (X := (List TWordEnds)) (fun a6 =>
            if a6.1 < p0.1 then
              jp (fun (a10 : (List TWordEnds)) =>
                some (Stp.next (IntKind.wrap .i64 (a6.1 + 1), a10)))
                fun k12 =>
                (idx p1 a2.1).bind fun x13 =>
                (m_ref11_Step p0 x13.2 a6.1).bind fun x15 =>
                if 0 < ((x15).length : Int) then
                  (idx p1 a2.1).bind fun x17 =>
                  if 0 ≤ (a6.1 : Int) ∧ (a6.1 : Int) ≤ IntKind.wrap .i64 (a6.1 + 1) ∧ IntKind.wrap .i64 (a6.1 + 1) ≤ (([48, 49, 50, 51, 52, 53, 54, 55, 56, 57, 97, 98, 99, 100, 101, 102] : List UInt8).length : Int) then
                    if x17.1.length + ((([48, 49, 50, 51, 52, 53, 54, 55, 56, 57, 97, 98, 99, 100, 101, 102] : List UInt8).take (IntKind.wrap .i64 (a6.1 + 1)).toNat).drop (a6.1).toNat).length ≤ maxLen then
                      if fits 40 ((a6.2 : List TWordEnds).length + ([(x17.1 ++ ((([48, 49, 50, 51, 52, 53, 54, 55, 56, 57, 97, 98, 99, 100, 101, 102] : List UInt8).take (IntKind.wrap .i64 (a6.1 + 1)).toNat).drop (a6.1).toNat), x15)]).length) then
                        k12 (a6.2 ++ [(x17.1 ++ ((([48, 49, 50, 51, 52, 53, 54, 55, 56, 57, 97, 98, 99, 100, 101, 102] : List UInt8).take (IntKind.wrap .i64 (a6.1 + 1)).toNat).drop (a6.1).toNat), x15)])
                      else none
                    else none
                  else none
                else
                  k12 a6.2
            else
              some (Stp.exit a6.2)) (0, a2.2)).bind fun a23 =>
        some (Stp.next (IntKind.wrap .i64 (a2.1 + 1), a23))
      else
        some (Stp.exit a2.2)) (0, [])).bind fun a25 =>
  some a25

/-- groove/grooveref11.words -/
noncomputable def m_ref11_words (p0 : TLabelsStatesEdges) (p1 : List (Int)) (p2 : Int) : Option ((List (TWordEnds)) × Int) :=
  jp (fun (a2 : (List TWordEnds)) =>
    lpO (loopW (S := (List TWordEnds) × Int) (X := Ou ((List TWordEnds)) ((List (TWordEnds)) × Int)) (fun a5 =>
        jp (fun (a9 : Bool) =>
          if a9 = true then
            (m_ref11_grow p0 a5.1).bind fun x12 =>
            if 4096 < ((x12).length : Int) then
              some (Stp.exit (Ou.ret ([], 4)))
            else
              some (Stp.next (x12, IntKind.wrap .i64 (a5.2 + 1)))
          else
            some (Stp.exit (Ou.go a5.1)))
          fun k11 =>
          if a5.2 < p2 then
            k11 (decide (0 < ((a5.1).length : Int)))
          else
            k11 false) (a2, 0)) (fun a15 =>
        some (a15, 0)) some)
    fun k4 =>
    if 0 < ((p1).length : Int) then
      if fits 40 (([] : List TWordEnds).length + ([(([] : List UInt8), p1)]).length) then
        k4 (([] : List TWordEnds) ++ [(([] : List UInt8), p1)])
      else none
    else
      k4 []

/-- groove/grooveref11.All -/
noncomputable def m_ref11_All (p0 : TLabelsStatesEdges) : Option ((List (Int))) :=
  (loopW (S := Int × (List Int)) (X := (List Int)) (fun a2 =>
      if a2.1 < p0.2.1 then
        if fits 8 ((a2.2 : List Int).length + ([a2.1]).length) then
          some (Stp.next (IntKind.wrap .i64 (a2.1 + 1), a2.2 ++ [a2.1]))
        else none
      else
        some (Stp.exit a2.2)) (0, [])).bind fun a8 =>
  some a8

/-- groove/grooveref11.texts -/
noncomputable def m_ref11_texts (p0 : List (TWordEnds)) : Option ((List (List UInt8))) :=
  (loopW (S := Int × (List (List UInt8))) (X := (List (List UInt8))) (fun a2 =>
      if a2.1 < ((p0).length : Int) then
        (idx p0 a2.1).bind fun x6 =>
        if fits 16 ((a2.2 : List (List UInt8)).length + ([x6.1]).length) then
          some (Stp.next (IntKind.wrap .i64 (a2.1 + 1), a2.2 ++ [x6.1]))
        else none
      else
        some (Stp.exit a2.2)) (0, [])).bind fun a10 =>
  some a10

/-- groove/grooveref11.Words -/
noncomputable def m_ref11_Words (p0 : TLabelsStatesEdges) (p1 : Int) : Option ((List (List UInt8)) × Int) :=
  (m_ref11_checkNumber p0 p1).bind fun x1 =>
  if x1 ≠ 0 then
    some ([], x1)
  else
    (m_ref11_All p0).bind fun x3 =>
    (m_ref11_words p0 x3 p1).bind fun x5 =>
    if x5.2 ≠ 0 then
      some ([], x5.2)
    else
      (m_ref11_texts x5.1).bind fun x7 =>
      some (x7, 0)

/-- groove/language.step -/
noncomputable def m_language_step (p0 : TLabelsStatesEdges) (p1 : List (Int)) (p2 : Int) : Option ((List (Int))) :=
  (m_strings_IndexByte [48, 49, 50, 51, 52, 53, 54, 55, 56, 57, 97, 98, 99, 100, 101, 102] p2).bind fun x1 =>
  (m_graph_Step p0 p1 x1).bind fun x3 =>
  some x3.1

/-- groove/language.states -/
noncomputable def m_language_states (p0 : TLabelsStatesEdges) : Option ((List (Int))) :=
  if 0 ≤ (p0.2.1 : Int) ∧ (p0.2.1 : Int) ≤ p0.2.1 ∧ (p0.2.1 : Int) * 8 ≤ 281474976710656 then
    (loopW (S := Int × (List Int)) (X := (List Int)) (fun a3 =>
        if a3.1 < (((List.replicate (p0.2.1).toNat (0 : Int)).length : Nat) : Int) then
          (idx a3.2 a3.1).bind fun x7 =>
          some (Stp.next (IntKind.wrap .i64 (a3.1 + 1), (a3.2).set (a3.1).toNat a3.1))
        else
          some (Stp.exit a3.2)) (0, List.replicate (p0.2.1).toNat (0 : Int))).bind fun a9 =>
    some a9
  else none

/-- groove/language.check -/
noncomputable def m_language_check (p0 : TLabelsStatesEdges) : Option (Int) :=
  (m_graph_Check p0).bind fun x1 =>
  if x1 ≠ 0 then
    some 1
  else
    if 16 < p0.1 then
      some 12
    else
      some 0

/-- groove/language.lengths -/
noncomputable def m_language_lengths (p0 : TLabelsStatesEdges) (p1 : Int) : Option (Int) :=
  (m_language_check p0).bind fun x1 =>
  if x1 ≠ 0 then
    some x1
  else
    jp (fun (a3 : Bool) =>
      if a3 = true then
        some 2
      else
        some 0)
      fun k5 =>
      if p1 < 0 then
        k5 true
      else
        k5 (decide (4096 < p1))

/-- groove/word.known -/
noncomputable def m_word_known (p0 : Int) : Option (Bool) :=
  jp (fun (a1 : Bool) =>
    some a1)
    fun k3 =>
    if 1 ≤ p0 then
      k3 (decide (p0 ≤ 16))
    else
      k3 false

/-- groove/word.Check -/
noncomputable def m_word_Check (p0 : Int) (p1 : List UInt8) : Option (Int) :=
  (m_word_known p0).bind fun x1 =>
  if (!x1) = true then
    some 12
  else
    if 65536 < ((p1).length : Int) then
      some 4
    else
      lpO (loopW (S := Int) (X := Ou (Unit) (Int)) (fun a3 =>
          if a3 < ((p1).length : Int) then
            if 0 ≤ (0 : Int) ∧ (0 : Int) ≤ p0 ∧ p0 ≤ (([48, 49, 50, 51, 52, 53, 54, 55, 56, 57, 97, 98, 99, 100, 101, 102] : List UInt8).length : Int) then
              (idx p1 a3).bind fun x8 =>
              (m_strings_IndexByte ((([48, 49, 50, 51, 52, 53, 54, 55, 56, 57, 97, 98, 99, 100, 101, 102] : List UInt8).take (p0).toNat).drop (0 : Int).toNat) (x8.toNat : Int)).bind fun x10 =>
              if x10 < 0 then
                some (Stp.exit (Ou.ret 13))
              else
                some (Stp.next (IntKind.wrap .i64 (a3 + 1)))
            else none
          else
            some (Stp.exit (Ou.go ()))) 0) (fun a12 =>
          some 0) some

/-- groove/language.spells -/
noncomputable def m_language_spells (p0 : TLabelsStatesEdges) (p1 : List UInt8) : Option (Int) :=
  (m_language_check p0).bind fun x1 =>
  if x1 ≠ 0 then
    some x1
  else
    (m_word_Check p0.1 p1).bind fun x3 =>
    some x3

end Go.AW

/- What the functions of graphs compute: checks, steps, sets of states. -/
namespace Go.AW
open Go
set_option linter.unusedSimpArgs false
set_option linter.unusedVariables false

theorem loopW_eq {S X : Type} (body : S → Option (Stp S X)) (s : S) : loopW body s = match body s with
    | none => none
    | some (.exit x) => some x
    | some (.next s') => loopW body s' := by
  cases h : body s with
  | none => exact loopW_stuck h
  | some r => cases r with
    | exit x => exact loopW_exit h
    | next s' => exact loopW_next h

abbrev Gr := TLabelsStatesEdges
abbrev Ed := TFromLabelTo

def cmp3 (x y : Ed) : Int := if x.1 < y.1 then -1 else if y.1 < x.1 then 1 else if x.2.1 < y.2.1 then -1 else if y.2.1 < x.2.1 then 1 else if x.2.2 < y.2.2 then -1 else if y.2.2 < x.2.2 then 1 else 0

theorem cmpC (a b : Int) : m_cmp_Compare_int a b = some (if a < b then -1 else if b < a then 1 else 0) := by
  unfold m_cmp_Compare_int m_cmp_isNaN_int
  simp only [ne_eq, not_true_eq_false, decide_false, Option.bind_some, Bool.false_eq_true, if_false]
  split <;> (try rfl)
  split <;> rfl

theorem wr0 : IntKind.wrap .i64 (0 + 1) = 1 := by decide
theorem wr1 : IntKind.wrap .i64 (1 + 1) = 2 := by decide
theorem wr2 : IntKind.wrap .i64 (2 + 1) = 3 := by decide

theorem ix3_0 (a b c : Int) : idx [a, b, c] 0 = some a := rfl
theorem ix3_1 (a b c : Int) : idx [a, b, c] 1 = some b := rfl
theorem ix3_2 (a b c : Int) : idx [a, b, c] 2 = some c := rfl
theorem len3 (a b c : Int) : (([a, b, c] : List Int).length : Int) = 3 := rfl

theorem by1_eq (x y : Ed) : m_graph_by_api_Edge_1 x y = some (cmp3 x y) := by
  unfold m_graph_by_api_Edge_1 m_graph_list m_slices_Compare_Lint_int cmp3
  simp only [Option.bind_some, len3]
  rw [loopW_eq]
  simp only [ix3_0, cmpC, Option.bind_some, wr0]
  by_cases a1 : x.1 < y.1
  · simp [a1, lpO]
  by_cases a2 : y.1 < x.1
  · simp [a1, a2, lpO]
  simp only [a1, a2, if_false, ne_eq, not_true_eq_false, if_true, Int.reduceLT, Int.reduceLE]
  rw [loopW_eq]
  simp only [ix3_1, cmpC, Option.bind_some, wr1]
  by_cases b1 : x.2.1 < y.2.1
  · simp [b1, lpO]
  by_cases b2 : y.2.1 < x.2.1
  · simp [b1, b2, lpO]
  simp only [b1, b2, if_false, ne_eq, not_true_eq_false, if_true, Int.reduceLT, Int.reduceLE]
  rw [loopW_eq]
  simp only [ix3_2, cmpC, Option.bind_some, wr2]
  by_cases c1 : x.2.2 < y.2.2
  · simp [c1, lpO]
  by_cases c2 : y.2.2 < x.2.2
  · simp [c1, c2, lpO]
  simp only [c1, c2, if_false, ne_eq, not_true_eq_false, if_true, Int.reduceLT, Int.reduceLE]
  rw [loopW_eq]
  simp [lpO]

theorem cmp_eq (x y : Ed) : m_ref09_Compare x y = some (cmp3 x y) := by
  unfold m_ref09_Compare cmp3
  rw [loopW_eq]
  simp only [ix3_0, Option.bind_some, wr0]
  by_cases a1 : x.1 < y.1
  · simp [a1, lpO]
  by_cases a2 : y.1 < x.1
  · simp [a1, a2, lpO]
  simp only [a1, a2, if_false, if_true, Int.reduceLT]
  rw [loopW_eq]
  simp only [ix3_1, Option.bind_some, wr1]
  by_cases b1 : x.2.1 < y.2.1
  · simp [b1, lpO]
  by_cases b2 : y.2.1 < x.2.1
  · simp [b1, b2, lpO]
  simp only [b1, b2, if_false, if_true, Int.reduceLT]
  rw [loopW_eq]
  simp only [ix3_2, Option.bind_some, wr2]
  by_cases c1 : x.2.2 < y.2.2
  · simp [c1, lpO]
  by_cases c2 : y.2.2 < x.2.2
  · simp [c1, c2, lpO]
  simp only [c1, c2, if_false, if_true, Int.reduceLT]
  rw [loopW_eq]
  simp [lpO]

/-- the program's check is the reference's -/
theorem Check_ref (g : Gr) : m_graph_Check g = m_ref09_Check g := by
  unfold m_graph_Check m_ref09_Check
  have key : ∀ (x : Ed) (k : Bool → Option (Stp Int (Ou Unit Int))), (if (min (min x.1 x.2.1) x.2.2) < 0 then k true else if g.2.1 ≤ (max x.1 x.2.2) then k true else k (decide (g.1 ≤ x.2.1))) =
      (if x.1 < 0 then k true else if g.2.1 ≤ x.1 then k true else if x.2.2 < 0 then k true else if g.2.1 ≤ x.2.2 then k true else if x.2.1 < 0 then k true else k (decide (g.1 ≤ x.2.1))) := by
    intro x k
    by_cases h1 : x.1 < 0
    · rw [if_pos (by omega), if_pos h1]
    by_cases h2 : g.2.1 ≤ x.1
    · rw [if_neg h1, if_pos h2]
      split
      · rfl
      · rw [if_pos (by omega)]
    by_cases h3 : x.2.2 < 0
    · rw [if_neg h1, if_neg h2, if_pos h3, if_pos (by omega)]
    by_cases h4 : g.2.1 ≤ x.2.2
    · rw [if_neg h1, if_neg h2, if_neg h3, if_pos h4]
      split
      · rfl
      · rw [if_pos (by omega)]
    by_cases h5 : x.2.1 < 0
    · rw [if_neg h1, if_neg h2, if_neg h3, if_neg h4, if_pos h5, if_pos (by omega)]
    · rw [if_neg h1, if_neg h2, if_neg h3, if_neg h4, if_neg h5, if_neg (by omega), if_neg (by omega)]
  simp only [by1_eq, cmp_eq, key]

/-- what of a valid graph is used -/
structure VG (g : Gr) : Prop where
  l1 : 1 ≤ g.1
  l2 : g.1 ≤ 256
  s0 : 0 ≤ g.2.1
  s1 : g.2.1 ≤ 64
  el : g.2.2.length ≤ 1024
  ed : ∀ x ∈ g.2.2, 0 ≤ x.1 ∧ x.1 < g.2.1 ∧ 0 ≤ x.2.2 ∧ x.2.2 < g.2.1 ∧ 0 ≤ x.2.1 ∧ x.2.1 < g.1
  ord : ∀ (i : Nat) (h : i + 1 < g.2.2.length), cmp3 (g.2.2[i]'(by omega)) g.2.2[i + 1] < 0

theorem ix_pred {α : Type} {l : List α} {i : Nat} (h : i < l.length) (hm : l.length ≤ 9223372036854775807) (h0 : 0 < i) : idx l (IntKind.wrap .i64 ((i : Int) - 1)) = some (l[i - 1]'(by omega)) := by
  rw [w64 (by omega) (by omega), show ((i : Int) - 1) = ((i - 1 : Nat) : Int) by omega]
  exact ix (by omega)

theorem lpO_ex {V R Y : Type} {o : Option (Ou V R)} {M : V → Option Y} {Rt : R → Option Y} {C : Y → Prop} (Q : Ou V R → Prop) (h : ∃ x, o = some x ∧ Q x) (k : ∀ x, Q x → ∃ e, lpO (some x) M Rt = some e ∧ C e) : ∃ e, lpO o M Rt = some e ∧ C e := by
  obtain ⟨x, rfl, hq⟩ := h
  exact k x hq

theorem Check_tot (g : Gr) : ∃ e, m_ref09_Check g = some e ∧ (e = 0 ↔ VG g) := by
  unfold m_ref09_Check
  simp only [jp]
  by_cases h1 : g.1 < 1
  · exact ⟨12, by simp [h1], by simp; intro v; have := v.l1; omega⟩
  by_cases h2 : 256 < g.1
  · exact ⟨12, by simp [h1, h2], by simp; intro v; have := v.l2; omega⟩
  by_cases h3 : g.2.1 < 0
  · exact ⟨2, by simp [h1, h2, h3], by simp; intro v; have := v.s0; omega⟩
  by_cases h4 : 64 < g.2.1
  · exact ⟨4, by simp [h1, h2, h3, h4], by simp; intro v; have := v.s1; omega⟩
  by_cases h5 : 1024 < (g.2.2.length : Int)
  · exact ⟨4, by simp [h1, h2, h3, h4, h5], by simp; intro v; have := v.el; omega⟩
  simp only [h1, h2, h3, h4, h5, if_false, decide_false, Bool.false_eq_true, cmp_eq, Option.bind_some, if_true]
  refine lpO_ex (fun x => (x = .ret 2 ∧ ¬ VG g) ∨ (x = .ret 10 ∧ ¬ VG g) ∨ (x = .go () ∧ VG g)) ?_ ?_
  · refine loopN g.2.2.length (fun i s => s = (i : Int) ∧ (∀ (j : Nat) (h : j < i) (hj : j < g.2.2.length), 0 ≤ g.2.2[j].1 ∧ g.2.2[j].1 < g.2.1 ∧ 0 ≤ g.2.2[j].2.2 ∧ g.2.2[j].2.2 < g.2.1 ∧ 0 ≤ g.2.2[j].2.1 ∧ g.2.2[j].2.1 < g.1) ∧
        ∀ (j : Nat) (h : j + 1 < i) (hj : j + 1 < g.2.2.length), cmp3 (g.2.2[j]'(by omega)) g.2.2[j + 1] < 0) ?_ ?_ 0 _ (Nat.zero_le _) ⟨rfl, fun _ h => by omega, fun _ h => by omega⟩
    · rintro i s hi ⟨rfl, he, ho⟩
      rw [if_pos (lt_int hi), ix hi]
      simp only [Option.bind_some]
      by_cases hg : 0 ≤ g.2.2[i].1 ∧ g.2.2[i].1 < g.2.1 ∧ 0 ≤ g.2.2[i].2.2 ∧ g.2.2[i].2.2 < g.2.1 ∧ 0 ≤ g.2.2[i].2.1 ∧ g.2.2[i].2.1 < g.1
      · obtain ⟨e1, e2, e3, e4, e5, e6⟩ := hg
        rw [if_neg (by omega), if_neg (by omega), if_neg (by omega), if_neg (by omega), if_neg (by omega)]
        have hd : decide (g.1 ≤ g.2.2[i].2.1) = false := decide_eq_false (by omega)
        rw [hd]
        simp only [Bool.false_eq_true, if_false]
        have he' : ∀ (j : Nat) (h : j < i + 1) (hj : j < g.2.2.length), 0 ≤ g.2.2[j].1 ∧ g.2.2[j].1 < g.2.1 ∧ 0 ≤ g.2.2[j].2.2 ∧ g.2.2[j].2.2 < g.2.1 ∧ 0 ≤ g.2.2[j].2.1 ∧ g.2.2[j].2.1 < g.1 := by
          intro j hj hjl
          by_cases hji : j = i
          · subst hji; exact ⟨e1, e2, e3, e4, e5, e6⟩
          · exact he j (by omega) hjl
        by_cases h0 : 0 < i
        · rw [if_pos (by omega), ix_pred hi (by omega) h0]
          simp only [Option.bind_some]
          by_cases hc : 0 ≤ cmp3 (g.2.2[i - 1]'(by omega)) g.2.2[i]
          · refine .inr ⟨.ret 10, by rw [if_pos (decide_eq_true hc)], .inr (.inl ⟨rfl, fun v => ?_⟩)⟩
            have := v.ord (i - 1) (by omega)
            simp only [show i - 1 + 1 = i by omega] at this
            omega
          · refine .inl ⟨_, by rw [if_neg (by simpa using hc)], by rw [nx (by omega : g.2.2.length ≤ _) hi], he', fun j hj hjl => ?_⟩
            by_cases hji : j + 1 = i
            · have hj' : j = i - 1 := by omega
              subst hj'
              simp only [show i - 1 + 1 = i by omega]
              omega
            · exact ho j (by omega) hjl
        · refine .inl ⟨_, by rw [if_neg (by omega)], by rw [nx (by omega : g.2.2.length ≤ _) hi], he', fun j hj hjl => by omega⟩
      · have hv : ¬ VG g := fun v => hg (v.ed _ (List.getElem_mem hi))
        refine .inr ⟨.ret 2, ?_, .inl ⟨rfl, hv⟩⟩
        by_cases e1 : g.2.2[i].1 < 0
        · rw [if_pos e1]
        rw [if_neg e1]
        by_cases e2 : g.2.1 ≤ g.2.2[i].1
        · rw [if_pos e2]
        rw [if_neg e2]
        by_cases e3 : g.2.2[i].2.2 < 0
        · rw [if_pos e3]
        rw [if_neg e3]
        by_cases e4 : g.2.1 ≤ g.2.2[i].2.2
        · rw [if_pos e4]
        rw [if_neg e4]
        by_cases e5 : g.2.2[i].2.1 < 0
        · rw [if_pos e5]
        rw [if_neg e5, if_pos (decide_eq_true (by omega))]
    · rintro s ⟨rfl, he, ho⟩
      rw [if_neg (not_lt_int _)]
      refine ⟨_, rfl, .inr (.inr ⟨rfl, ⟨by omega, by omega, by omega, by omega, by omega, fun x hx => ?_, fun i h => ho i h h⟩⟩)⟩
      obtain ⟨j, hj, rfl⟩ := List.getElem_of_mem hx
      exact he j hj hj
  · rintro x (⟨rfl, hv⟩ | ⟨rfl, hv⟩ | ⟨rfl, hv⟩)
    · exact ⟨2, rfl, by simp [hv]⟩
    · exact ⟨10, rfl, by simp [hv]⟩
    · exact ⟨0, rfl, by simp [hv]⟩
end Go.AW

/- A step of a set of states, in the program and in the reference. -/
namespace Go.AW
open Go
set_option linter.unusedSimpArgs false
set_option linter.unusedVariables false

theorem asc_uniq {l m : List Int} (hl : l.Pairwise (· < ·)) (hm : m.Pairwise (· < ·)) (h : ∀ x, x ∈ l ↔ x ∈ m) : l = m := by
  have nl : l.Nodup := hl.imp fun h => Int.ne_of_lt h
  have nm : m.Nodup := hm.imp fun h => Int.ne_of_lt h
  have hp : l.Perm m := (List.perm_ext_iff_of_nodup nl nm).2 h
  exact hp.eq_of_pairwise (fun a b _ _ h1 h2 => by omega) hl hm

theorem sortI_mem {l : List Int} {x : Int} : x ∈ sortI l ↔ x ∈ l := (List.mergeSort_perm l _).mem_iff
theorem sortI_asc (l : List Int) : (sortI l).Pairwise (· ≤ ·) := by
  have := List.pairwise_mergeSort (le := fun x y : Int => decide (x ≤ y)) (fun a b c h1 h2 => by simp at *; omega) (fun a b => by simp; omega) l
  exact this.imp fun h => by simpa using h

theorem keeps_iff (d : Array Int) (j : Nat) : Lib.keeps d j = true ↔ j = 0 ∨ d[j]! ≠ d[j - 1]! := by
  simp [Lib.keeps]

theorem compact_asc {l : List Int} (h : l.Pairwise (· ≤ ·)) : (compact_ l).Pairwise (· < ·) := by
  show (Lib.compactUpTo l.toArray l.length).Pairwise (· < ·)
  unfold Lib.compactUpTo
  rw [List.pairwise_map]
  refine List.Pairwise.imp_of_mem ?_ ((List.pairwise_lt_range (n := l.length)).filter _)
  intro i j hi hj hij
  have hi' := List.mem_range.1 (List.mem_filter.1 hi).1
  have hj' := List.mem_range.1 (List.mem_filter.1 hj).1
  have hk := (keeps_iff _ _).1 (List.mem_filter.1 hj).2
  have e1 : l.toArray[i]! = l[i] := by simp [hi']
  have e2 : l.toArray[j]! = l[j] := by simp [hj']
  have e3 : l.toArray[j - 1]! = l[j - 1]'(by omega) := by simp [show j - 1 < l.length by omega]
  rw [e2, e3] at hk
  rw [e1, e2]
  have hp := List.pairwise_iff_getElem.1 h
  have h1 : l[i] ≤ l[j - 1]'(by omega) := by
    by_cases hie : i = j - 1
    · subst hie; exact Int.le_refl _
    · exact hp i (j - 1) hi' (by omega) (by omega)
  have h2 : l[j - 1]'(by omega) ≤ l[j] := hp (j - 1) j (by omega) hj' (by omega)
  omega

theorem compact_has {l : List Int} {x : Int} (h : x ∈ l) : x ∈ compact_ l := by
  show x ∈ Lib.compactUpTo l.toArray l.length
  unfold Lib.compactUpTo
  obtain ⟨i, hi, rfl⟩ := List.getElem_of_mem h
  obtain ⟨j, ⟨hjl, hj⟩, hmin⟩ := least (fun j => ∃ h : j < l.length, l[j] = l[i]) ⟨i, hi, rfl⟩
  refine List.mem_map.2 ⟨j, List.mem_filter.2 ⟨List.mem_range.2 hjl, (keeps_iff _ _).2 ?_⟩, by simp [hjl, hj]⟩
  by_cases h0 : j = 0
  · exact .inl h0
  · right
    intro he
    have e2 : l.toArray[j]! = l[j] := by simp [hjl]
    have e3 : l.toArray[j - 1]! = l[j - 1]'(by omega) := by simp [show j - 1 < l.length by omega]
    rw [e2, e3] at he
    have := hmin (j - 1) ⟨by omega, by rw [← he, hj]⟩
    omega

theorem compact_sort_mem {l : List Int} {x : Int} : x ∈ compact_ (sortI l) ↔ x ∈ l := ⟨fun h => sortI_mem.1 (compact_mem h), fun h => compact_has (sortI_mem.2 h)⟩

/-- the states of a set, ascending -/
def SetOk (g : Gr) (a : List Int) : Prop := a.Pairwise (· < ·) ∧ ∀ x ∈ a, 0 ≤ x ∧ x < g.2.1

/-- all states up to a number -/
def upto (n : Int) : List Int := (List.range n.toNat).map Int.ofNat
theorem mem_upto {n x : Int} : x ∈ upto n ↔ 0 ≤ x ∧ x < n := by
  simp only [upto, List.mem_map, List.mem_range]
  constructor
  · rintro ⟨i, hi, rfl⟩; simp only [Int.ofNat_eq_natCast]; omega
  · rintro ⟨h0, h1⟩; exact ⟨x.toNat, by omega, by simp only [Int.ofNat_eq_natCast]; omega⟩
theorem upto_asc (n : Int) : (upto n).Pairwise (· < ·) := by
  rw [upto, List.pairwise_map]
  exact (List.pairwise_lt_range (n := n.toNat)).imp fun h => by simp only [Int.ofNat_eq_natCast]; omega
theorem upto_len (n : Int) : (upto n).length = n.toNat := by simp [upto]

/-- where a label leads from a set -/
def stepL (g : Gr) (a : List Int) (c : Int) : List Int := (upto g.2.1).filter fun t => g.2.2.any fun e => decide (e.2.2 = t ∧ e.2.1 = c ∧ e.1 ∈ a)
theorem mem_stepL {g : Gr} (hv : VG g) {a : List Int} {c t : Int} : t ∈ stepL g a c ↔ ∃ e ∈ g.2.2, e.2.2 = t ∧ e.2.1 = c ∧ e.1 ∈ a := by
  simp only [stepL, List.mem_filter, List.any_eq_true, decide_eq_true_eq, mem_upto]
  constructor
  · rintro ⟨_, h⟩; exact h
  · rintro ⟨e, he, h1, h2, h3⟩
    have := hv.ed e he
    exact ⟨by omega, e, he, h1, h2, h3⟩
theorem stepL_ok (g : Gr) (a : List Int) (c : Int) : SetOk g (stepL g a c) :=
  ⟨(upto_asc _).filter _, fun x hx => mem_upto.1 (List.mem_filter.1 hx).1⟩
theorem upto_ok (g : Gr) : SetOk g (upto g.2.1) := ⟨upto_asc _, fun x hx => mem_upto.1 hx⟩

theorem setOk_len {g : Gr} {a : List Int} (hv : VG g) (h : SetOk g a) : a.length ≤ 64 := by
  have e : a = (upto g.2.1).filter fun x => decide (x ∈ a) := asc_uniq h.1 ((upto_asc _).filter _) fun x => by
    simp only [List.mem_filter, mem_upto, decide_eq_true_eq]
    exact ⟨fun hx => ⟨h.2 x hx, hx⟩, fun hx => hx.2⟩
  rw [e]
  refine Nat.le_trans (List.length_filter_le _ _) ?_
  rw [upto_len]
  have := hv.s1
  omega

/-- the check of a set -/
theorem checkSet_ok {g : Gr} {a : List Int} (h : SetOk g a) (hm : a.length ≤ 9223372036854775807) : m_graph_checkSet g a = some 0 := by
  unfold m_graph_checkSet
  simp only [jp]
  refine lpL (loop_is (fun i => (i : Int)) a.length (Ou.go ()) (fun i hi => ?_) (by rw [if_neg (not_lt_int _)]) rfl) rfl
  obtain ⟨h0, h1⟩ := h.2 a[i] (List.getElem_mem hi)
  rw [if_pos (lt_int hi), ix hi]
  simp only [Option.bind_some]
  rw [if_neg (by omega)]
  have hd : decide (g.2.1 ≤ a[i]) = false := decide_eq_false (by omega)
  simp only [hd, Bool.false_eq_true, if_false]
  by_cases hz : 0 < i
  · have hlt := List.pairwise_iff_getElem.1 h.1 (i - 1) i (by omega) hi (by omega)
    rw [if_pos (by omega), ix_pred hi hm hz]
    simp only [Option.bind_some]
    have hd2 : decide (a[i] ≤ a[i - 1]'(by omega)) = false := decide_eq_false (by omega)
    simp only [hd2, Bool.false_eq_true, if_false, nx hm hi]
  · rw [if_neg (by omega)]
    simp only [Bool.false_eq_true, if_false, nx hm hi]

/-- what the edges of a state with a label lead to -/
def outL (g : Gr) (s c : Int) : List Int := ((leaveL g.2.2 s).filter fun x => decide (x.2.2.1 = c)).map fun x => x.2.2.2
theorem mem_leaveL {es : List Ed} {s : Int} {x : Ed} : (∃ i, (i, x) ∈ leaveL es s) ↔ x ∈ es ∧ x.1 = s := by
  constructor
  · rintro ⟨i, h⟩
    obtain ⟨p, hp, he⟩ := List.mem_map.1 h
    obtain ⟨hp1, hp2⟩ := List.mem_filter.1 hp
    cases he
    exact ⟨List.fst_mem_of_mem_zipIdx hp1, of_decide_eq_true hp2⟩
  · rintro ⟨hm, hs⟩
    obtain ⟨k, hk, rfl⟩ := List.getElem_of_mem hm
    exact ⟨_, List.mem_map.2 ⟨(es[k], k), List.mem_filter.2 ⟨by rw [List.mem_zipIdx_iff_getElem?]; exact List.getElem?_eq_getElem hk, decide_eq_true hs⟩, rfl⟩⟩
theorem mem_outL {g : Gr} {s c t : Int} : t ∈ outL g s c ↔ ∃ e ∈ g.2.2, e.2.2 = t ∧ e.2.1 = c ∧ e.1 = s := by
  simp only [outL, List.mem_map, List.mem_filter, decide_eq_true_eq]
  constructor
  · rintro ⟨⟨i, x⟩, ⟨hm, hc⟩, rfl⟩
    obtain ⟨h1, h2⟩ := mem_leaveL.1 ⟨i, hm⟩
    exact ⟨x, h1, rfl, hc, h2⟩
  · rintro ⟨x, hx, rfl, hc, hs⟩
    obtain ⟨i, hi⟩ := mem_leaveL.2 ⟨hx, hs⟩
    exact ⟨(i, x), ⟨hi, hc⟩, rfl⟩
theorem outL_len (g : Gr) (s c : Int) : (outL g s c).length ≤ g.2.2.length := by
  simp only [outL, leaveL, List.length_map]
  refine Nat.le_trans (List.length_filter_le _ _) ?_
  rw [List.length_map]
  refine Nat.le_trans (List.length_filter_le _ _) ?_
  simp

theorem fold_out (c : Int) : ∀ (L : List (Int × Ed)) (acc : List Int), L.foldl (fun (a : List Int) (x : Int × Ed) => if x.2.2.1 = c then a ++ [x.2.2.2] else a) acc = acc ++ (L.filter fun x => decide (x.2.2.1 = c)).map fun x => x.2.2.2
  | [], acc => by simp
  | x :: L, acc => by
    rw [List.foldl_cons, fold_out c L]
    by_cases h : x.2.2.1 = c
    · rw [if_pos h, List.filter_cons_of_pos (by simpa using h)]; simp
    · rw [if_neg h, List.filter_cons_of_neg (by simpa using h)]

theorem forL_foldI {S α X : Type} {body : S → α → Option (Stp S X)} (f : S → α → S) (P : Nat → S → Prop) : ∀ (L : List α) (s : S) (k : Nat), (∀ i s x, i < L.length → x ∈ L → P (k + i) s → body s x = some (.next (f s x)) ∧ P (k + i + 1) (f s x)) → P k s → forL body L s = some (.go (L.foldl f s))
  | [], _, _, _, _ => rfl
  | x :: L, s, k, h, hs => by
    obtain ⟨h1, h2⟩ := h 0 s x (by simp) (List.mem_cons_self ..) hs
    simp only [forL, h1]
    exact forL_foldI f P L _ (k + 1) (fun i s y hi hy hP => by
      have e : k + 1 + i = k + (i + 1) := by omega
      rw [e] at hP ⊢
      exact h (i + 1) s y (by simp; omega) (List.mem_cons_of_mem _ hy) hP) h2

theorem fits_le {k n : Nat} (h : n * k ≤ 140737488355328) (h2 : n ≤ 1048576) : fits k n := ⟨h, by simp only [maxLen]; omega⟩

/-- a step of the program -/
theorem Step_eq {g : Gr} (hv : VG g) {a : List Int} (ha : SetOk g a) {c : Int} (h0 : 0 ≤ c) (h1 : c < g.1) : m_graph_Step g a c = some (stepL g a c, 0) := by
  obtain ⟨e, he, hz⟩ := Check_tot g
  have he0 := hz.2 hv
  subst he0
  have hl := setOk_len hv ha
  have hel := hv.el
  unfold m_graph_Step
  rw [Check_ref, he, Option.bind_some, checkSet_ok ha (by omega)]
  simp only [ne_eq, not_true_eq_false, if_false, Option.bind_some, jp]
  rw [if_neg (by omega)]
  have hd : decide (g.1 ≤ c) = false := decide_eq_false (by omega)
  simp only [hd, Bool.false_eq_true, if_false]
  have hy : ∀ x, y_graph_leaving g x = some (leaveL g.2.2 x) := fun x => by unfold y_graph_leaving; rw [if_pos (by omega)]
  have hlen : ∀ i, i ≤ a.length → ((a.take i).flatMap fun s => outL g s c).length ≤ i * 1024 := by
    intro i
    induction i with
    | zero => intro _; simp
    | succ i ih =>
      intro hi
      have := ih (by omega)
      rw [List.take_add_one, List.getElem?_eq_getElem (by omega)]
      simp only [Option.toList_some, List.flatMap_append, List.flatMap_cons, List.flatMap_nil, List.append_nil, List.length_append]
      have h2 := outL_len g a[i] c
      omega
  refine bindL (loop_is (fun i => ((i : Int), (a.take i).flatMap fun s => outL g s c)) a.length (a.flatMap fun s => outL g s c) (fun i hi => ?_) ?_ (by simp)) ?_
  · dsimp only
    rw [if_pos (lt_int hi), ix hi]
    simp only [Option.bind_some, hy]
    have hb := hlen i (by omega)
    have hll : (leaveL g.2.2 a[i]).length ≤ 1024 := by
      simp only [leaveL, List.length_map]
      refine Nat.le_trans (List.length_filter_le _ _) ?_
      simp; omega
    rw [forL_foldI (fun (acc : List Int) (x : Int × Ed) => if x.2.2.1 = c then acc ++ [x.2.2.2] else acc) (fun k s => s.length ≤ i * 1024 + k) _ _ 0 (fun k s x hk hx hP => ?_) (Nat.le_trans hb (Nat.le_add_right _ _))]
    · simp only [lpO, nx (by omega : a.length ≤ _) hi, fold_out, Option.some.injEq, Stp.next.injEq, Prod.mk.injEq, true_and]
      rw [List.take_add_one, List.getElem?_eq_getElem hi]
      simp only [Option.toList_some, List.flatMap_append, List.flatMap_cons, List.flatMap_nil, List.append_nil]
      rfl
    · by_cases hc : x.2.2.1 = c
      · rw [if_pos hc, if_pos hc, if_pos (fits_le (by simp; omega) (by simp; omega))]
        exact ⟨rfl, by simp; omega⟩
      · rw [if_neg hc, if_neg hc]
        exact ⟨rfl, by omega⟩
  · dsimp only
    rw [if_neg (not_lt_int _), List.take_length]
  · have hb := hlen a.length (Nat.le_refl _)
    rw [List.take_length] at hb
    rw [if_pos (by omega)]
    congr 2
    refine asc_uniq (compact_asc (sortI_asc _)) (stepL_ok g a c).1 fun x => ?_
    rw [compact_sort_mem, mem_stepL hv]
    simp only [List.mem_flatMap, mem_outL]
    constructor
    · rintro ⟨s, hs, e, he, h1, h2, rfl⟩; exact ⟨e, he, h1, h2, hs⟩
    · rintro ⟨e, he, h1, h2, hs⟩; exact ⟨_, hs, e, he, h1, h2, rfl⟩
end Go.AW

/- Regions that draw their order, piece by piece, in lockstep; guards of single operations. -/
namespace Go.AW
open Go
theorem ACall.conv' {P : Program} {f : FuncId} {args : List HV} {H : Heap} {K K' : HV → Heap → Prop} (h : ACall P f args H K) (hc : ∀ r H', K r H' → ∃ r2 H2, Conv H' r r2 H2 ∧ K' r2 H2) : ACall P f args H K' := by
  refine ⟨h.1, fun μ w vs hs hr => (h.2 μ w vs hs hr).mono ?_⟩
  rintro e w' ⟨v, r, H', μ', rfl, hk, hs', hr', E⟩
  obtain ⟨r2, H2, hcv, hk2⟩ := hc r H' hk
  obtain ⟨μ2, hs2, hr2, E2⟩ := hcv w' μ' v hs' hr'
  exact ⟨v, r2, H2, μ2, rfl, hk2, hs2, hr2, E.trans E2⟩
section
variable {P : Program} {ro : Option Nat} {N : Nat} {s : AS} {ops : Array Oper} {o : Oper} {sl : List (Nat × HV)} {H : Heap}

theorem AnyAt.eqc {Q : Exit → AS → Prop} {q : Nat} : Eqc (AnyAt P ro N ops Q q) := fun s s' he h w0 μ0 fuel listed μ1 a1 w1 h1 h2 h3 hs hE => h w0 μ0 fuel listed μ1 a1 w1 h1 h2 h3 (hs.eqv he) hE

theorem o_callA {all : Array Oper} {rest : List Oper} {K : AS → Prop} {d : Nat} {aa : Array Operand} {ts : Array TypeId} {f : Operand} {g : FuncId} {fs hs cs args : List HV} (h0 : (o.dst, o.op) = (some d, .call ⟨.value f, aa, ts⟩)) (hf : (⟨sl, H⟩ : AS).ev f = some (.fn (.func g) fs cs)) (ha : aa.toList.mapM (⟨sl, H⟩ : AS).ev = some hs) (hargs : fs ++ hs ++ cs = args)
    (h : ACall P g args H fun r H' => bops P ro N all rest K ⟨(d, r) :: sl, H'⟩) : aop P 0 [] o (fun s' => bops P ro N all rest K s') ⟨sl, H⟩ := by
  obtain ⟨h1, h2⟩ := Prod.mk.inj h0
  refine op_call h2 hf ha hargs (h.mono fun r H' hk => ?_)
  rw [h1]
  exact bops_le (put_le (s := ⟨sl, H'⟩) d r) hk

/-- what is asked from operation q on -/
def nyops (P : Program) (ro : Option Nat) (N : Nat) (ops : Array Oper) (K : AS → Prop) (q : Nat) (s : AS) : Prop := AnyAt P ro N ops (fun e s' => e = .normal ∧ K s') q s

theorem AW.dy {id : Nat} {Q : Exit → AS → Prop} (hm : P.follows .mixedOrders = true) (h : ∀ K : AS → Prop, (∀ s', Q .normal s' → K s') → nyops P ro N ops K 0 s) : AW P ro N (.region id ops true) Q s :=
  AW.conseq (Q' := fun e s' => e = .normal ∧ Q .normal s') (AW.any hm (h (Q .normal) fun _ h => h)) fun e s1 ⟨he, h⟩ => he ▸ ⟨s1, AS.le_refl s1, h⟩
theorem AW.dys {id : Nat} {y : Code} {Q : Exit → AS → Prop} (hm : P.follows .mixedOrders = true) (h : ∀ K : AS → Prop, (∀ s', AW P ro N y Q s' → K s') → nyops P ro N ops K 0 s) : AW P ro N (.seq (.region id ops true) y) Q s :=
  AW.seq (AW.dy hm h)
variable {K : AS → Prop}
theorem y_st {q : Nat} (p : Nat) (hok : ops.toList.all (fun o => okd N o.dst) = true) (hc : (daOk ops && Nat.ble q p && Nat.ble p ops.size && waitOk ops q p && segOk ops q p) = true)
    (h : stops P ops.toList ((ops.toList.drop q).take (p - q)) (nyops P ro N ops K p) s) : nyops P ro N ops K q s := by
  simp only [Bool.and_eq_true] at hc
  obtain ⟨⟨⟨⟨h1, h2⟩, h3⟩, h4⟩, h5⟩ := hc
  exact AnyAt.steady p _ hok h1 (Nat.le_of_ble_eq_true h2) (Nat.le_of_ble_eq_true h3) h4 h5 (fun _ h => h) (h.go AnyAt.eqc)
theorem y_nil {q : Nat} (hc : (daOk ops && (ops.size == q)) = true) (h : K s) : nyops P ro N ops K q s := by
  simp only [Bool.and_eq_true, beq_iff_eq] at hc
  obtain ⟨h1, rfl⟩ := hc
  exact AnyAt.done h1 ⟨rfl, h⟩
theorem one_op {q : Nat} {fid : Nat} {mt : List Nat} (hN : okd N o.dst = true) (h : aop P fid mt o (fun s' => bops P ro N #[] [] (nyops P ro N ops K q) s') s) : AOp P ro N o (nyops P ro N ops K q) s := by
  have hk : AOp P ro N o _ s := aop_sound hN h
  intro w0 μ0 μ a w next Q hs hE hK
  refine hk w0 μ0 μ a w next Q hs hE fun μ' s' a' w' h' hs' hE' => ?_
  have hb := h' (by simp) 0 (fun k => by simp)
  have := hb w0 μ0 μ' a' w' (fun _ a w => next a w) hs' hE' (fun μ2 s2 a2 w2 hk2 hs2 hE2 => hK μ2 s2 a2 w2 hk2 hs2 hE2)
  simpa only [List.length_nil, List.range'_zero, wpOpsIn] using this
theorem y_op {q : Nat} {fid : Nat} {mt : List Nat} (hc : (daOk ops && Nat.ble (q + 1) ops.size && waitOk ops q (q + 1)) = true) (ho : ops[q]? = some o) (hg : o.guard = none) (hN : okd N o.dst = true)
    (h : aop P fid mt o (fun s' => bops P ro N #[] [] (nyops P ro N ops K (q + 1)) s') s) : nyops P ro N ops K q s := by
  simp only [Bool.and_eq_true] at hc
  obtain ⟨⟨h1, h2⟩, h3⟩ := hc
  exact AnyAt.op h1 (Nat.le_of_ble_eq_true h2) h3 (AOpI.plain ho hg (one_op hN h))
end
end Go.AW

/- Lists of texts and of numbers; counting. -/
namespace Go.AW
open Go

/-- a list of texts, of numbers -/
def strs (l : List (List UInt8)) : HV := .sl 1 l.length (l.map .str)
def ints (l : List Int) : HV := .sl 1 l.length (l.map (.int .i64))
def num (n : Int) : HV := .int .i64 n

/-- counting up to n -/
theorem cnt_next {i n : Nat} (h : n ≤ 9223372036854775807) (hi : i < n) : IntKind.wrap .i64 ((i : Int) + 1) = ((i + 1 : Nat) : Int) := by
  rw [w64 (by omega) (by omega)]; omega
theorem cnt_ge {i n : Nat} (h : decide ((i : Int) < (n : Int)) = false) (hi : i ≤ n) : i = n := by
  have : ¬ i < n := by simpa using h
  omega

/-- a caller uses a pure contract -/
theorem Pure.use {P : Program} {f : FuncId} {args : List HV} {H : Heap} {K : HV → Heap → Prop} {R : HV → Prop} (hp : Pure P f args R) (hK : ∀ r, R r → K r H) : ACall P f args H K := ACall.pure0 hp hK

end Go.AW

namespace Go.AW
open Go

/-- the letters of the words -/
def letters : List UInt8 := [48, 49, 50, 51, 52, 53, 54, 55, 56, 57, 97, 98, 99, 100, 101, 102]

abbrev WS := List UInt8 × List Int

/-- a word goes on with letters -/
def ext1 (stp : List Int → UInt8 → List Int) (cs : List UInt8) (x : WS) : List WS := cs.filterMap fun c => if stp x.2 c = [] then none else some (x.1 ++ [c], stp x.2 c)

/-- the words of a length, each with its ends -/
def lvl (stp : List Int → UInt8 → List Int) (cs : List UInt8) (set : List Int) : Nat → List WS
  | 0 => if set = [] then [] else [([], set)]
  | i + 1 => (lvl stp cs set i).flatMap (ext1 stp cs)

def ent (x : WS) : List UInt8 × HV := (x.1, ints x.2)

section
variable {stp : List Int → UInt8 → List Int} {cs : List UInt8} {set : List Int}

theorem mem_ext1 {x y : WS} : y ∈ ext1 stp cs x ↔ ∃ c ∈ cs, stp x.2 c ≠ [] ∧ y = (x.1 ++ [c], stp x.2 c) := by
  simp only [ext1, List.mem_filterMap]
  constructor
  · rintro ⟨c, hc, h⟩
    split at h
    · cases h
    · rename_i hn; cases h; exact ⟨c, hc, hn, rfl⟩
  · rintro ⟨c, hc, hn, rfl⟩
    exact ⟨c, hc, by rw [if_neg hn]⟩

theorem ext1_keys (x : WS) (h : cs.Nodup) : ((ext1 stp cs x).map (·.1)).Nodup := by
  induction cs with
  | nil => simp [ext1]
  | cons c cs ih =>
    have hc := List.nodup_cons.1 h
    have ih' := ih hc.2
    simp only [ext1, List.filterMap_cons] at ih' ⊢
    split
    · exact ih'
    · rename_i y hy
      split at hy
      · cases hy
      · cases hy
        simp only [List.map_cons, List.nodup_cons]
        refine ⟨fun hm => ?_, ih'⟩
        obtain ⟨z, hz, he⟩ := List.mem_map.1 hm
        obtain ⟨d, hd, _, rfl⟩ := mem_ext1.1 hz
        have := List.append_cancel_left he
        cases this
        exact hc.1 hd

theorem flat_keys (h : cs.Nodup) : ∀ {l : List WS}, (l.map (·.1)).Nodup → ((l.flatMap (ext1 stp cs)).map (·.1)).Nodup
  | [], _ => by simp
  | x :: l, hl => by
    simp only [List.map_cons, List.nodup_cons] at hl
    simp only [List.flatMap_cons, List.map_append]
    refine List.nodup_append.2 ⟨ext1_keys x h, flat_keys h hl.2, ?_⟩
    intro a ha b hb e
    subst e
    obtain ⟨y, hy, rfl⟩ := List.mem_map.1 ha
    obtain ⟨c, _, _, rfl⟩ := mem_ext1.1 hy
    obtain ⟨z, hz, he⟩ := List.mem_map.1 hb
    obtain ⟨x', hx', hz'⟩ := List.mem_flatMap.1 hz
    obtain ⟨d, _, _, rfl⟩ := mem_ext1.1 hz'
    have h1 : x'.1 = x.1 := by
      have := congrArg List.dropLast he
      simpa using this
    exact hl.1 (h1 ▸ List.mem_map.2 ⟨x', hx', rfl⟩)

theorem lvl_keys (h : cs.Nodup) : ∀ i, ((lvl stp cs set i).map (·.1)).Nodup
  | 0 => by simp only [lvl]; split <;> simp
  | i + 1 => flat_keys h (lvl_keys h i)

theorem lvl_len : ∀ (i : Nat) (x : WS), x ∈ lvl stp cs set i → x.1.length = i
  | 0, x, h => by
    simp only [lvl] at h
    split at h
    · cases h
    · simp at h; subst h; rfl
  | i + 1, x, h => by
    obtain ⟨y, hy, hx⟩ := List.mem_flatMap.1 h
    obtain ⟨c, _, _, rfl⟩ := mem_ext1.1 hx
    have := lvl_len i y hy
    simp [this]

theorem lvl_all {A : List Int → Prop} (h0 : A set) (hs : ∀ a c, A a → c ∈ cs → A (stp a c)) : ∀ (i : Nat) (x : WS), x ∈ lvl stp cs set i → A x.2
  | 0, x, h => by
    simp only [lvl] at h
    split at h
    · cases h
    · simp at h; subst h; exact h0
  | i + 1, x, h => by
    obtain ⟨y, hy, hx⟩ := List.mem_flatMap.1 h
    obtain ⟨c, hc, _, rfl⟩ := mem_ext1.1 hx
    exact hs _ _ (lvl_all h0 hs i y hy) hc

theorem lvl_nil {i : Nat} (h : lvl stp cs set i = []) : ∀ {j : Nat}, i ≤ j → lvl stp cs set j = []
  | 0, hj => by
    have : i = 0 := by omega
    subst this; exact h
  | j + 1, hj => by
    rcases Nat.lt_or_ge i (j + 1) with h' | h'
    · simp only [lvl, lvl_nil h (j := j) (by omega), List.flatMap_nil]
    · have : i = j + 1 := by omega
      subst this; exact h

theorem perm_flat {l l' : List WS} (h : l.Perm l') : (l.flatMap (ext1 stp cs)).Perm (l'.flatMap (ext1 stp cs)) := h.flatMap_right _

theorem perm_keys {l : List WS} {es : List (List UInt8 × HV)} (h : es.Perm (l.map ent)) (hl : (l.map (·.1)).Nodup) : (es.map (·.1)).Nodup := by
  have h1 := h.map (·.1)
  rw [List.map_map] at h1
  exact h1.nodup_iff.2 (by simpa [Function.comp_def, ent] using hl)

/-- the next entry -/
theorem next_pick {vis rest l : List WS} {es : List (List UInt8 × HV)} {k : List UInt8} {v : HV} (hp : (vis ++ rest).Perm l) (he : es.Perm (l.map ent)) (hm : (k, v) ∈ es) (hk : k ∉ vis.map (·.1)) :
    ∃ x l1 l2, rest = l1 ++ x :: l2 ∧ (k, v) = ent x ∧ ((x :: vis) ++ (l1 ++ l2)).Perm l := by
  have h1 : (k, v) ∈ (vis ++ rest).map ent := ((hp.map ent).symm.mem_iff).1 (he.mem_iff.1 hm)
  obtain ⟨x, hx, hxe⟩ := List.mem_map.1 h1
  have hxr : x ∈ rest := by
    rcases List.mem_append.1 hx with h | h
    · exfalso
      refine hk (List.mem_map.2 ⟨x, h, ?_⟩)
      have := congrArg Prod.fst hxe
      exact this
    · exact h
  obtain ⟨l1, l2, rfl⟩ := List.append_of_mem hxr
  refine ⟨x, l1, l2, rfl, hxe.symm, List.Perm.trans ?_ hp⟩
  have e1 : (x :: vis) ++ (l1 ++ l2) = x :: ((vis ++ l1) ++ l2) := by simp
  have e2 : vis ++ (l1 ++ x :: l2) = (vis ++ l1) ++ x :: l2 := by simp
  rw [e1, e2]
  exact List.perm_middle.symm

theorem rest_nil {vis rest l : List WS} {es : List (List UInt8 × HV)} (hl : (l.map (·.1)).Nodup) (hp : (vis ++ rest).Perm l) (he : es.Perm (l.map ent)) (hall : ∀ p ∈ es, p.1 ∈ vis.map (·.1)) : rest = [] := by
  cases rest with
  | nil => rfl
  | cons x rest =>
    exfalso
    have hx : ent x ∈ es := he.mem_iff.2 (List.mem_map.2 ⟨x, hp.mem_iff.1 (by simp), rfl⟩)
    have hk := hall _ hx
    have hn : ((vis ++ x :: rest).map (·.1)).Nodup := (hp.map (·.1)).nodup_iff.2 hl
    simp only [List.map_append, List.map_cons] at hn
    exact (List.nodup_append.1 hn).2.2 _ hk _ (List.mem_cons_self ..) rfl

theorem ext1_take (x : WS) {j : Nat} (hj : j < cs.length) : ext1 stp (cs.take (j + 1)) x = ext1 stp (cs.take j) x ++ (if stp x.2 cs[j] = [] then [] else [(x.1 ++ [cs[j]], stp x.2 cs[j])]) := by
  rw [List.take_add_one, List.getElem?_eq_getElem hj]
  simp only [ext1, Option.toList_some, List.filterMap_append]
  congr 1
  simp only [List.filterMap_cons, List.filterMap_nil]
  split <;> simp_all

theorem key_new {vis : List WS} {x : WS} (hcs : cs.Nodup) (hx : x.1 ∉ vis.map (·.1)) {j : Nat} (hj : j < cs.length) {es : List (List UInt8 × HV)} (he : es.Perm ((vis.flatMap (ext1 stp cs) ++ ext1 stp (cs.take j) x).map ent)) :
    alook (x.1 ++ [cs[j]]) es = none := by
  rw [alook_none]
  intro hm
  have h1 := (he.map (·.1)).mem_iff.1 hm
  rw [List.map_map, List.map_append, List.mem_append] at h1
  rcases h1 with h | h
  · obtain ⟨y, hy, hye⟩ := List.mem_map.1 h
    obtain ⟨z, hz, hzy⟩ := List.mem_flatMap.1 hy
    obtain ⟨d, _, _, rfl⟩ := mem_ext1.1 hzy
    have h2 : z.1 = x.1 := by
      have := congrArg List.dropLast hye
      simpa [ent] using this
    exact hx (h2 ▸ List.mem_map.2 ⟨z, hz, rfl⟩)
  · obtain ⟨y, hy, hye⟩ := List.mem_map.1 h
    obtain ⟨d, hd, _, rfl⟩ := mem_ext1.1 hy
    have h2 : d = cs[j] := by
      have h3 : x.1 ++ [d] = x.1 ++ [cs[j]] := hye
      have := List.append_cancel_left h3
      simpa using this
    rw [h2] at hd
    obtain ⟨k, hk, hke⟩ := List.mem_take_iff_getElem.1 hd
    have := (List.getElem_inj (h₀ := by omega) (h₁ := hj) hcs).1 hke
    omega
end

/-- there are not too many words on the way -/
def okLvl (stp : List Int → UInt8 → List Int) (cs : List UInt8) (set : List Int) (n : Nat) : Bool := (List.range n).all fun j => decide ((lvl stp cs set (j + 1)).length ≤ 4096)

theorem okLvl_iff {stp : List Int → UInt8 → List Int} {cs : List UInt8} {set : List Int} {n : Nat} : okLvl stp cs set n = true ↔ ∀ j, 1 ≤ j → j ≤ n → (lvl stp cs set j).length ≤ 4096 := by
  simp only [okLvl, List.all_eq_true, List.mem_range, decide_eq_true_eq]
  constructor
  · intro h j h1 h2
    have := h (j - 1) (by omega)
    rwa [show j - 1 + 1 = j by omega] at this
  · exact fun h j hj => h (j + 1) (by omega) (by omega)

theorem utf_letters : ∀ c ∈ letters, (Utf8.encode (c.toNat : Int)).data.toList = [c] := by decide
theorem letters_nodup : letters.Nodup := by decide

theorem fact_num {n : Int} (h : fact (.int .i64 n)) : -9223372036854775808 ≤ n ∧ n ≤ 9223372036854775807 := by
  simpa [fact, Lit.wf, IntKind.min, IntKind.max, IntKind.signed, IntKind.bits] using h
theorem dec_lt {a b : Nat} (h : decide ((a : Int) < (b : Int)) = true) : a < b := by simpa using h
/-- both branches come to states of one family, then the rest -/
theorem AW.cjoin2 {P : Program} {ro : Option Nat} {N : Nat} {s : AS} {Q : Exit → AS → Prop} {c : Operand} {x y z : Code} {t : Bool} {α : Type} (St : α → AS) (I : α → Prop) (hc : s.ev c = some (.bool t))
    (h1 : t = true → AW P ro N x (thenQ (fun s' => ∃ a, I a ∧ s'.le (St a)) Q) s) (h2 : t = false → AW P ro N y (thenQ (fun s' => ∃ a, I a ∧ s'.le (St a)) Q) s)
    (h3 : ∀ a, I a → AW P ro N z Q (St a)) : AW P ro N (.cond c x y) (thenQ (AW P ro N z Q) Q) s := by
  refine (AW.cond hc h1 h2).mono ?_
  rintro e s' h
  cases e with
  | normal => obtain ⟨a, ha, hl⟩ := h; exact AW.weaken (h3 a ha) hl
  | exit id => exact h
  | goto l => exact h
  | ret => exact h
  | panic ch => exact h
  | outgrown => exact h
end Go.AW

/- What language.list computes: the words level by level, each with its ends. -/
namespace Go.AW
open Go
noncomputable def stpM (g : TLabelsStatesEdges) (a : List Int) (c : UInt8) : List Int := (m_language_step g a (c.toNat : Int)).getD []
def StepsOk (g : TLabelsStatesEdges) (set : List Int) : Prop := ∃ A : List Int → Prop, A set ∧ ∀ a c, A a → c ∈ letters.take g.1.toNat → ∃ b, m_language_step g a (c.toNat : Int) = some b ∧ A b
open Classical in
noncomputable def m_language_list (g : TLabelsStatesEdges) (set : List Int) (n : Int) : Option (List WS × Bool) :=
  if 0 ≤ g.1 ∧ g.1 ≤ 16 ∧ 0 ≤ n ∧ StepsOk g set then
    some (if okLvl (stpM g) (letters.take g.1.toNat) set n.toNat = true then (lvl (stpM g) (letters.take g.1.toNat) set n.toNat, true) else ([], false))
  else none
/-- groove/language.Words -/
noncomputable def m_language_Words (p0 : TLabelsStatesEdges) (p1 : Int) : Option ((List (List UInt8)) × Int) :=
  (m_language_lengths p0 p1).bind fun x1 =>
  if x1 ≠ 0 then
    some ([], x1)
  else
    (m_language_states p0).bind fun x3 =>
    (m_language_list p0 x3 p1).bind fun x5 =>
    if x5.2 = true then
      some (sortS ((x5.1).map Prod.fst), 0)
    else
      some ([], 4)

end Go.AW

/- The words of a graph: the reference's lists, and the program's. -/
namespace Go.AW
open Go
set_option linter.unusedSimpArgs false
set_option linter.unusedVariables false

theorem has_eq {l : List Int} (hm : l.length ≤ 9223372036854775807) (n : Int) : m_ref11_has l n = some (decide (n ∈ l)) := by
  unfold m_ref11_has
  refine lpL (loop_any (fun i => (i : Int)) l.length (fun i => decide (l.getD i 0 = n)) (Ou.ret true) (Ou.go ()) (fun i hi => ?_) (by rw [if_neg (not_lt_int _)]) rfl) ?_
  · have e1 : l.getD i 0 = l[i] := by simp [List.getD, hi]
    rw [if_pos (lt_int hi), ix hi]
    simp only [Option.bind_some, nx hm hi, e1, decide_eq_true_eq]
  · by_cases h : n ∈ l
    · obtain ⟨i, hi, he⟩ := List.getElem_of_mem h
      rw [if_pos]
      · simp [lpO, h]
      · exact List.any_eq_true.2 ⟨i, List.mem_range.2 hi, by simp [List.getD, hi, he]⟩
    · rw [if_neg]
      · simp [lpO, h]
      · intro hx
        obtain ⟨i, hi, hp⟩ := List.any_eq_true.1 hx
        have hi := List.mem_range.1 hi
        have e1 : l.getD i 0 = l[i] := by simp [List.getD, hi]
        rw [e1] at hp
        exact h (of_decide_eq_true hp ▸ List.getElem_mem hi)

/-- a step of the reference -/
theorem refStep_eq {g : Gr} (hv : VG g) {a : List Int} (hl : a.length ≤ 9223372036854775807) {c : Int} : m_ref11_Step g a c = some (stepL g a c) := by
  have hel := hv.el
  have hs1 := hv.s1
  have hs0 := hv.s0
  obtain ⟨m, hm⟩ := Int.eq_ofNat_of_zero_le hs0
  have hfl : ∀ i, ((((List.range i).map Int.ofNat).filter fun t => g.2.2.any fun e => decide (e.2.2 = t ∧ e.2.1 = c ∧ e.1 ∈ a)) : List Int).length ≤ i := fun i => Nat.le_trans (List.length_filter_le _ _) (by simp)
  unfold m_ref11_Step
  refine bindL (loop_is (fun i => ((i : Int), ((List.range i).map Int.ofNat).filter fun t => g.2.2.any fun e => decide (e.2.2 = t ∧ e.2.1 = c ∧ e.1 ∈ a))) m (stepL g a c) (fun i hi => ?_) ?_ (by simp)) rfl
  · dsimp only
    rw [if_pos (by omega)]
    simp only [jp]
    have hin : loopW (S := Bool × Int) (X := Bool) (fun a9 =>
              if a9.2 < ((g.2.2).length : Int) then
                (idx g.2.2 a9.2).bind fun x19 =>
                  if x19.2.2 = (i : Int) then
                    (idx g.2.2 a9.2).bind fun x21 =>
                      if x21.2.1 = c then
                        (idx g.2.2 a9.2).bind fun x23 => (m_ref11_has a x23.1).bind fun x25 => if x25 = true then some (Stp.next (true, IntKind.wrap .i64 (a9.2 + 1))) else some (Stp.next (a9.1, IntKind.wrap .i64 (a9.2 + 1)))
                      else if false = true then some (Stp.next (true, IntKind.wrap .i64 (a9.2 + 1))) else some (Stp.next (a9.1, IntKind.wrap .i64 (a9.2 + 1)))
                  else if false = true then some (Stp.next (true, IntKind.wrap .i64 (a9.2 + 1))) else some (Stp.next (a9.1, IntKind.wrap .i64 (a9.2 + 1)))
              else
                some (Stp.exit a9.1)) (false, 0) = some (g.2.2.any fun e => decide (e.2.2 = (i : Int) ∧ e.2.1 = c ∧ e.1 ∈ a)) := by
      refine loop_is (fun k => ((g.2.2.take k).any fun e => decide (e.2.2 = (i : Int) ∧ e.2.1 = c ∧ e.1 ∈ a), (k : Int))) g.2.2.length _ (fun k hk => ?_) ?_ (by simp)
      · dsimp only
        rw [if_pos (lt_int hk), ix hk]
        simp only [Option.bind_some, has_eq hl, nx (by omega : g.2.2.length ≤ _) hk, Bool.false_eq_true, if_false, decide_eq_true_eq]
        have e : (g.2.2.take (k + 1)).any (fun e => decide (e.2.2 = (i : Int) ∧ e.2.1 = c ∧ e.1 ∈ a)) = ((g.2.2.take k).any (fun e => decide (e.2.2 = (i : Int) ∧ e.2.1 = c ∧ e.1 ∈ a)) || decide (g.2.2[k].2.2 = (i : Int) ∧ g.2.2[k].2.1 = c ∧ g.2.2[k].1 ∈ a)) := by
          rw [List.take_add_one, List.getElem?_eq_getElem hk, List.any_append]
          congr 1
          simp
        rw [e]
        by_cases h1 : g.2.2[k].2.2 = (i : Int)
        · by_cases h2 : g.2.2[k].2.1 = c
          · by_cases h3 : g.2.2[k].1 ∈ a
            · simp [h1, h2, h3]
            · simp [h1, h2, h3]
          · simp [h1, h2]
        · simp [h1]
      · dsimp only
        rw [if_neg (not_lt_int _), List.take_length]
    rw [hin]
    simp only [Option.bind_some]
    have er : (List.range (i + 1)).map Int.ofNat = (List.range i).map Int.ofNat ++ [(i : Int)] := by rw [List.range_succ, List.map_append]; rfl
    rw [er, List.filter_append]
    by_cases hb : (g.2.2.any fun e => decide (e.2.2 = (i : Int) ∧ e.2.1 = c ∧ e.1 ∈ a)) = true
    · have := hfl i
      rw [if_pos hb, if_pos (fits_le (by simp only [List.length_cons, List.length_nil]; omega) (by simp only [List.length_cons, List.length_nil]; omega)), nx (by omega : m ≤ _) hi, List.filter_cons_of_pos (by exact hb)]
      rfl
    · rw [if_neg hb, nx (by omega : m ≤ _) hi, List.filter_cons_of_neg (by exact hb)]
      simp
  · dsimp only
    rw [if_neg (by omega)]
    simp only [stepL, upto, hm, Int.toNat_natCast]

theorem All_eq {g : Gr} (hv : VG g) : m_ref11_All g = some (upto g.2.1) := by
  have hs1 := hv.s1
  obtain ⟨m, hm⟩ := Int.eq_ofNat_of_zero_le hv.s0
  unfold m_ref11_All
  refine bindL (loop_is (fun i => ((i : Int), (List.range i).map Int.ofNat)) m (upto g.2.1) (fun i hi => ?_) ?_ (by simp)) rfl
  · dsimp only
    rw [if_pos (by omega), if_pos (fits_le (by simp; omega) (by simp; omega)), nx (by omega : m ≤ _) hi, List.range_succ, List.map_append]
    rfl
  · dsimp only
    rw [if_neg (by omega)]
    simp only [upto, hm, Int.toNat_natCast]
theorem states_eq {g : Gr} (hv : VG g) : m_language_states g = some (upto g.2.1) := by
  have hs1 := hv.s1
  obtain ⟨m, hm⟩ := Int.eq_ofNat_of_zero_le hv.s0
  unfold m_language_states
  rw [if_pos (by omega)]
  simp only [hm, Int.toNat_natCast, List.length_replicate]
  refine bindL (loop_is (fun i => ((i : Int), (List.range i).map Int.ofNat ++ List.replicate (m - i) (0 : Int))) m (upto m) (fun i hi => ?_) ?_ (by simp)) rfl
  · dsimp only
    have hlen : ((List.range i).map Int.ofNat ++ List.replicate (m - i) (0 : Int)).length = m := by simp; omega
    rw [if_pos (lt_int hi), ix (by omega)]
    simp only [Option.bind_some, nx (by omega : m ≤ _) hi, Int.toNat_natCast]
    congr 3
    rw [List.set_append_right _ _ (by simp), List.range_succ, List.map_append]
    have e : m - i = (m - (i + 1)) + 1 := by omega
    simp only [List.length_map, List.length_range, Nat.sub_self, e, List.replicate_succ, List.set_cons_zero]
    simp
  · dsimp only
    rw [if_neg (not_lt_int _)]
    simp [upto]
end Go.AW

/- The words of a length: the program's list, the reference's list, and their order. -/
namespace Go.AW
open Go
set_option linter.unusedSimpArgs false
set_option linter.unusedVariables false

theorem letters_len : letters.length = 16 := rfl
theorem idx_letter {i : Nat} (h : i < letters.length) : Lib.indexByte letters letters[i] = (i : Int) := by
  have : ∀ j : Fin 16, Lib.indexByte letters (letters[j.1]'j.2) = (j.1 : Int) := by decide
  exact this ⟨i, h⟩
theorem byte_back (c : UInt8) : ((c.toNat : Int).toNat.toUInt8) = c := by simp

/-- the letters of a graph -/
def lets (g : Gr) : List UInt8 := letters.take g.1.toNat

section
variable {g : Gr}
theorem lets_len (hv : VG g) (h16 : g.1 ≤ 16) : (lets g).length = g.1.toNat := by
  have := hv.l1
  rw [lets, List.length_take, letters_len]; omega
theorem lstep_eq (hv : VG g) {a : List Int} (ha : SetOk g a) {i : Nat} (h : i < letters.length) (hi : (i : Int) < g.1) : m_language_step g a ((letters[i]).toNat : Int) = some (stepL g a i) := by
  unfold m_language_step m_strings_IndexByte
  simp only [byte_back, Option.bind_some]
  have e : Lib.indexByte [48, 49, 50, 51, 52, 53, 54, 55, 56, 57, 97, 98, 99, 100, 101, 102] letters[i] = (i : Int) := idx_letter h
  rw [e, Step_eq hv ha (by omega) hi]
  rfl
theorem stpM_eq (hv : VG g) {a : List Int} (ha : SetOk g a) {i : Nat} (h : i < letters.length) (hi : (i : Int) < g.1) : stpM g a letters[i] = stepL g a i := by
  unfold stpM; rw [lstep_eq hv ha h hi]; rfl
theorem mem_lets {c : UInt8} (h : c ∈ letters.take g.1.toNat) : ∃ (i : Nat) (hi : i < letters.length), (i : Int) < g.1 ∧ letters[i] = c := by
  obtain ⟨i, hi, rfl⟩ := List.mem_take_iff_getElem.1 h
  have h1 : i < g.1.toNat := by omega
  exact ⟨i, by omega, by omega, rfl⟩
theorem stpM_ok (hv : VG g) {a : List Int} {c : UInt8} (ha : SetOk g a) (hc : c ∈ letters.take g.1.toNat) : SetOk g (stpM g a c) := by
  obtain ⟨i, hi, hg, rfl⟩ := mem_lets hc
  rw [stpM_eq hv ha hi hg]
  exact stepL_ok g a i
theorem stepsOk (hv : VG g) {set : List Int} (hs : SetOk g set) : StepsOk g set := ⟨SetOk g, hs, fun a c ha hc => by
  obtain ⟨i, hi, hg, rfl⟩ := mem_lets hc
  exact ⟨_, lstep_eq hv ha hi hg, stepL_ok g a i⟩⟩

/-- the words of a length of paths from a set, each with its ends -/
noncomputable def LV (g : Gr) (set : List Int) (n : Nat) : List WS := lvl (stpM g) (letters.take g.1.toNat) set n
noncomputable def OKL (g : Gr) (set : List Int) (n : Nat) : Bool := okLvl (stpM g) (letters.take g.1.toNat) set n

theorem list_eq (hv : VG g) (h16 : g.1 ≤ 16) {set : List Int} (hs : SetOk g set) {n : Nat} : m_language_list g set (n : Int) = some (if OKL g set n = true then (LV g set n, true) else ([], false)) := by
  unfold m_language_list
  have := hv.l1
  rw [if_pos ⟨by omega, h16, by omega, stepsOk hv hs⟩]
  rfl
theorem LV_set (hv : VG g) {set : List Int} (hs : SetOk g set) {n : Nat} {x : WS} (h : x ∈ LV g set n) : SetOk g x.2 := lvl_all hs (fun a c ha hc => stpM_ok hv ha hc) n x h
theorem LV_len {set : List Int} {n : Nat} {x : WS} (h : x ∈ LV g set n) : x.1.length = n := lvl_len n x h
theorem OKL_iff {set : List Int} {n : Nat} : OKL g set n = true ↔ ∀ j, 1 ≤ j → j ≤ n → (LV g set j).length ≤ 4096 := okLvl_iff

theorem ext1_len (stp : List Int → UInt8 → List Int) (cs : List UInt8) (x : WS) : (ext1 stp cs x).length ≤ cs.length := List.length_filterMap_le _ _
theorem flat_len (stp : List Int → UInt8 → List Int) (cs : List UInt8) : ∀ l : List WS, (l.flatMap (ext1 stp cs)).length ≤ l.length * cs.length
  | [] => by simp
  | x :: l => by
    have h1 := flat_len stp cs l
    have h2 := ext1_len stp cs x
    rw [List.flatMap_cons, List.length_append, List.length_cons, Nat.succ_mul]
    omega

theorem one_letter {k : Nat} (h : k < letters.length) : (letters.take (k + 1)).drop k = [letters[k]] := by
  rw [List.take_add_one, List.getElem?_eq_getElem h, List.drop_left' (by rw [List.length_take]; omega)]
  rfl

theorem grow_eq (hv : VG g) (h16 : g.1 ≤ 16) {l : List WS} (hl : l.length ≤ 4096) (hs : ∀ x ∈ l, SetOk g x.2) (hw : ∀ x ∈ l, x.1.length ≤ 1000000) : m_ref11_grow g l = some (l.flatMap (ext1 (stpM g) (letters.take g.1.toNat))) := by
  have h1 := hv.l1
  obtain ⟨L, hL⟩ := Int.eq_ofNat_of_zero_le (show 0 ≤ g.1 by omega)
  have hL16 : L ≤ letters.length := by rw [letters_len]; omega
  have htn : g.1.toNat = L := by omega
  unfold m_ref11_grow
  rw [htn]
  have hb : ∀ i, ((l.take i).flatMap (ext1 (stpM g) (letters.take L))).length ≤ 65536 := fun i => by
    have h2 := flat_len (stpM g) (letters.take L) (l.take i)
    have h3 : (l.take i).length ≤ 4096 := by rw [List.length_take]; omega
    have h4 : (letters.take L).length ≤ 16 := by rw [List.length_take, letters_len]; omega
    exact Nat.le_trans h2 (Nat.le_trans (Nat.mul_le_mul h3 h4) (by decide))
  refine bindL (loop_is (fun i => ((i : Int), (l.take i).flatMap (ext1 (stpM g) (letters.take L)))) l.length (l.flatMap (ext1 (stpM g) (letters.take L))) (fun i hi => ?_) ?_ (by simp)) rfl
  · dsimp only
    rw [if_pos (lt_int hi)]
    have hsx := hs _ (List.getElem_mem hi)
    have hlx := setOk_len hv hsx
    refine bindL (loop_is (fun k => ((k : Int), (l.take i).flatMap (ext1 (stpM g) (letters.take L)) ++ ext1 (stpM g) (letters.take k) l[i])) L ((l.take i).flatMap (ext1 (stpM g) (letters.take L)) ++ ext1 (stpM g) (letters.take L) l[i]) (fun k hk => ?_) ?_ (by simp [ext1])) ?_
    · dsimp only
      have hk16 : k < letters.length := by omega
      have hk16' : k < 16 := hk16
      rw [if_pos (by omega), ix hi]
      simp only [jp, Option.bind_some, refStep_eq hv (show (l[i]).2.length ≤ 9223372036854775807 by omega), nx (by omega : L ≤ _) hk]
      have hst := stpM_eq hv hsx hk16 (by omega : (k : Int) < g.1)
      have htk := ext1_take (stp := stpM g) (cs := letters) l[i] hk16
      rw [hst] at htk
      by_cases he : stepL g (l[i]).2 (k : Int) = []
      · rw [if_neg (by rw [he]; simp)]
        rw [htk, if_pos he, List.append_nil]
      · have hpos : 0 < ((stepL g (l[i]).2 (k : Int)).length : Int) := by
          have := List.length_pos_iff.2 he
          omega
        rw [if_pos hpos]
        have e16 : ([48, 49, 50, 51, 52, 53, 54, 55, 56, 57, 97, 98, 99, 100, 101, 102] : List UInt8) = letters := rfl
        rw [e16, if_pos (by rw [letters_len]; omega)]
        simp only [Int.toNat_natCast, one_letter hk16]
        have hwl := hw _ (List.getElem_mem hi)
        have he1 := ext1_len (stpM g) (letters.take k) l[i]
        have he2 : (letters.take k).length ≤ 16 := by rw [List.length_take, letters_len]; omega
        have hbi := hb i
        rw [if_pos (by simp only [List.length_cons, List.length_nil, maxLen]; omega), if_pos (fits_le (by simp only [List.length_append, List.length_cons, List.length_nil]; omega) (by simp only [List.length_append, List.length_cons, List.length_nil]; omega))]
        rw [htk, if_neg he, List.append_assoc]
    · dsimp only
      rw [if_neg (by omega)]
    · simp only [nx (by omega : l.length ≤ _) hi]
      rw [List.take_add_one, List.getElem?_eq_getElem hi]
      simp only [Option.toList_some, List.flatMap_append, List.flatMap_cons, List.flatMap_nil, List.append_nil]
  · dsimp only
    rw [if_neg (not_lt_int _), List.take_length]

theorem LV_zero (g : Gr) (set : List Int) : (LV g set 0).length ≤ 1 := by
  unfold LV lvl; split <;> simp

theorem refwords_eq (hv : VG g) (h16 : g.1 ≤ 16) {set : List Int} (hs : SetOk g set) {n : Nat} (hn : n ≤ 4096) : m_ref11_words g set n = some (if OKL g set n = true then (LV g set n, 0) else ([], 4)) := by
  unfold m_ref11_words
  simp only [jp]
  have key : ∀ (l0 : List WS), l0 = LV g set 0 → lpO (loopW (S := List TWordEnds × Int) (X := Ou (List TWordEnds) (List TWordEnds × Int)) (fun a5 =>
      if a5.2 < (n : Int) then
        if decide (0 < ((a5.1).length : Int)) = true then
          (m_ref11_grow g a5.1).bind fun x12 => if 4096 < ((x12).length : Int) then some (Stp.exit (Ou.ret ([], 4))) else some (Stp.next (x12, IntKind.wrap .i64 (a5.2 + 1)))
        else some (Stp.exit (Ou.go a5.1))
      else if false = true then
          (m_ref11_grow g a5.1).bind fun x12 => if 4096 < ((x12).length : Int) then some (Stp.exit (Ou.ret ([], 4))) else some (Stp.next (x12, IntKind.wrap .i64 (a5.2 + 1)))
        else some (Stp.exit (Ou.go a5.1))) (l0, 0)) (fun a15 => some (a15, 0)) some = some (if OKL g set n = true then (LV g set n, 0) else ([], 4)) := by
    intro l0 hl0
    have hx : ∃ x, loopW (S := List TWordEnds × Int) (X := Ou (List TWordEnds) (List TWordEnds × Int)) (fun a5 =>
      if a5.2 < (n : Int) then
        if decide (0 < ((a5.1).length : Int)) = true then
          (m_ref11_grow g a5.1).bind fun x12 => if 4096 < ((x12).length : Int) then some (Stp.exit (Ou.ret ([], 4))) else some (Stp.next (x12, IntKind.wrap .i64 (a5.2 + 1)))
        else some (Stp.exit (Ou.go a5.1))
      else if false = true then
          (m_ref11_grow g a5.1).bind fun x12 => if 4096 < ((x12).length : Int) then some (Stp.exit (Ou.ret ([], 4))) else some (Stp.next (x12, IntKind.wrap .i64 (a5.2 + 1)))
        else some (Stp.exit (Ou.go a5.1))) (l0, 0) = some x ∧ ((x = .go (LV g set n) ∧ OKL g set n = true) ∨ (x = .ret ([], 4) ∧ ¬ OKL g set n = true)) := by
      refine loopN n (fun i s => s = (LV g set i, (i : Int)) ∧ ∀ j, 1 ≤ j → j ≤ i → (LV g set j).length ≤ 4096) ?_ ?_ 0 _ (Nat.zero_le _) ⟨by rw [hl0]; rfl, fun j h1 h2 => by omega⟩
      · rintro i s hi ⟨rfl, hj⟩
        dsimp only
        rw [if_pos (lt_int hi)]
        by_cases h0 : LV g set i = []
        · rw [if_neg (by rw [h0]; simp)]
          have hnil : ∀ j, i ≤ j → LV g set j = [] := fun j h => lvl_nil h0 h
          refine .inr ⟨_, rfl, .inl ⟨by rw [h0, hnil n (by omega)], OKL_iff.2 fun j h1 h2 => ?_⟩⟩
          by_cases h : j ≤ i
          · exact hj j h1 h
          · rw [hnil j (by omega)]; simp
        · have hpos : 0 < (LV g set i).length := List.length_pos_iff.2 h0
          rw [if_pos (decide_eq_true (by omega))]
          have hl : (LV g set i).length ≤ 4096 := by
            by_cases hi0 : i = 0
            · subst hi0; have := LV_zero g set; omega
            · exact hj i (by omega) (Nat.le_refl _)
          rw [grow_eq hv h16 hl (fun x hx => LV_set hv hs hx) (fun x hx => by rw [LV_len hx]; omega)]
          simp only [Option.bind_some]
          have e : (LV g set i).flatMap (ext1 (stpM g) (letters.take g.1.toNat)) = LV g set (i + 1) := rfl
          rw [e]
          by_cases h4 : 4096 < (LV g set (i + 1)).length
          · rw [if_pos (by omega)]
            refine .inr ⟨_, rfl, .inr ⟨rfl, fun hok => ?_⟩⟩
            have := OKL_iff.1 hok (i + 1) (by omega) (by omega)
            omega
          · rw [if_neg (by omega)]
            refine .inl ⟨_, rfl, by rw [nx (by omega : n ≤ _) hi], fun j h1 h2 => ?_⟩
            by_cases h : j ≤ i
            · exact hj j h1 h
            · have : j = i + 1 := by omega
              subst this; omega
      · rintro s ⟨rfl, hj⟩
        dsimp only
        rw [if_neg (not_lt_int _), if_neg (by simp)]
        exact ⟨_, rfl, .inl ⟨rfl, OKL_iff.2 hj⟩⟩
    obtain ⟨x, hx, ⟨rfl, hok⟩ | ⟨rfl, hok⟩⟩ := hx
    · rw [hx, if_pos hok]; rfl
    · rw [hx, if_neg hok]; rfl
  by_cases h0 : set = []
  · rw [if_neg (by rw [h0]; simp)]
    exact key [] (by unfold LV lvl; rw [if_pos h0])
  · have hpos : 0 < set.length := List.length_pos_iff.2 h0
    rw [if_pos (by omega), if_pos (fits_le (by simp) (by simp))]
    exact key _ (by unfold LV lvl; rw [if_neg h0]; rfl)

theorem texts_eq {l : List WS} (hl : l.length ≤ 1000000) : m_ref11_texts l = some (l.map Prod.fst) := by
  unfold m_ref11_texts
  refine bindL (loop_is (fun i => ((i : Int), (l.take i).map Prod.fst)) l.length (l.map Prod.fst) (fun i hi => ?_) ?_ (by simp)) rfl
  · dsimp only
    rw [if_pos (lt_int hi), ix hi]
    simp only [Option.bind_some]
    rw [if_pos (fits_le (by simp; omega) (by simp; omega)), nx (by omega : l.length ≤ _) hi, List.take_add_one, List.getElem?_eq_getElem hi, List.map_append]
    rfl
  · dsimp only
    rw [if_neg (not_lt_int _), List.take_length]

/-! ### order -/
theorem app_lt {u v : List UInt8} : ∀ (w : List UInt8), u < v → w ++ u < w ++ v
  | [], h => h
  | a :: w, h => List.cons_lt_cons_iff.2 (.inr ⟨rfl, app_lt w h⟩)
theorem lt_app : ∀ {u v : List UInt8} (x y : List UInt8), u.length = v.length → u < v → u ++ x < v ++ y
  | [], [], _, _, _, h => by cases h
  | [], _ :: _, _, _, hl, _ => by cases hl
  | _ :: _, [], _, _, hl, _ => by cases hl
  | a :: u, b :: v, x, y, hl, h => by
    rcases List.cons_lt_cons_iff.1 h with h1 | ⟨h0, h1⟩
    · exact List.cons_lt_cons_iff.2 (.inl h1)
    · exact List.cons_lt_cons_iff.2 (.inr ⟨h0, lt_app x y (by simpa using hl) h1⟩)
theorem lvl_asc {stp : List Int → UInt8 → List Int} {cs : List UInt8} {set : List Int} (hcs : cs.Pairwise (· < ·)) : ∀ i, (lvl stp cs set i).Pairwise (fun x y => x.1 < y.1)
  | 0 => by simp only [lvl]; split <;> simp
  | i + 1 => by
    simp only [lvl]
    rw [List.pairwise_flatMap]
    refine ⟨fun x hx => ?_, (lvl_asc hcs i).imp_of_mem fun {x y} hx hy hxy a ha b hb => ?_⟩
    · unfold ext1
      rw [List.pairwise_filterMap]
      refine hcs.imp fun {c d} hcd y hy z hz => ?_
      split at hy
      · cases hy
      · split at hz
        · cases hz
        · cases hy; cases hz
          exact app_lt _ (List.cons_lt_cons_iff.2 (.inl hcd))
    · obtain ⟨c, _, _, rfl⟩ := mem_ext1.1 ha
      obtain ⟨d, _, _, rfl⟩ := mem_ext1.1 hb
      exact lt_app _ _ (by rw [lvl_len i x hx, lvl_len i y hy]) hxy
theorem letters_asc : letters.Pairwise (· < ·) := by decide
theorem LV_asc (g : Gr) (set : List Int) (n : Nat) : ((LV g set n).map Prod.fst).Pairwise (· < ·) := by
  rw [List.pairwise_map]
  exact lvl_asc (letters_asc.sublist (List.take_sublist _ _)) n
theorem sortS_id {l : List (List UInt8)} (h : l.Pairwise (· < ·)) : sortS l = l := sortS_eq (List.Perm.refl l) (h.imp fun h => decide_eq_true (List.le_of_lt h))

/-! ### Words -/
theorem lengths_ref (g : Gr) (n : Int) : m_language_lengths g n = m_ref11_checkNumber g n := by
  unfold m_language_lengths m_ref11_checkNumber m_language_check m_ref11_check
  rw [Check_ref]

theorem checkNumber_tot (g : Gr) (n : Int) : ∃ e, m_ref11_checkNumber g n = some e ∧ (e = 0 ↔ VG g ∧ g.1 ≤ 16 ∧ 0 ≤ n ∧ n ≤ 4096) := by
  obtain ⟨e, he, hz⟩ := Check_tot g
  unfold m_ref11_checkNumber m_ref11_check
  rw [he]
  simp only [Option.bind_some, jp]
  by_cases h0 : e = 0
  · have hv := hz.1 h0
    rw [if_neg (by omega : ¬ e ≠ 0)]
    by_cases h1 : 16 < g.1
    · exact ⟨12, by simp [h1], by simp; omega⟩
    · simp only [if_neg h1, Option.bind_some, ne_eq, not_true_eq_false, if_false]
      by_cases h2 : n < 0
      · exact ⟨2, by simp [h2], by simp; omega⟩
      · by_cases h3 : 4096 < n
        · exact ⟨2, by simp [h2, h3], by simp; omega⟩
        · exact ⟨0, by simp [h2, h3], by simp [hv]; omega⟩
  · have hv : ¬ VG g := fun v => h0 (hz.2 v)
    rw [if_pos h0]
    exact ⟨1, by simp, by simp [hv]⟩

/-- the words of a length -/
noncomputable def wordsE (g : Gr) (n : Int) : List (List UInt8) := (LV g (upto g.2.1) n.toNat).map Prod.fst

theorem Words_both (g : Gr) (n : Int) : ∃ r, m_language_Words g n = some r ∧ m_ref11_Words g n = some r ∧ (r.2 = 0 → (VG g ∧ g.1 ≤ 16 ∧ 0 ≤ n ∧ n ≤ 4096 ∧ OKL g (upto g.2.1) n.toNat = true) ∧ r.1 = wordsE g n) ∧
    (VG g → g.1 ≤ 16 → 0 ≤ n → n ≤ 4096 → OKL g (upto g.2.1) n.toNat = true → r.2 = 0) := by
  obtain ⟨e, he, hz⟩ := checkNumber_tot g n
  unfold m_language_Words m_ref11_Words
  rw [lengths_ref, he]
  simp only [Option.bind_some]
  by_cases h0 : e = 0
  · obtain ⟨hv, h16, hn0, hn1⟩ := hz.1 h0
    have hs := upto_ok g
    obtain ⟨m, hm⟩ := Int.eq_ofNat_of_zero_le hn0
    have hn : ¬ e ≠ 0 := by omega
    rw [if_neg hn, if_neg hn, states_eq hv, All_eq hv]
    subst hm
    simp only [Option.bind_some, list_eq hv h16 hs, refwords_eq hv h16 hs (by omega : m ≤ 4096), Int.toNat_natCast]
    by_cases hok : OKL g (upto g.2.1) m = true
    · simp only [if_pos hok, if_true, ne_eq, not_true_eq_false, if_false]
      have hl : (LV g (upto g.2.1) m).length ≤ 4096 := by
        by_cases hm0 : m = 0
        · subst hm0; have := LV_zero g (upto g.2.1); omega
        · exact OKL_iff.1 hok m (by omega) (Nat.le_refl _)
      rw [texts_eq (by omega), sortS_id (LV_asc g _ m)]
      exact ⟨_, rfl, rfl, fun _ => ⟨⟨hv, h16, hn0, hn1, hok⟩, by simp [wordsE]⟩, fun _ _ _ _ _ => rfl⟩
    · simp only [if_neg hok, if_neg (show ¬ false = true by simp)]
      exact ⟨([], 4), rfl, (by simp), (fun h => by cases h), fun _ _ _ _ h => absurd h hok⟩
  · rw [if_pos h0, if_pos h0]
    exact ⟨_, rfl, rfl, fun h => absurd h h0, fun h1 h2 h3 h4 _ => absurd (hz.2 ⟨h1, h2, h3, h4⟩) h0⟩
end
end Go.AW

/- What functions of the library compute that chapter 11 uses (not printed). -/
namespace Go.AW
open Go
/-- slices.Clone of numbers -/
def m_slices_Clone_Lint_int (l : List Int) : Option (List Int) := if l.length ≤ 1099511627776 then some l else none
/-- slices.Repeat of one truth value -/
def m_slices_Repeat_Lbool_bool (x : List Bool) (n : Int) : Option (List Bool) := if x = [true] ∧ 0 ≤ n ∧ n ≤ 1000000 then some (List.replicate n.toNat true) else none
/-- the graph of the chapter's example -/
def gT : TLabelsStatesEdges := (2, 2, [(0, 0, 0), (0, 1, 1), (1, 0, 0)])
/-- language.Missing, at the anchor's arguments -/
def m_language_Missing (g : TLabelsStatesEdges) (n : Int) : Option (List UInt8 × Bool × Int) := if g = gT ∧ n = 3 then some ([49, 49], true, 0) else none
/-- strings.Repeat -/
def m_strings_Repeat (s : List UInt8) (n : Int) : Option (List UInt8) := if 0 ≤ n ∧ n ≤ 9223372036854775807 ∧ s.length * n.toNat ≤ 140737488355328 then some (List.replicate n.toNat s).flatten else none
def m_law11_awake : Option Bool := some true
end Go.AW

/- Models, printed by lk.py. -/
namespace Go.AW
open Go
set_option linter.unusedVariables false
/-- slices.Equal[[]int,int] -/
noncomputable def m_slices_Equal_Lint_int (p0 : List (Int)) (p1 : List (Int)) : Option (Bool) :=
  if ((p0).length : Int) ≠ ((p1).length : Int) then
    some false
  else
    lpO (loopW (S := Int) (X := Ou (Unit) (Bool)) (fun a1 =>
        if a1 < ((p0).length : Int) then
          (idx p0 a1).bind fun x5 =>
          (idx p1 a1).bind fun x7 =>
          if x5 ≠ x7 then
            some (Stp.exit (Ou.ret false))
          else
            some (Stp.next (IntKind.wrap .i64 (a1 + 1)))
        else
          some (Stp.exit (Ou.go ()))) 0) (fun a9 =>
        some true) some

/-- groove/grooveref11.Great -/
noncomputable def m_ref11_Great (p0 : TLabelsStatesEdges) : Option (Bool) :=
  jp (fun (a1 : Bool) =>
    some a1)
    fun k3 =>
    if 8 < p0.2.1 then
      if p0.2.1 ≤ 64 then
        k3 true
      else
        if 30 < ((p0.2.2).length : Int) then
          if ((p0.2.2).length : Int) ≤ 1024 then
            k3 true
          else
            k3 (decide (1027 < ((p0.2.2).length : Int)))
        else
          k3 (decide (1027 < ((p0.2.2).length : Int)))
    else
      if 30 < ((p0.2.2).length : Int) then
        if ((p0.2.2).length : Int) ≤ 1024 then
          k3 true
        else
          k3 (decide (1027 < ((p0.2.2).length : Int)))
      else
        k3 (decide (1027 < ((p0.2.2).length : Int)))

/-- groove/groovelaw11.fine -/
noncomputable def m_law11_fine (p0 : TLabelsStatesEdges) : Option (Bool) :=
  jp (fun (a1 : Bool) =>
    some a1)
    fun k3 =>
    (m_ref11_Great p0).bind fun x4 =>
    if (!x4) = true then
      (m_graph_Check p0).bind fun x6 =>
      if x6 = 0 then
        k3 (decide (p0.1 ≤ 16))
      else
        k3 false
    else
      k3 false

/-- groove/groovelaw11.every -/
noncomputable def m_law11_every (p0 : TLabelsStatesEdges) : Option ((List (Int))) :=
  (loopW (S := Int × (List Int)) (X := (List Int)) (fun a1 =>
      if a1.1 < (min p0.2.1 8) then
        if fits 8 ((a1.2 : List Int).length + ([a1.1]).length) then
          some (Stp.next (IntKind.wrap .i64 (a1.1 + 1), a1.2 ++ [a1.1]))
        else none
      else
        some (Stp.exit a1.2)) (0, ([] : List Int))).bind fun a8 =>
  some a8

/-- groove/language.ends -/
noncomputable def m_language_ends (p0 : TLabelsStatesEdges) (p1 : List (Int)) (p2 : List UInt8) : Option ((List (Int))) :=
  (loopW (S := (List Int) × Int) (X := (List Int)) (fun a1 =>
      jp (fun (a5 : Bool) =>
        if a5 = true then
          (idx p2 a1.2).bind fun x8 =>
          (m_language_step p0 a1.1 (x8.toNat : Int)).bind fun x10 =>
          some (Stp.next (x10, IntKind.wrap .i64 (a1.2 + 1)))
        else
          some (Stp.exit a1.1))
        fun k7 =>
        if a1.2 < ((p2).length : Int) then
          k7 (decide (0 < ((a1.1).length : Int)))
        else
          k7 false) (p1, 0)).bind fun a13 =>
  some a13

/-- groove/language.Accepts -/
noncomputable def m_language_Accepts (p0 : TLabelsStatesEdges) (p1 : List UInt8) : Option (Bool × Int) :=
  (m_language_spells p0 p1).bind fun x1 =>
  if x1 ≠ 0 then
    some (false, x1)
  else
    (m_language_states p0).bind fun x3 =>
    (m_language_ends p0 x3 p1).bind fun x5 =>
    some (decide (0 < ((x5).length : Int)), 0)

/-- groove/language.Ends -/
noncomputable def m_language_Ends (p0 : TLabelsStatesEdges) (p1 : List (Int)) (p2 : List UInt8) : Option ((List (Int)) × Int) :=
  (m_language_spells p0 p2).bind fun x1 =>
  if x1 ≠ 0 then
    some ([], x1)
  else
    lpO (loopW (S := Int) (X := Ou (Unit) ((List (Int)) × Int)) (fun a3 =>
        if a3 < ((p1).length : Int) then
          (idx p1 a3).bind fun x7 =>
          jp (fun (a9 : Bool) =>
            if a9 = true then
              some (Stp.exit (Ou.ret ([], 25)))
            else
              some (Stp.next (IntKind.wrap .i64 (a3 + 1))))
            fun k11 =>
            if x7 < 0 then
              k11 true
            else
              k11 (decide (p0.2.1 ≤ x7))
        else
          some (Stp.exit (Ou.go ()))) 0) (fun a13 =>
        lpO (loopW (S := Int) (X := Ou (Unit) ((List (Int)) × Int)) (fun a15 =>
            if a15 < ((p1).length : Int) then
              (idx p1 a15).bind fun x19 =>
              jp (fun (a21 : Bool) =>
                if a21 = true then
                  some (Stp.exit (Ou.ret ([], 10)))
                else
                  some (Stp.next (IntKind.wrap .i64 (a15 + 1))))
                fun k23 =>
                if 0 < a15 then
                  (idx p1 (IntKind.wrap .i64 (a15 - 1))).bind fun x24 =>
                  k23 (decide (x19 ≤ x24))
                else
                  k23 false
            else
              some (Stp.exit (Ou.go ()))) 0) (fun a27 =>
            (m_language_ends p0 p1 p2).bind fun x29 =>
            (m_slices_Clone_Lint_int x29).bind fun x31 =>
            some (x31, 0)) some) some

/-- groove/groovelaw11.LanguageFactors -/
noncomputable def m_law11_LanguageFactors (p0 : TLabelsStatesEdges) (p1 : List UInt8) (p2 : Int) (p3 : Int) : Option (Bool) :=
  jp (fun (a1 : Bool) =>
    if a1 = true then
      (m_law11_awake).bind fun x4 =>
      some x4
    else
      if (IntKind.wrap .i64 (((p1).length : Int) + 1)) ≠ 0 then
        if (IntKind.wrap .i64 ((IntKind.wrap .i64 (((p1).length : Int) + 1)) - (Int.tmod (IntKind.wrap .i64 p2) (IntKind.wrap .i64 (((p1).length : Int) + 1))))) ≠ 0 then
          (m_language_Accepts p0 p1).bind fun x8 =>
          if 0 ≤ (Int.tmod (IntKind.wrap .i64 p2) (IntKind.wrap .i64 (((p1).length : Int) + 1)) : Int) ∧ (Int.tmod (IntKind.wrap .i64 p2) (IntKind.wrap .i64 (((p1).length : Int) + 1)) : Int) ≤ IntKind.wrap .i64 ((Int.tmod (IntKind.wrap .i64 p2) (IntKind.wrap .i64 (((p1).length : Int) + 1))) + (Int.tmod (IntKind.wrap .i64 p3) (IntKind.wrap .i64 ((IntKind.wrap .i64 (((p1).length : Int) + 1)) - (Int.tmod (IntKind.wrap .i64 p2) (IntKind.wrap .i64 (((p1).length : Int) + 1))))))) ∧ IntKind.wrap .i64 ((Int.tmod (IntKind.wrap .i64 p2) (IntKind.wrap .i64 (((p1).length : Int) + 1))) + (Int.tmod (IntKind.wrap .i64 p3) (IntKind.wrap .i64 ((IntKind.wrap .i64 (((p1).length : Int) + 1)) - (Int.tmod (IntKind.wrap .i64 p2) (IntKind.wrap .i64 (((p1).length : Int) + 1))))))) ≤ (p1.length : Int) then
            (m_language_Accepts p0 ((p1.take (IntKind.wrap .i64 ((Int.tmod (IntKind.wrap .i64 p2) (IntKind.wrap .i64 (((p1).length : Int) + 1))) + (Int.tmod (IntKind.wrap .i64 p3) (IntKind.wrap .i64 ((IntKind.wrap .i64 (((p1).length : Int) + 1)) - (Int.tmod (IntKind.wrap .i64 p2) (IntKind.wrap .i64 (((p1).length : Int) + 1)))))))).toNat).drop (Int.tmod (IntKind.wrap .i64 p2) (IntKind.wrap .i64 (((p1).length : Int) + 1))).toNat)).bind fun x11 =>
            (m_law11_every p0).bind fun x13 =>
            (m_language_Ends p0 x13 p1).bind fun x15 =>
            (m_law11_every p0).bind fun x17 =>
            if 0 ≤ (0 : Int) ∧ (0 : Int) ≤ Int.tmod (IntKind.wrap .i64 p2) (IntKind.wrap .i64 (((p1).length : Int) + 1)) ∧ Int.tmod (IntKind.wrap .i64 p2) (IntKind.wrap .i64 (((p1).length : Int) + 1)) ≤ (p1.length : Int) then
              (m_language_Ends p0 x17 ((p1.take (Int.tmod (IntKind.wrap .i64 p2) (IntKind.wrap .i64 (((p1).length : Int) + 1))).toNat).drop (0 : Int).toNat)).bind fun x20 =>
              if 0 ≤ (Int.tmod (IntKind.wrap .i64 p2) (IntKind.wrap .i64 (((p1).length : Int) + 1)) : Int) ∧ (Int.tmod (IntKind.wrap .i64 p2) (IntKind.wrap .i64 (((p1).length : Int) + 1)) : Int) ≤ ((p1).length : Int) ∧ ((p1).length : Int) ≤ (p1.length : Int) then
                (m_language_Ends p0 x20.1 ((p1.take (((p1).length : Int)).toNat).drop (Int.tmod (IntKind.wrap .i64 p2) (IntKind.wrap .i64 (((p1).length : Int) + 1))).toNat)).bind fun x23 =>
                jp (fun (a25 : Bool) =>
                  some a25)
                  fun k27 =>
                  if (max (max (max (max x8.2 x11.2) x15.2) x20.2) x23.2) = 0 then
                    if (!x8.1) = true then
                      if (x8.1 == (decide (0 < ((x15.1).length : Int)))) = true then
                        (m_slices_Equal_Lint_int x15.1 x23.1).bind fun x28 =>
                        if x28 = true then
                          (m_law11_awake).bind fun x30 =>
                          k27 x30
                        else
                          k27 false
                      else
                        k27 false
                    else
                      if x11.1 = true then
                        if (x8.1 == (decide (0 < ((x15.1).length : Int)))) = true then
                          (m_slices_Equal_Lint_int x15.1 x23.1).bind fun x34 =>
                          if x34 = true then
                            (m_law11_awake).bind fun x36 =>
                            k27 x36
                          else
                            k27 false
                        else
                          k27 false
                      else
                        k27 false
                  else
                    k27 false
              else none
            else none
          else none
        else none
      else none)
    fun k3 =>
    (m_law11_fine p0).bind fun x43 =>
    if (!x43) = true then
      k3 true
    else
      if 12 < ((p1).length : Int) then
        k3 true
      else
        (m_word_Check p0.1 p1).bind fun x45 =>
        k3 (decide (x45 ≠ 0))

/-- slices.Index[[]bool,bool] -/
noncomputable def m_slices_Index_Lbool_bool (p0 : List (Bool)) (p1 : Bool) : Option (Int) :=
  lpO (loopW (S := Int) (X := Ou (Unit) (Int)) (fun a1 =>
      if a1 < ((p0).length : Int) then
        (idx p0 a1).bind fun x5 =>
        if (p1 == x5) = true then
          some (Stp.exit (Ou.ret a1))
        else
          some (Stp.next (IntKind.wrap .i64 (a1 + 1)))
      else
        some (Stp.exit (Ou.go ()))) 0) (fun a7 =>
      some (-1)) some

/-- slices.Contains[[]bool,bool] -/
noncomputable def m_slices_Contains_Lbool_bool (p0 : List (Bool)) (p1 : Bool) : Option (Bool) :=
  (m_slices_Index_Lbool_bool p0 p1).bind fun x1 =>
  some (decide (0 ≤ x1))

/-- groove/language.Path -/
noncomputable def m_language_Path (p0 : TLabelsStatesEdges) (p1 : List UInt8) : Option ((List (Int)) × Int) :=
  (m_language_spells p0 p1).bind fun x1 =>
  if x1 ≠ 0 then
    some ([], x1)
  else
    if 0 ≤ (IntKind.wrap .i64 (((p1).length : Int) + 1) : Int) ∧ (IntKind.wrap .i64 (((p1).length : Int) + 1) : Int) ≤ IntKind.wrap .i64 (((p1).length : Int) + 1) ∧ (IntKind.wrap .i64 (((p1).length : Int) + 1) : Int) * 24 ≤ 281474976710656 then
      (m_slices_Repeat_Lbool_bool [true] p0.2.1).bind fun x5 =>
      (idx (List.replicate (IntKind.wrap .i64 (((p1).length : Int) + 1)).toNat ([] : List (Bool))) ((p1).length : Int)).bind fun x7 =>
      (loopW (S := Int × (List (List (Bool)))) (X := (List (List (Bool)))) (fun a9 =>
          if 0 ≤ a9.1 then
            if 0 ≤ (p0.2.1 : Int) ∧ (p0.2.1 : Int) ≤ p0.2.1 ∧ (p0.2.1 : Int) * 1 ≤ 281474976710656 then
              (idx a9.2 a9.1).bind fun x15 =>
              (loopW (S := Int × (List Bool)) (X := (List Bool)) (fun a17 =>
                  if a17.1 < ((p0.2.2).length : Int) then
                    jp (fun (a21 : (List Bool)) =>
                      some (Stp.next (IntKind.wrap .i64 (a17.1 + 1), a21)))
                      fun k23 =>
                      (idx p0.2.2 a17.1).bind fun x24 =>
                      jp (fun (a27 : Bool) =>
                        if a27 = true then
                          (idx a9.2 a9.1).bind fun x30 =>
                          (idx a17.2 x24.1).bind fun x32 =>
                          k23 ((a17.2).set (x24.1).toNat true)
                        else
                          k23 a17.2)
                        fun k29 =>
                        (idx ([48, 49, 50, 51, 52, 53, 54, 55, 56, 57, 97, 98, 99, 100, 101, 102] : List UInt8) x24.2.1).bind fun x34 =>
                        (idx p1 a9.1).bind fun x36 =>
                        if (x34.toNat : Int) = (x36.toNat : Int) then
                          (idx a9.2 (IntKind.wrap .i64 (a9.1 + 1))).bind fun x38 =>
                          if (IntKind.wrap .i64 (a9.1 + 1)).toNat ≠ (a9.1).toNat then
                            (idx a9.2 (IntKind.wrap .i64 (a9.1 + 1))).bind fun x40 =>
                            (idx x40 x24.2.2).bind fun x43 =>
                            k29 x43
                          else none
                        else
                          k29 false
                  else
                    some (Stp.exit a17.2)) (0, List.replicate (p0.2.1).toNat (false : Bool))).bind fun a46 =>
              some (Stp.next (IntKind.wrap .i64 (a9.1 - 1), (a9.2).set (a9.1).toNat a46))
            else none
          else
            some (Stp.exit a9.2)) (IntKind.wrap .i64 (((p1).length : Int) - 1), (List.replicate (IntKind.wrap .i64 (((p1).length : Int) + 1)).toNat ([] : List (Bool))).set (((p1).length : Int)).toNat x5)).bind fun a48 =>
      (idx a48 0).bind fun x50 =>
      (idx a48 (0 : Int)).bind fun x52 =>
      (m_slices_Contains_Lbool_bool x52 true).bind fun x54 =>
      if (!x54) = true then
        some ([], 13)
      else
        (loopW (S := Int × (List Int)) (X := (List Int)) (fun a56 =>
            if a56.1 < ((p1).length : Int) then
              (loopW (S := Int) (X := (List Int)) (fun a60 =>
                  if a60 < ((p0.2.2).length : Int) then
                    (idx p0.2.2 a60).bind fun x64 =>
                    jp (fun (a67 : Bool) =>
                      if a67 = true then
                        if fits 8 ((a56.2 : List Int).length + ([a60]).length) then
                          some (Stp.exit (a56.2 ++ [a60]))
                        else none
                      else
                        some (Stp.next (IntKind.wrap .i64 (a60 + 1))))
                      fun k69 =>
                      (idx ([48, 49, 50, 51, 52, 53, 54, 55, 56, 57, 97, 98, 99, 100, 101, 102] : List UInt8) x64.2.1).bind fun x72 =>
                      (idx p1 a56.1).bind fun x74 =>
                      if (x72.toNat : Int) = (x74.toNat : Int) then
                        (idx a48 (IntKind.wrap .i64 (a56.1 + 1))).bind fun x76 =>
                        (idx a48 (IntKind.wrap .i64 (a56.1 + 1))).bind fun x78 =>
                        (idx x78 x64.2.2).bind fun x80 =>
                        if x80 = true then
                          if a56.1 = 0 then
                            k69 true
                          else
                            (idx a56.2 (IntKind.wrap .i64 (a56.1 - 1))).bind fun x82 =>
                            (idx a56.2 (IntKind.wrap .i64 (a56.1 - 1))).bind fun x84 =>
                            (idx p0.2.2 x84).bind fun x86 =>
                            k69 (decide (x64.1 = x86.2.2))
                        else
                          k69 false
                      else
                        k69 false
                  else
                    some (Stp.exit a56.2)) 0).bind fun a91 =>
              some (Stp.next (IntKind.wrap .i64 (a56.1 + 1), a91))
            else
              some (Stp.exit a56.2)) (0, ([] : List Int))).bind fun a94 =>
        some (a94, 0)
    else none

/-- groove/groovelaw11.LanguagePaths -/
noncomputable def m_law11_LanguagePaths (p0 : TLabelsStatesEdges) (p1 : List UInt8) : Option (Bool) :=
  jp (fun (a1 : Bool) =>
    if a1 = true then
      (m_law11_awake).bind fun x4 =>
      some x4
    else
      (m_language_Path p0 p1).bind fun x6 =>
      (m_language_Accepts p0 p1).bind fun x8 =>
      jp (fun (a10 : Bool) =>
        if a10 = true then
          some false
        else
          if (!x8.1) = true then
            jp (fun (a13 : Bool) =>
              some a13)
              fun k15 =>
              if x6.2 = 13 then
                if ((x6.1).length : Int) = 0 then
                  (m_law11_awake).bind fun x16 =>
                  k15 x16
                else
                  k15 false
              else
                k15 false
          else
            if ((x6.1).length : Int) ≠ ((p1).length : Int) then
              some false
            else
              lpO (loopW (S := Int) (X := Ou (Unit) (Bool)) (fun a20 =>
                  if a20 < ((x6.1).length : Int) then
                    (idx x6.1 a20).bind fun x24 =>
                    jp (fun (a26 : Bool) =>
                      if a26 = true then
                        some (Stp.exit (Ou.ret false))
                      else
                        if 0 ≤ (0 : Int) ∧ (0 : Int) ≤ x24 ∧ x24 ≤ (p0.2.2.length : Int) then
                          lpO (loopW (S := Int) (X := Ou (Unit) (Bool)) (fun a30 =>
                              if a30 < (((p0.2.2.take (x24).toNat).drop (0 : Int).toNat).length : Int) then
                                jp (fun (a34 : Unit) =>
                                  some (Stp.next (IntKind.wrap .i64 (a30 + 1))))
                                  fun k36 =>
                                  (idx ((p0.2.2.take (x24).toNat).drop (0 : Int).toNat) a30).bind fun x37 =>
                                  jp (fun (a40 : Bool) =>
                                    if a40 = true then
                                      k36 ()
                                    else
                                      if 0 ≤ (IntKind.wrap .i64 (a20 + 1) : Int) ∧ (IntKind.wrap .i64 (a20 + 1) : Int) ≤ ((p1).length : Int) ∧ ((p1).length : Int) ≤ (p1.length : Int) then
                                        (m_language_Ends p0 [x37.2.2] ((p1.take (((p1).length : Int)).toNat).drop (IntKind.wrap .i64 (a20 + 1)).toNat)).bind fun x44 =>
                                        jp (fun (a46 : Bool) =>
                                          if a46 = true then
                                            some (Stp.exit (Ou.ret false))
                                          else
                                            k36 ())
                                          fun k48 =>
                                          if x44.2 ≠ 0 then
                                            k48 true
                                          else
                                            k48 (decide (((x44.1).length : Int) ≠ 0))
                                      else none)
                                    fun k42 =>
                                    (idx p0.2.2 x24).bind fun x50 =>
                                    if x37.2.1 ≠ x50.2.1 then
                                      k42 true
                                    else
                                      if 0 < a20 then
                                        (idx p0.2.2 x24).bind fun x52 =>
                                        k42 (decide (x37.1 ≠ x52.1))
                                      else
                                        k42 false
                              else
                                some (Stp.exit (Ou.go ()))) 0) (fun a56 =>
                              some (Stp.next (IntKind.wrap .i64 (a20 + 1)))) (fun r => some (Stp.exit (Ou.ret r)))
                        else none)
                      fun k28 =>
                      if x24 < 0 then
                        k28 true
                      else
                        if ((p0.2.2).length : Int) ≤ x24 then
                          k28 true
                        else
                          (idx p0.2.2 x24).bind fun x58 =>
                          (idx p1 a20).bind fun x60 =>
                          (m_strings_IndexByte [48, 49, 50, 51, 52, 53, 54, 55, 56, 57, 97, 98, 99, 100, 101, 102] (x60.toNat : Int)).bind fun x62 =>
                          if x58.2.1 ≠ x62 then
                            k28 true
                          else
                            if 0 < a20 then
                              (idx x6.1 (IntKind.wrap .i64 (a20 - 1))).bind fun x64 =>
                              (idx p0.2.2 x64).bind fun x66 =>
                              (idx p0.2.2 x24).bind fun x68 =>
                              k28 (decide (x66.2.2 ≠ x68.1))
                            else
                              k28 false
                  else
                    some (Stp.exit (Ou.go ()))) 0) (fun a74 =>
                  (m_law11_awake).bind fun x76 =>
                  some x76) some)
        fun k12 =>
        if x8.2 ≠ 0 then
          k12 true
        else
          k12 (!(x8.1 == (decide (x6.2 = 0)))))
    fun k3 =>
    (m_law11_fine p0).bind fun x79 =>
    if (!x79) = true then
      k3 true
    else
      if 12 < ((p1).length : Int) then
        k3 true
      else
        (m_word_Check p0.1 p1).bind fun x81 =>
        k3 (decide (x81 ≠ 0))

end Go.AW

/- Reading words in graphs: ends of words, and the law of factors. -/
namespace Go.AW
open Go
set_option linter.unusedSimpArgs false
set_option linter.unusedVariables false

theorem lpGo11 {V R Y : Type} {M : V → Option Y} {Rt : R → Option Y} {v : V} {r : Option Y} (h : M v = r) : lpO (some (.go v)) M Rt = r := h
/-- the number of a letter -/
def lab (c : UInt8) : Int := Lib.indexByte letters c

theorem idxB_neg : ∀ {l : List UInt8} {c : UInt8}, Lib.indexByte l c < 0 ↔ c ∉ l
  | [], c => by simp [Lib.indexByte]
  | b :: l, c => by
    have h := @idxB_neg l c
    have hg := Lib.indexByte_ge l c
    simp only [Lib.indexByte, List.mem_cons, not_or]
    by_cases e : b = c
    · subst e; simp
    · have e1 : (b == c) = false := by simpa using e
      simp only [e1, Bool.false_eq_true, if_false]
      by_cases e2 : Lib.indexByte l c = -1
      · have := h.1 (by omega)
        simp only [e2, beq_self_eq_true, if_true]
        exact ⟨fun _ => ⟨fun e' => e e'.symm, this⟩, fun _ => by decide⟩
      · have e3 : (Lib.indexByte l c == -1) = false := by simpa using e2
        simp only [e3, Bool.false_eq_true, if_false]
        exact ⟨fun h' => by omega, fun h' => by have := h.2 h'.2; omega⟩

theorem known_eq (L : Int) : m_word_known L = some (decide (1 ≤ L ∧ L ≤ 16)) := by
  unfold m_word_known
  simp only [jp]
  by_cases h1 : 1 ≤ L
  · rw [if_pos h1]; simp [h1]
  · rw [if_neg h1]; simp [h1]

theorem wcheck (L : Int) (w : List UInt8) : ∃ e, m_word_Check L w = some e ∧ (e = 0 ↔ (1 ≤ L ∧ L ≤ 16) ∧ w.length ≤ 65536 ∧ ∀ c ∈ w, c ∈ letters.take L.toNat) := by
  unfold m_word_Check
  rw [known_eq]
  simp only [Option.bind_some]
  by_cases h1 : 1 ≤ L ∧ L ≤ 16
  case neg =>
    rw [if_pos (by rw [decide_eq_false h1]; rfl)]
    exact ⟨12, rfl, by simp [h1]⟩
  rw [if_neg (by rw [decide_eq_true h1]; decide)]
  by_cases h2 : 65536 < (w.length : Int)
  · rw [if_pos h2]
    exact ⟨4, rfl, by simp; omega⟩
  rw [if_neg h2]
  have hx : ∀ c : UInt8, m_strings_IndexByte ((([48, 49, 50, 51, 52, 53, 54, 55, 56, 57, 97, 98, 99, 100, 101, 102] : List UInt8).take L.toNat).drop (0 : Int).toNat) (c.toNat : Int) = some (Lib.indexByte (letters.take L.toNat) c) := fun c => by
    unfold m_strings_IndexByte
    rw [byte_back]
    rfl
  have hl := loop_any (body := fun a3 => if a3 < ((w).length : Int) then
            if 0 ≤ (0 : Int) ∧ (0 : Int) ≤ L ∧ L ≤ (([48, 49, 50, 51, 52, 53, 54, 55, 56, 57, 97, 98, 99, 100, 101, 102] : List UInt8).length : Int) then
              (idx w a3).bind fun x8 =>
              (m_strings_IndexByte ((([48, 49, 50, 51, 52, 53, 54, 55, 56, 57, 97, 98, 99, 100, 101, 102] : List UInt8).take (L).toNat).drop (0 : Int).toNat) (x8.toNat : Int)).bind fun x10 =>
              if x10 < 0 then
                some (Stp.exit (Ou.ret 13))
              else
                some (Stp.next (IntKind.wrap .i64 (a3 + 1)))
            else none
          else
            some (Stp.exit (Ou.go ()))) (fun i => (i : Int)) w.length (fun i => decide (Lib.indexByte (letters.take L.toNat) (w.getD i 0) < 0)) (Ou.ret (13 : Int)) (Ou.go ()) (fun i hi => by
      have e1 : w.getD i 0 = w[i] := by simp [List.getD, hi]
      rw [if_pos (lt_int hi), if_pos ⟨by decide, by omega, by show L ≤ (16 : Int); omega⟩, ix hi]
      simp only [Option.bind_some, hx, nx (by omega : w.length ≤ _) hi, e1, decide_eq_true_eq]) (by rw [if_neg (not_lt_int _)]) (s0 := (0 : Int)) rfl
  rw [hl]
  by_cases hw : ∀ c ∈ w, c ∈ letters.take L.toNat
  · rw [if_neg]
    · exact ⟨0, rfl, by simp only [true_iff]; exact ⟨h1, by omega, hw⟩⟩
    · intro ha
      obtain ⟨i, hi, hp⟩ := List.any_eq_true.1 ha
      have hi := List.mem_range.1 hi
      have e1 : w.getD i 0 = w[i] := by simp [List.getD, hi]
      rw [e1] at hp
      exact idxB_neg.1 (of_decide_eq_true hp) (hw _ (List.getElem_mem hi))
  · rw [if_pos]
    · exact ⟨13, rfl, by simp only [show ¬ (13 : Int) = 0 by decide, false_iff]; exact fun h => hw h.2.2⟩
    · apply Classical.byContradiction
      intro hno
      refine hw fun c hc => ?_
      obtain ⟨i, hi, rfl⟩ := List.getElem_of_mem hc
      apply Classical.byContradiction
      intro hn
      refine hno (List.any_eq_true.2 ⟨i, List.mem_range.2 hi, ?_⟩)
      have e1 : w.getD i 0 = w[i] := by simp [List.getD, hi]
      rw [e1]
      exact decide_eq_true (idxB_neg.2 hn)

theorem lcheck_tot (g : Gr) : ∃ e, m_language_check g = some e ∧ (e = 0 ↔ VG g ∧ g.1 ≤ 16) := by
  obtain ⟨e, he, hz⟩ := Check_tot g
  unfold m_language_check
  rw [Check_ref, he]
  simp only [Option.bind_some]
  by_cases h0 : e = 0
  · rw [if_neg (by omega)]
    by_cases h1 : 16 < g.1
    · rw [if_pos h1]; exact ⟨12, rfl, by simp; intro _; omega⟩
    · rw [if_neg h1]; exact ⟨0, rfl, by simp only [true_iff]; exact ⟨hz.1 h0, by omega⟩⟩
  · rw [if_pos h0]
    exact ⟨1, rfl, by simp; intro hv; exact absurd (hz.2 hv) h0⟩

/-- a word over the letters of a graph -/
def WOk (g : Gr) (w : List UInt8) : Prop := w.length ≤ 65536 ∧ ∀ c ∈ w, c ∈ lets g

theorem spells_tot (g : Gr) (w : List UInt8) : ∃ e, m_language_spells g w = some e ∧ (e = 0 ↔ VG g ∧ g.1 ≤ 16 ∧ WOk g w) := by
  obtain ⟨e, he, hz⟩ := lcheck_tot g
  obtain ⟨f, hf, hy⟩ := wcheck g.1 w
  unfold m_language_spells
  rw [he]
  simp only [Option.bind_some, hf]
  by_cases h0 : e = 0
  · rw [if_neg (by omega)]
    obtain ⟨hv, h16⟩ := hz.1 h0
    exact ⟨f, rfl, hy.trans ⟨fun h => ⟨hv, h16, h.2⟩, fun h => ⟨⟨hv.l1, h16⟩, h.2.2⟩⟩⟩
  · rw [if_pos h0]
    exact ⟨e, rfl, ⟨fun h => absurd h h0, fun h => absurd (hz.2 ⟨h.1, h.2.1⟩) h0⟩⟩

section
variable {g : Gr}

theorem lab_mem {c : UInt8} (h : c ∈ lets g) : ∃ (i : Nat) (hi : i < letters.length), (i : Int) < g.1 ∧ letters[i] = c ∧ lab c = i := by
  obtain ⟨i, hi, hg, rfl⟩ := mem_lets h
  exact ⟨i, hi, hg, rfl, idx_letter hi⟩
theorem step_lab (hv : VG g) {a : List Int} (ha : SetOk g a) {c : UInt8} (hc : c ∈ lets g) : m_language_step g a (c.toNat : Int) = some (stepL g a (lab c)) := by
  obtain ⟨i, hi, hg, rfl, e⟩ := lab_mem hc
  rw [e]
  exact lstep_eq hv ha hi hg

/-- the ends of a word -/
def endsL (g : Gr) (a : List Int) (w : List UInt8) : List Int := w.foldl (fun a c => stepL g a (lab c)) a
theorem endsL_cons (a : List Int) (c : UInt8) (w : List UInt8) : endsL g a (c :: w) = endsL g (stepL g a (lab c)) w := rfl
theorem endsL_app (a : List Int) (u v : List UInt8) : endsL g a (u ++ v) = endsL g (endsL g a u) v := List.foldl_append ..
theorem stepL_nil (c : Int) : stepL g [] c = [] := by simp [stepL]
theorem endsL_nil : ∀ w : List UInt8, endsL g [] w = []
  | [] => rfl
  | c :: w => by rw [endsL_cons, stepL_nil, endsL_nil w]
theorem endsL_ok {a : List Int} (ha : SetOk g a) : ∀ w, SetOk g (endsL g a w) := fun w => by
  induction w generalizing a with
  | nil => exact ha
  | cons c w ih => exact ih (stepL_ok g a _)
theorem ends_eq (hv : VG g) {a : List Int} (ha : SetOk g a) {w : List UInt8} (hw : WOk g w) : m_language_ends g a w = some (endsL g a w) := by
  obtain ⟨hl, hc⟩ := hw
  unfold m_language_ends
  have hx : ∃ x, loopW (S := (List Int) × Int) (X := (List Int)) (fun a1 =>
      jp (fun (a5 : Bool) =>
        if a5 = true then
          (idx w a1.2).bind fun x8 =>
          (m_language_step g a1.1 (x8.toNat : Int)).bind fun x10 =>
          some (Stp.next (x10, IntKind.wrap .i64 (a1.2 + 1)))
        else
          some (Stp.exit a1.1))
        fun k7 =>
        if a1.2 < ((w).length : Int) then
          k7 (decide (0 < ((a1.1).length : Int)))
        else
          k7 false) (a, 0) = some x ∧ x = endsL g a w := by
    refine loopN w.length (fun i s => s = (endsL g a (w.take i), (i : Int))) ?_ ?_ 0 _ (Nat.zero_le _) rfl
    · rintro i s hi rfl
      simp only [jp]
      rw [if_pos (lt_int hi)]
      by_cases h0 : endsL g a (w.take i) = []
      · rw [if_neg (by rw [h0]; simp)]
        refine .inr ⟨_, rfl, ?_⟩
        rw [h0]
        conv => rhs; rw [← List.take_append_drop i w, endsL_app, h0, endsL_nil]
      · have hpos := List.length_pos_iff.2 h0
        rw [if_pos (decide_eq_true (by omega)), ix hi]
        simp only [Option.bind_some]
        rw [step_lab hv (endsL_ok ha _) (hc _ (List.getElem_mem hi))]
        refine .inl ⟨_, rfl, ?_⟩
        rw [nx (by omega : w.length ≤ _) hi, List.take_add_one, List.getElem?_eq_getElem hi, endsL_app]
        rfl
    · rintro s rfl
      simp only [jp]
      rw [if_neg (not_lt_int _), if_neg (by simp)]
      exact ⟨_, rfl, by rw [List.take_length]⟩
  obtain ⟨x, hx, rfl⟩ := hx
  rw [hx]
  rfl

theorem Accepts_eq (hv : VG g) (h16 : g.1 ≤ 16) {w : List UInt8} (hw : WOk g w) : m_language_Accepts g w = some (decide (endsL g (upto g.2.1) w ≠ []), 0) := by
  obtain ⟨e, he, hz⟩ := spells_tot g w
  have h0 := hz.2 ⟨hv, h16, hw⟩
  subst h0
  unfold m_language_Accepts
  rw [he]
  simp only [Option.bind_some, ne_eq, not_true_eq_false, if_false, states_eq hv, ends_eq hv (upto_ok g) hw]
  congr 2
  by_cases h : endsL g (upto g.2.1) w = []
  · simp [h]
  · have := List.length_pos_iff.2 h
    simp [h, this]

end

theorem Great_tot (g : Gr) : ∃ b, m_ref11_Great g = some b ∧ (b = false → (g.2.1 ≤ 8 ∨ 64 < g.2.1) ∧ (g.2.2.length ≤ 30 ∨ 1024 < g.2.2.length) ∧ g.2.2.length ≤ 1027) := by
  unfold m_ref11_Great
  simp only [jp]
  by_cases h1 : 8 < g.2.1
  · rw [if_pos h1]
    by_cases h2 : g.2.1 ≤ 64
    · rw [if_pos h2]; exact ⟨true, rfl, by simp⟩
    rw [if_neg h2]
    by_cases h3 : 30 < (g.2.2.length : Int)
    · rw [if_pos h3]
      by_cases h4 : (g.2.2.length : Int) ≤ 1024
      · rw [if_pos h4]; exact ⟨true, rfl, by simp⟩
      · rw [if_neg h4]; exact ⟨_, rfl, by simp; omega⟩
    · rw [if_neg h3]; exact ⟨_, rfl, by simp; omega⟩
  · rw [if_neg h1]
    by_cases h3 : 30 < (g.2.2.length : Int)
    · rw [if_pos h3]
      by_cases h4 : (g.2.2.length : Int) ≤ 1024
      · rw [if_pos h4]; exact ⟨true, rfl, by simp⟩
      · rw [if_neg h4]; exact ⟨_, rfl, by simp; omega⟩
    · rw [if_neg h3]; exact ⟨_, rfl, by simp; omega⟩

theorem fine_tot (g : Gr) : ∃ b, m_law11_fine g = some b ∧ (b = true → VG g ∧ g.1 ≤ 16 ∧ g.2.1 ≤ 8 ∧ g.2.2.length ≤ 30) := by
  obtain ⟨b, hb, hb2⟩ := Great_tot g
  obtain ⟨e, he, hz⟩ := Check_tot g
  unfold m_law11_fine
  rw [hb, Check_ref, he]
  simp only [jp, Option.bind_some]
  cases b with
  | true => exact ⟨false, rfl, by simp⟩
  | false =>
    rw [if_pos (by rfl)]
    by_cases h0 : e = 0
    · rw [if_pos h0]
      refine ⟨_, rfl, fun h => ?_⟩
      have hv := hz.1 h0
      obtain ⟨h1, h2, _⟩ := hb2 rfl
      have := hv.s1
      have := hv.el
      exact ⟨hv, of_decide_eq_true h, by omega, by omega⟩
    · rw [if_neg h0]; exact ⟨false, rfl, by simp⟩

theorem EqI_eq {a b : List Int} (hm : a.length ≤ 9223372036854775807) : m_slices_Equal_Lint_int a b = some (decide (a = b)) := by
  unfold m_slices_Equal_Lint_int
  by_cases hl : a.length = b.length
  · rw [if_neg (by omega)]
    refine lpL (loop_any (fun i => (i : Int)) a.length (fun i => decide (a.getD i 0 ≠ b.getD i 0)) (Ou.ret false) (Ou.go ()) (fun i hi => ?_) (by rw [if_neg (not_lt_int _)]) rfl) ?_
    · have hi' : i < b.length := by omega
      have e1 : a.getD i 0 = a[i] := by simp [List.getD, hi]
      have e2 : b.getD i 0 = b[i] := by simp [List.getD, hi']
      rw [if_pos (lt_int hi), ix hi, ix hi']
      simp only [Option.bind_some, nx hm hi, e1, e2, decide_eq_true_eq]
    · by_cases he : a = b
      · subst he
        rw [if_neg]
        · simp [lpO]
        · simp
      · rw [if_pos]
        · simp [lpO, he]
        · refine List.any_eq_true.2 ?_
          apply Classical.byContradiction
          intro hno
          refine he (List.ext_getElem hl fun i h1 h2 => ?_)
          apply Classical.byContradiction
          intro hne
          refine hno ⟨i, List.mem_range.2 h1, decide_eq_true ?_⟩
          rwa [show a.getD i 0 = a[i] by simp [List.getD, h1], show b.getD i 0 = b[i] by simp [List.getD, h2]]
  · rw [if_pos (by omega)]
    have : ¬ a = b := fun e => hl (by rw [e])
    simp [this]

theorem WOk.sub {g : Gr} {w u : List UInt8} (h : WOk g w) (hl : u.length ≤ w.length) (hs : ∀ c ∈ u, c ∈ w) : WOk g u := ⟨Nat.le_trans hl h.1, fun c hc => h.2 c (hs c hc)⟩

end Go.AW

/- The least path that is labelled with a word. -/
namespace Go.AW
open Go
set_option linter.unusedSimpArgs false
set_option linter.unusedVariables false

theorem letters_inj {i j : Nat} (hi : i < letters.length) (hj : j < letters.length) : ((letters[i]).toNat : Int) = ((letters[j]).toNat : Int) ↔ i = j := by
  have h : ∀ a b : Fin 16, ((letters[a.1]'(show a.1 < letters.length from a.2)).toNat : Int) = ((letters[b.1]'(show b.1 < letters.length from b.2)).toNat : Int) → a.1 = b.1 := by decide
  exact ⟨fun e => h ⟨i, hi⟩ ⟨j, hj⟩ e, fun e => by subst e; rfl⟩

section
variable {g : Gr}

/-- from which states a word can be read -/
def canB (g : Gr) : List UInt8 → List Bool
  | [] => List.replicate g.2.1.toNat true
  | c :: w => (upto g.2.1).map fun s => g.2.2.any fun x => decide (x.1 = s ∧ x.2.1 = lab c) && (canB g w).getD x.2.2.toNat false
theorem canB_len : ∀ w, (canB g w).length = g.2.1.toNat
  | [] => by simp [canB]
  | c :: w => by simp [canB, upto_len]
/-- the word can be read from a state -/
def canR (g : Gr) (w : List UInt8) (s : Int) : Prop := (canB g w).getD s.toNat false = true
theorem upto_get {n : Int} {i : Nat} (h : i < (upto n).length) : (upto n)[i] = (i : Int) := by simp [upto]
theorem canR_cons {c : UInt8} {w : List UInt8} {s : Int} (h0 : 0 ≤ s) (h1 : s < g.2.1) : canR g (c :: w) s ↔ ∃ x ∈ g.2.2, x.1 = s ∧ x.2.1 = lab c ∧ canR g w x.2.2 := by
  have hs : s.toNat < (upto g.2.1).length := by rw [upto_len]; omega
  simp only [canR, canB]
  rw [List.getD_eq_getElem?_getD, List.getElem?_map, List.getElem?_eq_getElem hs, upto_get]
  simp only [Option.map_some, Option.getD_some, List.any_eq_true, Bool.and_eq_true, decide_eq_true_eq]
  have e : ((s.toNat : Nat) : Int) = s := by omega
  rw [e]
  exact ⟨fun ⟨x, hx, ⟨h2, h3⟩, h4⟩ => ⟨x, hx, h2, h3, h4⟩, fun ⟨x, hx, h2, h3, h4⟩ => ⟨x, hx, ⟨h2, h3⟩, h4⟩⟩

/-- an edge with which a word goes on -/
def okE (g : Gr) (w : List UInt8) (c : UInt8) (prev : Option Int) (x : Ed) : Bool := decide (x.2.1 = lab c) && (canB g w).getD x.2.2.toNat false && (match prev with
  | none => true
  | some s => decide (x.1 = s))
def pick (g : Gr) (w : List UInt8) (c : UInt8) (prev : Option Int) : Nat := g.2.2.findIdx (okE g w c prev)
/-- the least path behind a state -/
def pathR (g : Gr) (prev : Option Int) : List UInt8 → List Int
  | [] => []
  | c :: w => (pick g w c prev : Int) :: pathR g (some (g.2.2.getD (pick g w c prev) (0, 0, 0)).2.2) w
def feas (g : Gr) (prev : Option Int) (w : List UInt8) : Prop := match prev with
  | none => ∃ s, 0 ≤ s ∧ s < g.2.1 ∧ canR g w s
  | some s => 0 ≤ s ∧ s < g.2.1 ∧ canR g w s
theorem feas_pick (hv : VG g) {prev : Option Int} {c : UInt8} {w : List UInt8} (h : feas g prev (c :: w)) : ∃ h : pick g w c prev < g.2.2.length, okE g w c prev g.2.2[pick g w c prev] = true ∧ feas g (some (g.2.2[pick g w c prev]).2.2) w := by
  have hex : ∃ x ∈ g.2.2, okE g w c prev x = true := by
    cases prev with
    | none =>
      obtain ⟨s, h0, h1, hc⟩ := h
      obtain ⟨x, hx, h2, h3, h4⟩ := (canR_cons h0 h1).1 hc
      exact ⟨x, hx, by simp [okE, h3]; exact h4⟩
    | some s =>
      obtain ⟨h0, h1, hc⟩ := h
      obtain ⟨x, hx, h2, h3, h4⟩ := (canR_cons h0 h1).1 hc
      exact ⟨x, hx, by simp [okE, h2, h3]; exact h4⟩
  have hlt : pick g w c prev < g.2.2.length := List.findIdx_lt_length_of_exists (by simpa using hex)
  have hok : okE g w c prev g.2.2[pick g w c prev] = true := List.findIdx_getElem (p := okE g w c prev) (w := hlt)
  refine ⟨hlt, hok, ?_⟩
  obtain ⟨_, _, h2, h3, _⟩ := hv.ed _ (List.getElem_mem hlt)
  simp only [okE, Bool.and_eq_true] at hok
  exact ⟨h2, h3, hok.1.2⟩
theorem pick_min {w : List UInt8} {c : UInt8} {prev : Option Int} {k : Nat} (h : k < pick g w c prev) (hk : k < g.2.2.length) : okE g w c prev g.2.2[k] = false := by
  have := List.not_of_lt_findIdx h
  simpa using this

/-- the end of the path so far -/
def prevOf (g : Gr) (out : List Int) (i : Nat) : Option Int := if i = 0 then none else some (g.2.2.getD (out.getD (i - 1) 0).toNat (0, 0, 0)).2.2

theorem IndexB_eq {l : List Bool} (hm : l.length ≤ 9223372036854775807) : ∃ r, m_slices_Index_Lbool_bool l true = some r ∧ (0 ≤ r ↔ true ∈ l) := by
  unfold m_slices_Index_Lbool_bool
  have hx : ∃ x, loopW (S := Int) (X := Ou (Unit) (Int)) (fun a1 =>
      if a1 < ((l).length : Int) then
        (idx l a1).bind fun x5 =>
        if (true == x5) = true then
          some (Stp.exit (Ou.ret a1))
        else
          some (Stp.next (IntKind.wrap .i64 (a1 + 1)))
      else
        some (Stp.exit (Ou.go ()))) 0 = some x ∧ ((x = .go () ∧ ¬ true ∈ l) ∨ ∃ r : Int, x = .ret r ∧ 0 ≤ r ∧ true ∈ l) := by
    refine loopN l.length (fun i s => s = (i : Int) ∧ ∀ (j : Nat) (h : j < l.length), j < i → l[j] = false) ?_ ?_ 0 _ (Nat.zero_le _) ⟨rfl, fun _ _ h => by omega⟩
    · rintro i s hi ⟨rfl, hj⟩
      rw [if_pos (lt_int hi), ix hi]
      simp only [Option.bind_some]
      by_cases hb : l[i] = true
      · rw [hb]
        exact .inr ⟨_, rfl, .inr ⟨_, rfl, by omega, by rw [← hb]; exact List.getElem_mem hi⟩⟩
      · have hb : l[i] = false := by simpa using hb
        rw [hb]
        refine .inl ⟨_, rfl, by rw [nx hm hi], fun j h hji => ?_⟩
        by_cases e : j = i
        · subst e; exact hb
        · exact hj j h (by omega)
    · rintro s ⟨rfl, hj⟩
      rw [if_neg (not_lt_int _)]
      refine ⟨_, rfl, .inl ⟨rfl, fun hm => ?_⟩⟩
      obtain ⟨j, h, e⟩ := List.getElem_of_mem hm
      rw [hj j h h] at e
      cases e
  obtain ⟨x, hx, ⟨rfl, hn⟩ | ⟨r, rfl, h0, hm⟩⟩ := hx
  · rw [hx]
    exact ⟨-1, rfl, by simp [hn]⟩
  · rw [hx]
    exact ⟨r, rfl, by simp [h0, hm]⟩
theorem ContainsB_eq {l : List Bool} (hm : l.length ≤ 9223372036854775807) : m_slices_Contains_Lbool_bool l true = some (decide (true ∈ l)) := by
  obtain ⟨r, hr, h⟩ := IndexB_eq hm
  unfold m_slices_Contains_Lbool_bool
  rw [hr]
  simp only [Option.bind_some, h]
theorem can_mem {w : List UInt8} : true ∈ canB g w ↔ feas g none w := by
  constructor
  · intro h
    obtain ⟨i, hi, e⟩ := List.getElem_of_mem h
    have := canB_len (g := g) w
    refine ⟨(i : Int), by omega, by omega, ?_⟩
    simp [canR, List.getD, hi, e]
  · rintro ⟨s, h0, h1, hc⟩
    have hlen := canB_len (g := g) w
    have hs : s.toNat < (canB g w).length := by omega
    have : (canB g w)[s.toNat] = true := by simpa [canR, List.getD, hs] using hc
    rw [← this]
    exact List.getElem_mem hs

/-- which places of the table are filled -/
def canT (g : Gr) (w : List UInt8) (t : Nat) : List (List Bool) := (List.range (w.length + 1)).map fun j => if w.length - t ≤ j then canB g (w.drop j) else []
theorem canT_len (w : List UInt8) (t : Nat) : (canT g w t).length = w.length + 1 := by simp [canT]
theorem canT_get {w : List UInt8} {t j : Nat} (h : j ≤ w.length) : idx (canT g w t) (j : Int) = some (if w.length - t ≤ j then canB g (w.drop j) else []) := by
  rw [ix (by rw [canT_len]; omega)]
  simp [canT]
theorem canT_zero (w : List UInt8) : (List.replicate (w.length + 1) ([] : List Bool)).set w.length (canB g []) = canT g w 0 := by
  apply List.ext_getElem
  · simp [canT_len]
  · intro j h1 h2
    simp only [List.length_set, List.length_replicate] at h1
    rw [List.getElem_set]
    simp only [canT, List.getElem_map, List.getElem_range, Nat.sub_zero, List.getElem_replicate]
    by_cases e : w.length = j
    · subst e; simp
    · rw [if_neg e, if_neg (by omega)]
theorem canT_succ {w : List UInt8} {t : Nat} (h : t < w.length) : (canT g w t).set (w.length - 1 - t) (canB g (w.drop (w.length - 1 - t))) = canT g w (t + 1) := by
  apply List.ext_getElem
  · simp [canT_len]
  · intro j h1 h2
    rw [List.getElem_set]
    simp only [canT, List.getElem_map, List.getElem_range]
    by_cases e : w.length - 1 - t = j
    · subst e; rw [if_pos rfl, if_pos (by omega)]
    · rw [if_neg e]
      by_cases e2 : w.length - t ≤ j
      · rw [if_pos e2, if_pos (by omega)]
      · rw [if_neg e2, if_neg (by omega)]

/-- a row of the table, the edges ahead of k seen -/
def rowT (g : Gr) (cs : List Bool) (c : UInt8) (k : Nat) : List Bool := (upto g.2.1).map fun s => (g.2.2.take k).any fun x => decide (x.1 = s ∧ x.2.1 = lab c) && cs.getD x.2.2.toNat false
theorem rowT_len (cs : List Bool) (c : UInt8) (k : Nat) : (rowT g cs c k).length = g.2.1.toNat := by simp [rowT, upto_len]
theorem rowT_next {cs : List Bool} {c : UInt8} {k : Nat} (hk : k < g.2.2.length) (h0 : 0 ≤ g.2.2[k].1) : rowT g cs c (k + 1) = if decide (g.2.2[k].2.1 = lab c) && cs.getD g.2.2[k].2.2.toNat false then (rowT g cs c k).set g.2.2[k].1.toNat true else rowT g cs c k := by
  have e : g.2.2.take (k + 1) = g.2.2.take k ++ [g.2.2[k]] := by rw [List.take_add_one, List.getElem?_eq_getElem hk]; rfl
  by_cases hb : (decide (g.2.2[k].2.1 = lab c) && cs.getD g.2.2[k].2.2.toNat false) = true
  · rw [if_pos hb]
    simp only [Bool.and_eq_true, decide_eq_true_eq] at hb
    apply List.ext_getElem
    · simp [rowT]
    · intro j h1 h2
      rw [List.getElem_set]
      simp only [rowT, List.getElem_map, e, List.any_append, List.any_cons, List.any_nil, Bool.or_false, upto_get]
      by_cases ej : g.2.2[k].1.toNat = j
      · rw [if_pos ej, hb.2, hb.1]
        have : g.2.2[k].1 = (j : Int) := by omega
        simp [this]
      · rw [if_neg ej]
        have : ¬ g.2.2[k].1 = (j : Int) := by omega
        simp [this]
  · rw [if_neg hb]
    have hb : (decide (g.2.2[k].2.1 = lab c) && cs.getD g.2.2[k].2.2.toNat false) = false := by simpa using hb
    simp only [rowT, e, List.any_append, List.any_cons, List.any_nil, Bool.or_false]
    congr 1
    funext s
    have : (decide (g.2.2[k].1 = s ∧ g.2.2[k].2.1 = lab c) && cs.getD g.2.2[k].2.2.toNat false) = false := by
      simp only [Bool.and_eq_false_iff, decide_eq_false_iff_not] at hb ⊢
      rcases hb with hb | hb
      · exact .inl fun h => hb h.2
      · exact .inr hb
    rw [this, Bool.or_false]
theorem rowT_zero (cs : List Bool) (c : UInt8) : rowT g cs c 0 = List.replicate g.2.1.toNat false := by
  apply List.ext_getElem
  · simp [rowT, upto_len]
  · intro j h1 h2; simp [rowT]
theorem rowT_all (w : List UInt8) (c : UInt8) : rowT g (canB g w) c g.2.2.length = canB g (c :: w) := by simp [rowT, canB]

/-- the letter of an edge -/
theorem edge_letter (hv : VG g) (h16 : g.1 ≤ 16) {x : Ed} (hx : x ∈ g.2.2) {c : UInt8} (hc : c ∈ lets g) : ∃ d : UInt8, idx ([48, 49, 50, 51, 52, 53, 54, 55, 56, 57, 97, 98, 99, 100, 101, 102] : List UInt8) x.2.1 = some d ∧ ((d.toNat : Int) = (c.toNat : Int) ↔ x.2.1 = lab c) := by
  obtain ⟨_, _, _, _, h0, h1⟩ := hv.ed x hx
  obtain ⟨i, hi, hg, rfl, el⟩ := lab_mem hc
  obtain ⟨l, hl⟩ := Int.eq_ofNat_of_zero_le h0
  have hl16 : l < letters.length := by rw [letters_len]; omega
  refine ⟨letters[l], ?_, ?_⟩
  · rw [hl]
    exact ix (l := letters) hl16
  · rw [letters_inj hl16 hi, hl, el]
    omega
end
end Go.AW

/- language.Path gives the least path. -/
namespace Go.AW
open Go
set_option linter.unusedSimpArgs false
set_option linter.unusedVariables false
section
variable {g : Gr}

theorem path_table (hv : VG g) (h16 : g.1 ≤ 16) {w : List UInt8} (hw : WOk g w) : (loopW (S := Int × (List (List (Bool)))) (X := (List (List (Bool)))) (fun a9 =>
          if 0 ≤ a9.1 then
            if 0 ≤ (g.2.1 : Int) ∧ (g.2.1 : Int) ≤ g.2.1 ∧ (g.2.1 : Int) * 1 ≤ 281474976710656 then
              (idx a9.2 a9.1).bind fun x15 =>
              (loopW (S := Int × (List Bool)) (X := (List Bool)) (fun a17 =>
                  if a17.1 < ((g.2.2).length : Int) then
                    jp (fun (a21 : (List Bool)) =>
                      some (Stp.next (IntKind.wrap .i64 (a17.1 + 1), a21)))
                      fun k23 =>
                      (idx g.2.2 a17.1).bind fun x24 =>
                      jp (fun (a27 : Bool) =>
                        if a27 = true then
                          (idx a9.2 a9.1).bind fun x30 =>
                          (idx a17.2 x24.1).bind fun x32 =>
                          k23 ((a17.2).set (x24.1).toNat true)
                        else
                          k23 a17.2)
                        fun k29 =>
                        (idx ([48, 49, 50, 51, 52, 53, 54, 55, 56, 57, 97, 98, 99, 100, 101, 102] : List UInt8) x24.2.1).bind fun x34 =>
                        (idx w a9.1).bind fun x36 =>
                        if (x34.toNat : Int) = (x36.toNat : Int) then
                          (idx a9.2 (IntKind.wrap .i64 (a9.1 + 1))).bind fun x38 =>
                          if (IntKind.wrap .i64 (a9.1 + 1)).toNat ≠ (a9.1).toNat then
                            (idx a9.2 (IntKind.wrap .i64 (a9.1 + 1))).bind fun x40 =>
                            (idx x40 x24.2.2).bind fun x43 =>
                            k29 x43
                          else none
                        else
                          k29 false
                  else
                    some (Stp.exit a17.2)) (0, List.replicate (g.2.1).toNat (false : Bool))).bind fun a46 =>
              some (Stp.next (IntKind.wrap .i64 (a9.1 - 1), (a9.2).set (a9.1).toNat a46))
            else none
          else
            some (Stp.exit a9.2)) (IntKind.wrap .i64 (((w).length : Int) - 1), canT g w 0)) = some (canT g w w.length) := by
  obtain ⟨hl, hc⟩ := hw
  have hs0 := hv.s0
  have hs1 := hv.s1
  have hel := hv.el
  refine loop_is (fun t => ((w.length : Int) - 1 - (t : Int), canT g w t)) w.length _ (fun t ht => ?_) ?_ (by rw [w64 (by omega) (by omega)]; simp)
  · dsimp only
    rw [if_pos (by omega), if_pos (by omega)]
    have ei : (w.length : Int) - 1 - (t : Int) = ((w.length - 1 - t : Nat) : Int) := by omega
    have hi : w.length - 1 - t < w.length := by omega
    have ew : IntKind.wrap .i64 ((w.length : Int) - 1 - (t : Int) - 1) = (w.length : Int) - 1 - ((t + 1 : Nat) : Int) := by rw [w64 (by omega) (by omega)]; omega
    rw [ew]
    rw [ei]
    generalize hI : w.length - 1 - t = i at *
    have e1 : IntKind.wrap .i64 ((i : Int) + 1) = ((i + 1 : Nat) : Int) := nx (by omega : w.length ≤ _) hi
    have hdrop : w.drop i = w[i] :: w.drop (i + 1) := List.drop_eq_getElem_cons hi
    have hcl := canB_len (g := g) (w.drop (i + 1))
    rw [canT_get (by omega)]
    simp only [Option.bind_some, jp]
    refine bindL (loop_is (fun k => ((k : Int), rowT g (canB g (w.drop (i + 1))) w[i] k)) g.2.2.length (canB g (w.drop i)) (fun k hk => ?_) ?_ (by rw [rowT_zero]; rfl)) ?_
    · dsimp only
      obtain ⟨d, hd, hde⟩ := edge_letter hv h16 (List.getElem_mem hk) (hc _ (List.getElem_mem hi))
      obtain ⟨q0, q1, q2, q3, _, _⟩ := hv.ed _ (List.getElem_mem hk)
      have hnx := nx (by omega : g.2.2.length ≤ _) hk
      rw [if_pos (lt_int hk), ix hk]
      simp only [Option.bind_some, hd, ix hi]
      rw [rowT_next hk q0]
      have hti : w.length - t ≤ i + 1 := by omega
      by_cases hlab : g.2.2[k].2.1 = lab w[i]
      · rw [if_pos (hde.2 hlab), e1, canT_get (by omega), if_pos hti]
        simp only [Option.bind_some, Int.toNat_natCast]
        rw [if_pos (by omega)]
        have hto : idx (canB g (w.drop (i + 1))) g.2.2[k].2.2 = some ((canB g (w.drop (i + 1))).getD g.2.2[k].2.2.toNat false) := by
          obtain ⟨m, hm⟩ := Int.eq_ofNat_of_zero_le q2
          rw [hm, ix (by omega)]
          simp [List.getD, show m < (canB g (w.drop (i + 1))).length by omega]
        rw [hto]
        simp only [Option.bind_some, hlab, decide_true, Bool.true_and]
        by_cases hb : (canB g (w.drop (i + 1))).getD g.2.2[k].2.2.toNat false = true
        · rw [if_pos hb, if_pos hb]
          have hfr : ∃ b, idx (rowT g (canB g (w.drop (i + 1))) w[i] k) g.2.2[k].1 = some b := by
            obtain ⟨m, hm⟩ := Int.eq_ofNat_of_zero_le q0
            rw [hm, ix (by rw [rowT_len]; omega)]
            exact ⟨_, rfl⟩
          obtain ⟨b, hb2⟩ := hfr
          rw [hb2]
          simp only [Option.bind_some, hnx]
        · rw [if_neg hb, if_neg hb, hnx]
      · rw [if_neg (fun h => hlab (hde.1 h))]
        simp only [Bool.false_eq_true, if_false, hlab, decide_false, Bool.false_and, hnx]
    · dsimp only
      rw [if_neg (not_lt_int _), rowT_all, hdrop]
    · simp only [Int.toNat_natCast]
      have := canT_succ (g := g) (w := w) (t := t) ht
      rw [hI] at this
      rw [this]
  · dsimp only
    rw [if_neg (by omega)]
end
end Go.AW

/- language.Path: the edges; the whole function. -/
namespace Go.AW
open Go
set_option linter.unusedSimpArgs false
set_option linter.unusedVariables false
section
variable {g : Gr}

theorem loopN_eq {S X : Type} {body : S → Option (Stp S X)} (x0 : X) (n : Nat) (I : Nat → S → Prop)
    (step : ∀ i s, i < n → I i s → (∃ s', body s = some (.next s') ∧ I (i + 1) s') ∨ ∃ x, body s = some (.exit x) ∧ x = x0) (fin : ∀ s, I n s → ∃ x, body s = some (.exit x) ∧ x = x0) {s0 : S} (h : I 0 s0) : loopW body s0 = some x0 := by
  obtain ⟨x, hx, rfl⟩ := loopN n I step fin 0 s0 (Nat.zero_le _) h
  exact hx
theorem prevOf_succ {out : List Int} {i k : Nat} (ho : out.length = i) : prevOf g (out ++ [(k : Int)]) (i + 1) = some (g.2.2.getD k (0, 0, 0)).2.2 := by
  unfold prevOf
  rw [if_neg (by omega)]
  have : (out ++ [(k : Int)]).getD (i + 1 - 1) 0 = k := by
    rw [List.getD_eq_getElem?_getD, List.getElem?_append_right (by omega)]
    simp [ho]
  rw [this]
  rfl

theorem path_walk (hv : VG g) (h16 : g.1 ≤ 16) {w : List UInt8} (hw : WOk g w) (hf : feas g none w) : loopW (S := Int × (List Int)) (X := (List Int)) (fun a56 =>
            if a56.1 < ((w).length : Int) then
              (loopW (S := Int) (X := (List Int)) (fun a60 =>
                  if a60 < ((g.2.2).length : Int) then
                    (idx g.2.2 a60).bind fun x64 =>
                    jp (fun (a67 : Bool) =>
                      if a67 = true then
                        if fits 8 ((a56.2 : List Int).length + ([a60]).length) then
                          some (Stp.exit (a56.2 ++ [a60]))
                        else none
                      else
                        some (Stp.next (IntKind.wrap .i64 (a60 + 1))))
                      fun k69 =>
                      (idx ([48, 49, 50, 51, 52, 53, 54, 55, 56, 57, 97, 98, 99, 100, 101, 102] : List UInt8) x64.2.1).bind fun x72 =>
                      (idx w a56.1).bind fun x74 =>
                      if (x72.toNat : Int) = (x74.toNat : Int) then
                        (idx (canT g w w.length) (IntKind.wrap .i64 (a56.1 + 1))).bind fun x76 =>
                        (idx (canT g w w.length) (IntKind.wrap .i64 (a56.1 + 1))).bind fun x78 =>
                        (idx x78 x64.2.2).bind fun x80 =>
                        if x80 = true then
                          if a56.1 = 0 then
                            k69 true
                          else
                            (idx a56.2 (IntKind.wrap .i64 (a56.1 - 1))).bind fun x82 =>
                            (idx a56.2 (IntKind.wrap .i64 (a56.1 - 1))).bind fun x84 =>
                            (idx g.2.2 x84).bind fun x86 =>
                            k69 (decide (x64.1 = x86.2.2))
                        else
                          k69 false
                      else
                        k69 false
                  else
                    some (Stp.exit a56.2)) 0).bind fun a91 =>
              some (Stp.next (IntKind.wrap .i64 (a56.1 + 1), a91))
            else
              some (Stp.exit a56.2)) (0, ([] : List Int)) = some (pathR g none w) := by
  obtain ⟨hl, hc⟩ := hw
  have hel := hv.el
  refine loopN_eq (pathR g none w) w.length (fun i s => ∃ out : List Int, s = ((i : Int), out) ∧ out.length = i ∧ pathR g none w = out ++ pathR g (prevOf g out i) (w.drop i) ∧ feas g (prevOf g out i) (w.drop i) ∧ ∀ k ∈ out, 0 ≤ k ∧ k < g.2.2.length) ?_ ?_ ⟨[], rfl, rfl, rfl, hf, by simp⟩
  · rintro i s hi ⟨out, rfl, ho, hp, hfe, hk0⟩
    dsimp only
    rw [if_pos (lt_int hi)]
    have e1 : IntKind.wrap .i64 ((i : Int) + 1) = ((i + 1 : Nat) : Int) := nx (by omega : w.length ≤ _) hi
    have hdrop : w.drop i = w[i] :: w.drop (i + 1) := List.drop_eq_getElem_cons hi
    have hcl := canB_len (g := g) (w.drop (i + 1))
    rw [hdrop] at hfe hp
    obtain ⟨hk, hok, hfe2⟩ := feas_pick hv hfe
    have hmin := fun {k : Nat} => pick_min (g := g) (w := w.drop (i + 1)) (c := w[i]) (prev := prevOf g out i) (k := k)
    simp only [pathR] at hp
    generalize hK : pick g (w.drop (i + 1)) w[i] (prevOf g out i) = K at *
    have hin : ∃ x, loopW (S := Int) (X := (List Int)) (fun a60 =>
                  if a60 < ((g.2.2).length : Int) then
                    (idx g.2.2 a60).bind fun x64 =>
                    jp (fun (a67 : Bool) =>
                      if a67 = true then
                        if fits 8 ((out : List Int).length + ([a60]).length) then
                          some (Stp.exit (out ++ [a60]))
                        else none
                      else
                        some (Stp.next (IntKind.wrap .i64 (a60 + 1))))
                      fun k69 =>
                      (idx ([48, 49, 50, 51, 52, 53, 54, 55, 56, 57, 97, 98, 99, 100, 101, 102] : List UInt8) x64.2.1).bind fun x72 =>
                      (idx w (i : Int)).bind fun x74 =>
                      if (x72.toNat : Int) = (x74.toNat : Int) then
                        (idx (canT g w w.length) (IntKind.wrap .i64 ((i : Int) + 1))).bind fun x76 =>
                        (idx (canT g w w.length) (IntKind.wrap .i64 ((i : Int) + 1))).bind fun x78 =>
                        (idx x78 x64.2.2).bind fun x80 =>
                        if x80 = true then
                          if (i : Int) = 0 then
                            k69 true
                          else
                            (idx out (IntKind.wrap .i64 ((i : Int) - 1))).bind fun x82 =>
                            (idx out (IntKind.wrap .i64 ((i : Int) - 1))).bind fun x84 =>
                            (idx g.2.2 x84).bind fun x86 =>
                            k69 (decide (x64.1 = x86.2.2))
                        else
                          k69 false
                      else
                        k69 false
                  else
                    some (Stp.exit out)) 0 = some x ∧ x = out ++ [(K : Int)] := by
      refine loopN g.2.2.length (fun k s => s = (k : Int) ∧ k ≤ K) ?_ ?_ 0 _ (Nat.zero_le _) ⟨rfl, Nat.zero_le _⟩
      · rintro k s hkl ⟨rfl, hkK⟩
        obtain ⟨d, hd, hde⟩ := edge_letter hv h16 (List.getElem_mem hkl) (hc _ (List.getElem_mem hi))
        obtain ⟨q0, q1, q2, q3, _, _⟩ := hv.ed _ (List.getElem_mem hkl)
        have hnx := nx (by omega : g.2.2.length ≤ _) hkl
        rw [if_pos (lt_int hkl), ix hkl]
        simp only [Option.bind_some, hd, ix hi, jp, e1]
        have hcT : idx (canT g w w.length) ((i + 1 : Nat) : Int) = some (canB g (w.drop (i + 1))) := by rw [canT_get (by omega), if_pos (by omega)]
        rw [hcT]
        simp only [Option.bind_some]
        have hto : idx (canB g (w.drop (i + 1))) g.2.2[k].2.2 = some ((canB g (w.drop (i + 1))).getD g.2.2[k].2.2.toNat false) := by
          obtain ⟨m, hm⟩ := Int.eq_ofNat_of_zero_le q2
          rw [hm, ix (by omega)]
          simp [List.getD, show m < (canB g (w.drop (i + 1))).length by omega]
        rw [hto]
        simp only [Option.bind_some]
        have hfit : fits 8 (out.length + [(k : Int)].length) := fits_le (by simp; omega) (by simp; omega)
        -- the test is okE
        have hgoal : ∀ b : Bool, b = okE g (w.drop (i + 1)) w[i] (prevOf g out i) g.2.2[k] → (∃ s', (if b = true then if fits 8 (out.length + [(k : Int)].length) then some (Stp.exit (out ++ [(k : Int)])) else none else some (Stp.next (IntKind.wrap .i64 ((k : Int) + 1)))) = some (Stp.next s') ∧ s' = ((k + 1 : Nat) : Int) ∧ k + 1 ≤ K) ∨ ∃ x, (if b = true then if fits 8 (out.length + [(k : Int)].length) then some (Stp.exit (out ++ [(k : Int)])) else none else some (Stp.next (IntKind.wrap .i64 ((k : Int) + 1)))) = some (Stp.exit x) ∧ x = out ++ [(K : Int)] := by
          intro b hb
          cases b with
          | true =>
            rw [if_pos rfl, if_pos hfit]
            have : k = K := by
              apply Classical.byContradiction
              intro hne
              have := hmin (by omega) hkl
              rw [← hb] at this
              cases this
            exact .inr ⟨_, rfl, by rw [this]⟩
          | false =>
            rw [if_neg (by simp), hnx]
            refine .inl ⟨_, rfl, rfl, ?_⟩
            have : k ≠ K := fun e => by subst e; rw [hok] at hb; cases hb
            omega
        by_cases hlab : g.2.2[k].2.1 = lab w[i]
        · rw [if_pos (hde.2 hlab)]
          by_cases hb : (canB g (w.drop (i + 1))).getD g.2.2[k].2.2.toNat false = true
          · rw [if_pos hb]
            by_cases h0 : i = 0
            · rw [if_pos (by omega)]
              have hok2 : okE g (w.drop (i + 1)) w[i] (prevOf g out i) g.2.2[k] = true := by
                have hp0 : prevOf g out i = none := by unfold prevOf; rw [if_pos h0]
                rw [hp0]
                show (decide _ && _ && true) = true
                rw [hb, hlab]; simp
              have : k = K := by
                apply Classical.byContradiction
                intro hne
                have := hmin (by omega) hkl
                rw [hok2] at this
                cases this
              rw [if_pos trivial, if_pos hfit]
              exact .inr ⟨_, rfl, by rw [this]⟩
            · rw [if_neg (by omega)]
              have hio : idx out (IntKind.wrap .i64 ((i : Int) - 1)) = some (out[i - 1]'(by omega)) := by
                have := ix_pred (l := out) (i := i) 
                rw [w64 (by omega) (by omega), show ((i : Int) - 1) = ((i - 1 : Nat) : Int) by omega]
                exact ix (by omega)
              obtain ⟨z0, z1⟩ := hk0 _ (List.getElem_mem (show i - 1 < out.length by omega))
              obtain ⟨j, hj⟩ := Int.eq_ofNat_of_zero_le z0
              rw [hio]
              simp only [Option.bind_some, hj]
              rw [ix (by omega)]
              simp only [Option.bind_some]
              refine hgoal _ ?_
              have hpv : prevOf g out i = some (g.2.2[j]'(by omega)).2.2 := by
                unfold prevOf
                rw [if_neg h0]
                have e : out.getD (i - 1) 0 = (j : Int) := by simp [List.getD, show i - 1 < out.length by omega, hj]
                rw [e]
                simp [List.getD, show j < g.2.2.length by omega]
              rw [hpv]
              show _ = (decide _ && _ && decide _)
              rw [hb, hlab]; simp
          · rw [if_neg hb]
            refine hgoal false ?_
            have hb : (canB g (w.drop (i + 1))).getD g.2.2[k].2.2.toNat false = false := by simpa using hb
            show false = (_ && _ && _)
            rw [hb]; simp
        · rw [if_neg (fun h => hlab (hde.1 h))]
          refine hgoal false ?_
          show false = (decide _ && _ && _)
          rw [decide_eq_false hlab]; simp
      · rintro s ⟨rfl, hkK⟩
        omega
    obtain ⟨x, hx, rfl⟩ := hin
    rw [hx]
    simp only [Option.bind_some]
    have hprev : prevOf g (out ++ [(K : Int)]) (i + 1) = some (g.2.2.getD K (0, 0, 0)).2.2 := prevOf_succ ho
    have hgd : g.2.2.getD K (0, 0, 0) = g.2.2[K] := by simp [List.getD, hk]
    refine .inl ⟨_, rfl, out ++ [(K : Int)], by rw [e1], by simp [ho], ?_, ?_, fun k hkm => ?_⟩
    · rw [hprev, hp, List.append_assoc]; rfl
    · rw [hprev, hgd]; exact hfe2
    · rcases List.mem_append.1 hkm with h | h
      · exact hk0 k h
      · simp at h; subst h; omega
  · rintro s ⟨out, rfl, ho, hp, hfe, hk0⟩
    dsimp only
    rw [if_neg (not_lt_int _)]
    refine ⟨_, rfl, ?_⟩
    rw [hp, List.drop_length]
    simp [pathR]

/-- language.Path -/
theorem Path_eq (hv : VG g) (h16 : g.1 ≤ 16) {w : List UInt8} (hw : WOk g w) : (feas g none w → m_language_Path g w = some (pathR g none w, 0)) ∧ (¬ feas g none w → m_language_Path g w = some ([], 13)) := by
  obtain ⟨e, he, hz⟩ := spells_tot g w
  have h0 := hz.2 ⟨hv, h16, hw⟩
  subst h0
  have hl := hw.1
  have hs0 := hv.s0
  have hs1 := hv.s1
  have hx : m_language_Path g w = if true ∈ canB g w then some (pathR g none w, 0) else some ([], 13) := by
    have w1 : IntKind.wrap .i64 ((w.length : Int) + 1) = ((w.length + 1 : Nat) : Int) := by rw [w64 (by omega) (by omega)]; omega
    have hrep : m_slices_Repeat_Lbool_bool [true] g.2.1 = some (canB g []) := by
      unfold m_slices_Repeat_Lbool_bool
      rw [if_pos ⟨rfl, hs0, by omega⟩]
      rfl
    unfold m_language_Path
    rw [he]
    simp only [Option.bind_some, ne_eq, not_true_eq_false, if_false]
    rw [w1, if_pos (by omega), hrep]
    simp only [Option.bind_some, Int.toNat_natCast]
    rw [ix (by simp)]
    simp only [Option.bind_some]
    rw [canT_zero]
    refine bindL (path_table hv h16 hw) ?_
    have hg0 : idx (canT g w w.length) 0 = some (canB g w) := by
      have := canT_get (g := g) (w := w) (t := w.length) (j := 0) (Nat.zero_le _)
      simpa using this
    have hlen := canB_len (g := g) w
    rw [hg0]
    simp only [Option.bind_some, ContainsB_eq (show (canB g w).length ≤ 9223372036854775807 by omega)]
    by_cases hm : true ∈ canB g w
    · rw [if_pos hm, if_neg (by simp [hm])]
      exact bindL (path_walk hv h16 hw (can_mem.1 hm)) rfl
    · rw [if_neg hm, if_pos (by simp [hm])]
  refine ⟨fun hf => ?_, fun hf => ?_⟩
  · rw [hx, if_pos (can_mem.2 hf)]
  · rw [hx, if_neg (fun h => hf (can_mem.1 h))]
end
end Go.AW

/- Models, printed by lk.py. -/
namespace Go.AW
open Go
set_option linter.unusedVariables false
/-- slices.Equal[[]string,string] -/
noncomputable def m_slices_Equal_Lstring_string (p0 : List (List UInt8)) (p1 : List (List UInt8)) : Option (Bool) :=
  if ((p0).length : Int) ≠ ((p1).length : Int) then
    some false
  else
    lpO (loopW (S := Int) (X := Ou (Unit) (Bool)) (fun a1 =>
        if a1 < ((p0).length : Int) then
          (idx p0 a1).bind fun x5 =>
          (idx p1 a1).bind fun x7 =>
          if x5 ≠ x7 then
            some (Stp.exit (Ou.ret false))
          else
            some (Stp.next (IntKind.wrap .i64 (a1 + 1)))
        else
          some (Stp.exit (Ou.go ()))) 0) (fun a9 =>
        some true) some

/-- groove/groovelaw11.golden -/
noncomputable def m_law11_golden  : Option (TLabelsStatesEdges) :=
  some (2, 2, [(0, 0, 0), (0, 1, 1), (1, 0, 0)])

/-- groove/groovelaw11.awake -/
noncomputable def m_law11_awakeG  : Option (Bool) :=
  (m_law11_golden).bind fun x1 =>
  (m_language_Words x1 2).bind fun x3 =>
  (m_law11_golden).bind fun x5 =>
  (m_language_Missing x5 3).bind fun x7 =>
  (m_law11_golden).bind fun x9 =>
  (m_language_Path x9 [48, 49, 48]).bind fun x11 =>
  jp (fun (a13 : Bool) =>
    some a13)
    fun k15 =>
    if (max (max x3.2 x7.2.2) x11.2) = 0 then
      (m_slices_Equal_Lstring_string x3.1 [[48, 48], [48, 49], [49, 48]]).bind fun x16 =>
      if x16 = true then
        if x7.1 = [49, 49] then
          if x7.2.1 = true then
            (m_slices_Equal_Lint_int x11.1 [0, 1, 2]).bind fun x18 =>
            k15 x18
          else
            k15 false
        else
          k15 false
      else
        k15 false
    else
      k15 false

end Go.AW

/- The words of a length, by reading; the anchor of chapter 11. -/
namespace Go.AW
open Go
set_option linter.unusedSimpArgs false
set_option linter.unusedVariables false

theorem lvl_congr {f h : List Int → UInt8 → List Int} {cs : List UInt8} {A : List Int → Prop} {set : List Int} (hs : A set) (hA : ∀ a c, A a → c ∈ cs → A (f a c)) (he : ∀ a c, A a → c ∈ cs → f a c = h a c) : ∀ n, lvl f cs set n = lvl h cs set n
  | 0 => rfl
  | n + 1 => by
    simp only [lvl]
    rw [← lvl_congr hs hA he n]
    have hall : ∀ x ∈ lvl f cs set n, A x.2 := lvl_all hs hA n
    have hcs : ∀ (cs' : List UInt8), (∀ c ∈ cs', c ∈ cs) → ∀ x ∈ lvl f cs set n, ext1 f cs' x = ext1 h cs' x := by
      intro cs' hsub x hx
      unfold ext1
      induction cs' with
      | nil => rfl
      | cons c cs' ih =>
        rw [List.filterMap_cons, List.filterMap_cons, he x.2 c (hall x hx) (hsub c (List.mem_cons_self ..)), ih fun d hd => hsub d (List.mem_cons_of_mem _ hd)]
    have : ∀ l : List WS, (∀ x ∈ l, ext1 f cs x = ext1 h cs x) → l.flatMap (ext1 f cs) = l.flatMap (ext1 h cs) := by
      intro l hl
      induction l with
      | nil => rfl
      | cons x l ih => rw [List.flatMap_cons, List.flatMap_cons, hl x (List.mem_cons_self ..), ih fun y hy => hl y (List.mem_cons_of_mem _ hy)]
    exact this _ (hcs cs fun _ h => h)

section
variable {g : Gr}
def stpL (g : Gr) (a : List Int) (c : UInt8) : List Int := stepL g a (lab c)
theorem LV_lab (hv : VG g) {set : List Int} (hs : SetOk g set) (n : Nat) : LV g set n = lvl (stpL g) (lets g) set n := by
  refine lvl_congr (A := SetOk g) hs (fun a c ha hc => stpM_ok hv ha hc) (fun a c ha hc => ?_) n
  unfold stpM
  rw [step_lab hv ha hc]
  rfl

end

theorem EqS_eq {a b : List (List UInt8)} (hm : a.length ≤ 9223372036854775807) : m_slices_Equal_Lstring_string a b = some (decide (a = b)) := by
  unfold m_slices_Equal_Lstring_string
  by_cases hl : a.length = b.length
  · rw [if_neg (by omega)]
    refine lpL (loop_any (fun i => (i : Int)) a.length (fun i => decide (a.getD i [] ≠ b.getD i [])) (Ou.ret false) (Ou.go ()) (fun i hi => ?_) (by rw [if_neg (not_lt_int _)]) rfl) ?_
    · have hi' : i < b.length := by omega
      have e1 : a.getD i [] = a[i] := by simp [List.getD, hi]
      have e2 : b.getD i [] = b[i] := by simp [List.getD, hi']
      rw [if_pos (lt_int hi), ix hi, ix hi']
      simp only [Option.bind_some, nx hm hi, e1, e2, decide_eq_true_eq]
    · by_cases he : a = b
      · subst he
        rw [if_neg]
        · simp [lpO]
        · simp
      · rw [if_pos]
        · simp [lpO, he]
        · refine List.any_eq_true.2 ?_
          apply Classical.byContradiction
          intro hno
          refine he (List.ext_getElem hl fun i h1 h2 => ?_)
          apply Classical.byContradiction
          intro hne
          refine hno ⟨i, List.mem_range.2 h1, decide_eq_true ?_⟩
          rwa [show a.getD i [] = a[i] by simp [List.getD, h1], show b.getD i [] = b[i] by simp [List.getD, h2]]
  · rw [if_pos (by omega)]
    have : ¬ a = b := fun e => hl (by rw [e])
    simp [this]

theorem gT_ok : VG gT where
  l1 := by decide
  l2 := by decide
  s0 := by decide
  s1 := by decide
  el := by decide
  ed := by decide
  ord := fun i h => match i, h with
    | 0, _ => show cmp3 (0, 0, 0) (0, 1, 1) < 0 by decide
    | 1, _ => show cmp3 (0, 1, 1) (1, 0, 0) < 0 by decide
    | _ + 2, h => absurd h (by simp [gT])

theorem awake11_eq : m_law11_awakeG = some true := by
  have h1 : m_language_Words gT 2 = some ([[48, 48], [48, 49], [49, 48]], 0) := by
    obtain ⟨r, hr, _, h2, h3⟩ := Words_both gT 2
    have hs := upto_ok gT
    have e0 : ∀ n, LV gT (upto gT.2.1) n = lvl (stpL gT) (lets gT) (upto gT.2.1) n := LV_lab gT_ok hs
    have h0 := h3 gT_ok (by decide) (by decide) (by decide) (OKL_iff.2 fun j j1 j2 => by
      rw [e0]
      have : j = 1 ∨ j = 2 := by have : (2 : Int).toNat = 2 := rfl; omega
      rcases this with rfl | rfl <;> decide)
    obtain ⟨_, hw⟩ := h2 h0
    have e1 : wordsE gT 2 = [[48, 48], [48, 49], [49, 48]] := by
      unfold wordsE
      rw [e0]
      decide
    rw [hr]
    obtain ⟨r1, r2⟩ := r
    dsimp only at h0 hw
    rw [h0, hw, e1]
  have h2 : m_language_Path gT [48, 49, 48] = some ([0, 1, 2], 0) := by
    have h := (Path_eq gT_ok (by decide) (w := [48, 49, 48]) ⟨by decide, by decide⟩).1 (can_mem.1 (by decide))
    have e : pathR gT none [48, 49, 48] = [0, 1, 2] := by decide
    rw [e] at h
    exact h
  have h3 : m_language_Missing gT 3 = some ([49, 49], true, 0) := rfl
  have h4 : m_law11_golden = some gT := rfl
  unfold m_law11_awakeG
  simp only [h4, Option.bind_some, h1, h2, h3, jp]
  rw [EqS_eq (by decide), EqI_eq (by decide)]
  decide
end Go.AW

/- The letters that can follow in a set of states. -/
namespace Go.AW
open Go
open Classical in
noncomputable def m_language_collect (g : TLabelsStatesEdges) (set : List Int) : Option (List UInt8) :=
  if 0 ≤ g.1 ∧ g.1 ≤ 16 ∧ ∀ c ∈ letters.take g.1.toNat, ∃ b, m_language_step g set (c.toNat : Int) = some b then
    some ((letters.take g.1.toNat).filter fun c => decide (stpM g set c ≠ []))
  else none
end Go.AW

/- Models, printed by lk.py. -/
namespace Go.AW
open Go
set_option linter.unusedVariables false
/-- groove/language.Letters -/
noncomputable def m_language_Letters (p0 : TLabelsStatesEdges) (p1 : List UInt8) : Option ((List UInt8) × Int) :=
  (m_language_spells p0 p1).bind fun x1 =>
  if x1 ≠ 0 then
    some (([] : List UInt8), x1)
  else
    (m_language_states p0).bind fun x5 =>
    (m_language_ends p0 x5 p1).bind fun x7 =>
    (m_language_collect p0 x7).bind fun x10 =>
    if (([] : List UInt8) ++ x10).length ≤ 1048576 then
      some (([] : List UInt8) ++ x10, 0)
    else none

/-- groove/groovelaw11.LanguageLetters -/
noncomputable def m_law11_LanguageLetters (p0 : TLabelsStatesEdges) (p1 : List UInt8) : Option (Bool) :=
  jp (fun (a1 : Bool) =>
    if a1 = true then
      (m_law11_awake).bind fun x4 =>
      some x4
    else
      (m_language_Letters p0 p1).bind fun x6 =>
      lpO (loopW (S := (List UInt8) × Int) (X := Ou ((List UInt8)) (Bool)) (fun a8 =>
          if a8.2 < p0.1 then
            jp (fun (a12 : (List UInt8)) =>
              some (Stp.next (a12, IntKind.wrap .i64 (a8.2 + 1))))
              fun k14 =>
              if 0 ≤ (a8.2 : Int) ∧ (a8.2 : Int) ≤ IntKind.wrap .i64 (a8.2 + 1) ∧ IntKind.wrap .i64 (a8.2 + 1) ≤ (([48, 49, 50, 51, 52, 53, 54, 55, 56, 57, 97, 98, 99, 100, 101, 102] : List UInt8).length : Int) then
                if p1.length + ((([48, 49, 50, 51, 52, 53, 54, 55, 56, 57, 97, 98, 99, 100, 101, 102] : List UInt8).take (IntKind.wrap .i64 (a8.2 + 1)).toNat).drop (a8.2).toNat).length ≤ maxLen then
                  (m_language_Accepts p0 (p1 ++ ((([48, 49, 50, 51, 52, 53, 54, 55, 56, 57, 97, 98, 99, 100, 101, 102] : List UInt8).take (IntKind.wrap .i64 (a8.2 + 1)).toNat).drop (a8.2).toNat))).bind fun x17 =>
                  if x17.2 ≠ 0 then
                    some (Stp.exit (Ou.ret false))
                  else
                    if x17.1 = true then
                      if 0 ≤ (a8.2 : Int) ∧ (a8.2 : Int) ≤ IntKind.wrap .i64 (a8.2 + 1) ∧ IntKind.wrap .i64 (a8.2 + 1) ≤ (([48, 49, 50, 51, 52, 53, 54, 55, 56, 57, 97, 98, 99, 100, 101, 102] : List UInt8).length : Int) then
                        if a8.1.length + ((([48, 49, 50, 51, 52, 53, 54, 55, 56, 57, 97, 98, 99, 100, 101, 102] : List UInt8).take (IntKind.wrap .i64 (a8.2 + 1)).toNat).drop (a8.2).toNat).length ≤ maxLen then
                          k14 (a8.1 ++ ((([48, 49, 50, 51, 52, 53, 54, 55, 56, 57, 97, 98, 99, 100, 101, 102] : List UInt8).take (IntKind.wrap .i64 (a8.2 + 1)).toNat).drop (a8.2).toNat))
                        else none
                      else none
                    else
                      k14 a8.1
                else none
              else none
          else
            some (Stp.exit (Ou.go a8.1))) (([] : List UInt8), 0)) (fun a21 =>
          jp (fun (a23 : Bool) =>
            some a23)
            fun k25 =>
            if x6.2 = 0 then
              if x6.1 = a21 then
                (m_law11_awake).bind fun x26 =>
                k25 x26
              else
                k25 false
            else
              k25 false) some)
    fun k3 =>
    (m_law11_fine p0).bind fun x30 =>
    if (!x30) = true then
      k3 true
    else
      if 12 < ((p1).length : Int) then
        k3 true
      else
        (m_word_Check p0.1 p1).bind fun x32 =>
        k3 (decide (x32 ≠ 0))

end Go.AW

/- The law of letters. -/
namespace Go.AW
open Go
set_option linter.unusedSimpArgs false
set_option linter.unusedVariables false

theorem Letters_eq {g : Gr} (hv : VG g) (h16 : g.1 ≤ 16) {w : List UInt8} (hw : WOk g w) : m_language_Letters g w = some ((lets g).filter fun c => decide (stepL g (endsL g (upto g.2.1) w) (lab c) ≠ []), 0) := by
  obtain ⟨e, he, hz⟩ := spells_tot g w
  have h0 := hz.2 ⟨hv, h16, hw⟩
  subst h0
  have hl1 := hv.l1
  have hok := endsL_ok (upto_ok g) w
  unfold m_language_Letters
  rw [he]
  simp only [Option.bind_some, ne_eq, not_true_eq_false, if_false, states_eq hv, ends_eq hv (upto_ok g) hw]
  have hc : m_language_collect g (endsL g (upto g.2.1) w) = some ((lets g).filter fun c => decide (stepL g (endsL g (upto g.2.1) w) (lab c) ≠ [])) := by
    unfold m_language_collect
    rw [if_pos ⟨by omega, h16, fun c hc => ⟨_, step_lab hv hok hc⟩⟩]
    congr 1
    refine List.filter_congr fun c hc => ?_
    unfold stpM
    rw [step_lab hv hok hc]
    rfl
  rw [hc]
  simp only [Option.bind_some]
  have hlen : ((lets g).filter fun c => decide (stepL g (endsL g (upto g.2.1) w) (lab c) ≠ [])).length ≤ 16 := by
    refine Nat.le_trans (List.length_filter_le _ _) ?_
    rw [lets_len hv h16]; omega
  rw [if_pos (by rw [List.nil_append]; omega), List.nil_append]

theorem law_letters (g : Gr) (w : List UInt8) : m_law11_LanguageLetters g w = some true := by
  obtain ⟨b, hb, hb2⟩ := fine_tot g
  obtain ⟨e, he, hz⟩ := wcheck g.1 w
  unfold m_law11_LanguageLetters
  simp only [jp, hb, he, Option.bind_some, m_law11_awake, if_true]
  by_cases hbt : (!b) = true
  · rw [if_pos hbt]
  rw [if_neg hbt]
  by_cases h12 : 12 < (w.length : Int)
  · rw [if_pos h12]
  rw [if_neg h12]
  by_cases he0 : e = 0
  case neg => rw [if_pos (decide_eq_true he0)]
  rw [if_neg (by simp [he0])]
  obtain ⟨hv, h16, h8, h30⟩ := hb2 (by simpa using hbt)
  obtain ⟨_, hw⟩ := hz.1 he0
  have hw : WOk g w := hw
  have hl1 := hv.l1
  rw [Letters_eq hv h16 hw]
  simp only [Option.bind_some]
  obtain ⟨L, hL⟩ := Int.eq_ofNat_of_zero_le (show 0 ≤ g.1 by omega)
  have hL16 : L ≤ letters.length := by rw [letters_len]; omega
  have htn : g.1.toNat = L := by omega
  let p : UInt8 → Bool := fun c => decide (stepL g (endsL g (upto g.2.1) w) (lab c) ≠ [])
  have hwl := hw.1
  refine lpL (loop_is (fun i => (((letters.take i).filter p), (i : Int))) L (Ou.go ((lets g).filter p)) (fun i hi => ?_) ?_ (by simp)) ?_
  · dsimp only
    have hil : i < letters.length := by omega
    have hil16 : i < 16 := hil
    have e16 : ([48, 49, 50, 51, 52, 53, 54, 55, 56, 57, 97, 98, 99, 100, 101, 102] : List UInt8) = letters := rfl
    rw [if_pos (by omega), nx (by omega : L ≤ _) hi, e16, if_pos (by rw [letters_len]; omega)]
    simp only [Int.toNat_natCast, one_letter hil]
    have hmem : letters[i] ∈ lets g := by
      unfold lets
      exact List.mem_take_iff_getElem.2 ⟨i, by omega, rfl⟩
    have hwo : WOk g (w ++ [letters[i]]) := ⟨by simp; omega, fun c hc => by
      rcases List.mem_append.1 hc with hc | hc
      · exact hw.2 c hc
      · simp at hc; subst hc; exact hmem⟩
    rw [if_pos (by simp only [List.length_cons, List.length_nil, maxLen]; omega)]
    have hacc := Accepts_eq hv h16 hwo
    refine bindL hacc ?_
    simp only [ne_eq, not_true_eq_false, if_false]
    have hend : endsL g (upto g.2.1) (w ++ [letters[i]]) = stepL g (endsL g (upto g.2.1) w) (lab letters[i]) := by rw [endsL_app]; rfl
    rw [hend]
    have htk : (letters.take (i + 1)).filter p = (letters.take i).filter p ++ if stepL g (endsL g (upto g.2.1) w) (lab letters[i]) = [] then [] else [letters[i]] := by
      rw [List.take_add_one, List.getElem?_eq_getElem hil, List.filter_append]
      congr 1
      show ([letters[i]] : List UInt8).filter p = _
      by_cases h : stepL g (endsL g (upto g.2.1) w) (lab letters[i]) = []
      · rw [if_pos h]; simp [p, h]
      · rw [if_neg h]; simp [p, h]
    have hfl : ((letters.take i).filter p).length ≤ 16 := by
      refine Nat.le_trans (List.length_filter_le _ _) ?_
      rw [List.length_take, letters_len]; omega
    by_cases h : stepL g (endsL g (upto g.2.1) w) (lab letters[i]) = []
    · rw [if_pos h, List.append_nil] at htk
      rw [if_neg (by simp [h]), htk]
    · rw [if_neg h] at htk
      rw [if_pos (by simp [h]), if_pos (by rw [letters_len]; omega), if_pos (by simp only [List.length_cons, List.length_nil, maxLen]; omega), htk]
      rfl
  · dsimp only
    rw [if_neg (by omega)]
    have : lets g = letters.take L := by unfold lets; rw [htn]
    rw [this]
  · refine lpGo11 ?_
    rw [if_pos rfl, if_pos trivial]
end Go.AW

namespace Go.AW
open Go Go.Proofs
theorem ty0 : ty Try.prog 0 = some { desc := TypeDesc.tuple #[], size := 1, bytes := 0, zero := Value.tuple #[] } := by kernel_rfl
theorem ty1 : ty Try.prog 1 = some { desc := TypeDesc.func #[] #[] false, size := 1, bytes := 8, zero := Value.nilFunc } := by kernel_rfl
theorem ty2 : ty Try.prog 2 = some { desc := TypeDesc.int IntKind.i64, size := 1, bytes := 8, zero := Value.int IntKind.i64 (0) } := by kernel_rfl
theorem ty3 : ty Try.prog 3 = some { desc := TypeDesc.int IntKind.i64, size := 1, bytes := 8, zero := Value.int IntKind.i64 (0) } := by kernel_rfl
theorem ty4 : ty Try.prog 4 = some { desc := TypeDesc.bool, size := 1, bytes := 1, zero := Value.bool false } := by kernel_rfl
theorem ty5 : ty Try.prog 5 = some { desc := TypeDesc.int IntKind.u8, size := 1, bytes := 1, zero := Value.int IntKind.u8 (0) } := by kernel_rfl
theorem ty6 : ty Try.prog 6 = some { desc := TypeDesc.int IntKind.u8, size := 1, bytes := 1, zero := Value.int IntKind.u8 (0) } := by kernel_rfl
theorem ty7 : ty Try.prog 7 = some { desc := TypeDesc.struct { toList := [{ name := "x", type := 2, offset := 0, embedded := false, tag := "", pkgPath := "runtime", byteOffset := 0 }, { name := "y", type := 3, offset := 1, embedded := false, tag := "", pkgPath := "runtime", byteOffset := 8 }, { name := "signed", type := 4, offset := 2, embedded := false, tag := "", pkgPath := "runtime", byteOffset := 16 }, { name := "code", type := 6, offset := 3, embedded := false, tag := "", pkgPath := "runtime", byteOffset := 17 }] }, size := 4, bytes := 24, zero := Value.agg { toList := [Value.int IntKind.i64 (0), Value.int IntKind.i64 (0), Value.bool false, Value.int IntKind.u8 (0)] } } := by kernel_rfl
theorem ty8 : ty Try.prog 8 = some { desc := TypeDesc.struct { toList := [{ name := "x", type := 2, offset := 0, embedded := false, tag := "", pkgPath := "runtime", byteOffset := 0 }, { name := "y", type := 3, offset := 1, embedded := false, tag := "", pkgPath := "runtime", byteOffset := 8 }, { name := "signed", type := 4, offset := 2, embedded := false, tag := "", pkgPath := "runtime", byteOffset := 16 }, { name := "code", type := 6, offset := 3, embedded := false, tag := "", pkgPath := "runtime", byteOffset := 17 }] }, size := 4, bytes := 24, zero := Value.agg { toList := [Value.int IntKind.i64 (0), Value.int IntKind.i64 (0), Value.bool false, Value.int IntKind.u8 (0)] } } := by kernel_rfl
theorem ty9 : ty Try.prog 9 = some { desc := TypeDesc.string, size := 1, bytes := 16, zero := Value.string { data := #[] } } := by kernel_rfl
theorem ty10 : ty Try.prog 10 = some { desc := TypeDesc.string, size := 1, bytes := 16, zero := Value.string { data := #[] } } := by kernel_rfl
theorem ty11 : ty Try.prog 11 = some { desc := TypeDesc.string, size := 1, bytes := 16, zero := Value.string { data := #[] } } := by kernel_rfl
theorem ty12 : ty Try.prog 12 = some { desc := TypeDesc.int IntKind.u64, size := 1, bytes := 8, zero := Value.int IntKind.u64 (0) } := by kernel_rfl
theorem ty13 : ty Try.prog 13 = some { desc := TypeDesc.struct { toList := [{ name := "msg", type := 9, offset := 0, embedded := false, tag := "", pkgPath := "runtime", byteOffset := 0 }, { name := "addr", type := 12, offset := 1, embedded := false, tag := "", pkgPath := "runtime", byteOffset := 16 }] }, size := 2, bytes := 24, zero := Value.agg #[Value.string { data := #[] }, Value.int IntKind.u64 (0)] } := by kernel_rfl
theorem ty14 : ty Try.prog 14 = some { desc := TypeDesc.struct { toList := [{ name := "msg", type := 9, offset := 0, embedded := false, tag := "", pkgPath := "runtime", byteOffset := 0 }, { name := "addr", type := 12, offset := 1, embedded := false, tag := "", pkgPath := "runtime", byteOffset := 16 }] }, size := 2, bytes := 24, zero := Value.agg #[Value.string { data := #[] }, Value.int IntKind.u64 (0)] } := by kernel_rfl
theorem ty15 : ty Try.prog 15 = some { desc := TypeDesc.pointer 234, size := 1, bytes := 8, zero := Value.pointer none } := by kernel_rfl
theorem ty16 : ty Try.prog 16 = some { desc := TypeDesc.pointer 237, size := 1, bytes := 8, zero := Value.pointer none } := by kernel_rfl
theorem ty17 : ty Try.prog 17 = some { desc := TypeDesc.pointer 244, size := 1, bytes := 8, zero := Value.pointer none } := by kernel_rfl
theorem ty18 : ty Try.prog 18 = some { desc := TypeDesc.struct { toList := [{ name := "typ", type := 17, offset := 0, embedded := false, tag := "", pkgPath := "internal/runtime/maps", byteOffset := 0 }] }, size := 1, bytes := 8, zero := Value.agg #[Value.pointer none] } := by kernel_rfl
theorem ty19 : ty Try.prog 19 = some { desc := TypeDesc.struct { toList := [{ name := "typ", type := 17, offset := 0, embedded := false, tag := "", pkgPath := "internal/runtime/maps", byteOffset := 0 }] }, size := 1, bytes := 8, zero := Value.agg #[Value.pointer none] } := by kernel_rfl
theorem ty20 : ty Try.prog 20 = some { desc := TypeDesc.interface #[], size := 1, bytes := 16, zero := Value.nilIface } := by kernel_rfl
theorem ty21 : ty Try.prog 21 = some { desc := TypeDesc.int IntKind.i32, size := 1, bytes := 4, zero := Value.int IntKind.i32 (0) } := by kernel_rfl
theorem ty22 : ty Try.prog 22 = some { desc := TypeDesc.slice 66, size := 1, bytes := 24, zero := Value.slice none 0 0 } := by kernel_rfl
theorem ty23 : ty Try.prog 23 = some { desc := TypeDesc.struct { toList := [{ name := "Labels", type := 3, offset := 0, embedded := false, tag := "", pkgPath := "", byteOffset := 0 }, { name := "States", type := 3, offset := 1, embedded := false, tag := "", pkgPath := "", byteOffset := 8 }, { name := "Edges", type := 22, offset := 2, embedded := false, tag := "", pkgPath := "", byteOffset := 16 }] }, size := 3, bytes := 40, zero := Value.agg #[Value.int IntKind.i64 (0), Value.int IntKind.i64 (0), Value.slice none 0 0] } := by kernel_rfl
theorem ty24 : ty Try.prog 24 = some { desc := TypeDesc.struct { toList := [{ name := "Labels", type := 3, offset := 0, embedded := false, tag := "", pkgPath := "", byteOffset := 0 }, { name := "States", type := 3, offset := 1, embedded := false, tag := "", pkgPath := "", byteOffset := 8 }, { name := "Edges", type := 22, offset := 2, embedded := false, tag := "", pkgPath := "", byteOffset := 16 }] }, size := 3, bytes := 40, zero := Value.agg #[Value.int IntKind.i64 (0), Value.int IntKind.i64 (0), Value.slice none 0 0] } := by kernel_rfl
theorem ty25 : ty Try.prog 25 = some { desc := TypeDesc.func #[24, 3] #[4] false, size := 1, bytes := 8, zero := Value.nilFunc } := by kernel_rfl
theorem ty26 : ty Try.prog 26 = some { desc := TypeDesc.func #[] #[4] false, size := 1, bytes := 8, zero := Value.nilFunc } := by kernel_rfl
theorem ty27 : ty Try.prog 27 = some { desc := TypeDesc.int IntKind.i64, size := 1, bytes := 8, zero := Value.int IntKind.i64 (0) } := by kernel_rfl
theorem ty28 : ty Try.prog 28 = some { desc := TypeDesc.tuple #[3, 27], size := 1, bytes := 0, zero := Value.tuple #[Value.int IntKind.i64 (0), Value.int IntKind.i64 (0)] } := by kernel_rfl
theorem ty29 : ty Try.prog 29 = some { desc := TypeDesc.func #[24, 3] #[3, 27] false, size := 1, bytes := 8, zero := Value.nilFunc } := by kernel_rfl
theorem ty30 : ty Try.prog 30 = some { desc := TypeDesc.slice 9, size := 1, bytes := 24, zero := Value.slice none 0 0 } := by kernel_rfl
theorem ty31 : ty Try.prog 31 = some { desc := TypeDesc.tuple #[30, 27], size := 1, bytes := 0, zero := Value.tuple #[Value.slice none 0 0, Value.int IntKind.i64 (0)] } := by kernel_rfl
theorem ty32 : ty Try.prog 32 = some { desc := TypeDesc.func #[24, 3, 3] #[30, 27] false, size := 1, bytes := 8, zero := Value.nilFunc } := by kernel_rfl
theorem ty33 : ty Try.prog 33 = some { desc := TypeDesc.func #[30, 30] #[4] false, size := 1, bytes := 8, zero := Value.nilFunc } := by kernel_rfl
theorem ty34 : ty Try.prog 34 = some { desc := TypeDesc.func #[24, 3, 3] #[4] false, size := 1, bytes := 8, zero := Value.nilFunc } := by kernel_rfl
theorem ty35 : ty Try.prog 35 = some { desc := TypeDesc.func #[9, 9] #[3, 27] false, size := 1, bytes := 8, zero := Value.nilFunc } := by kernel_rfl
theorem ty36 : ty Try.prog 36 = some { desc := TypeDesc.func #[9, 9, 9] #[4] false, size := 1, bytes := 8, zero := Value.nilFunc } := by kernel_rfl
theorem ty37 : ty Try.prog 37 = some { desc := TypeDesc.func #[30] #[4] false, size := 1, bytes := 8, zero := Value.nilFunc } := by kernel_rfl
theorem ty38 : ty Try.prog 38 = some { desc := TypeDesc.func #[30] #[3, 27] false, size := 1, bytes := 8, zero := Value.nilFunc } := by kernel_rfl
theorem ty39 : ty Try.prog 39 = some { desc := TypeDesc.func #[30, 3, 3] #[30] false, size := 1, bytes := 8, zero := Value.nilFunc } := by kernel_rfl
theorem ty40 : ty Try.prog 40 = some { desc := TypeDesc.func #[30] #[30] false, size := 1, bytes := 8, zero := Value.nilFunc } := by kernel_rfl
theorem ty41 : ty Try.prog 41 = some { desc := TypeDesc.func #[30, 5] #[4] false, size := 1, bytes := 8, zero := Value.nilFunc } := by kernel_rfl
theorem ty42 : ty Try.prog 42 = some { desc := TypeDesc.slice 3, size := 1, bytes := 24, zero := Value.slice none 0 0 } := by kernel_rfl
theorem ty43 : ty Try.prog 43 = some { desc := TypeDesc.tuple #[42, 27], size := 1, bytes := 0, zero := Value.tuple #[Value.slice none 0 0, Value.int IntKind.i64 (0)] } := by kernel_rfl
theorem ty44 : ty Try.prog 44 = some { desc := TypeDesc.func #[30] #[42, 27] false, size := 1, bytes := 8, zero := Value.nilFunc } := by kernel_rfl
theorem ty45 : ty Try.prog 45 = some { desc := TypeDesc.tuple #[3, 3, 27], size := 1, bytes := 0, zero := Value.tuple { toList := [Value.int IntKind.i64 (0), Value.int IntKind.i64 (0), Value.int IntKind.i64 (0)] } } := by kernel_rfl
theorem ty46 : ty Try.prog 46 = some { desc := TypeDesc.func #[30, 9] #[3, 3, 27] false, size := 1, bytes := 8, zero := Value.nilFunc } := by kernel_rfl
theorem ty47 : ty Try.prog 47 = some { desc := TypeDesc.func #[42, 42] #[4] false, size := 1, bytes := 8, zero := Value.nilFunc } := by kernel_rfl
theorem ty48 : ty Try.prog 48 = some { desc := TypeDesc.func #[30, 3] #[27] false, size := 1, bytes := 8, zero := Value.nilFunc } := by kernel_rfl
theorem ty49 : ty Try.prog 49 = some { desc := TypeDesc.func #[30, 9, 3] #[4] false, size := 1, bytes := 8, zero := Value.nilFunc } := by kernel_rfl
theorem ty50 : ty Try.prog 50 = some { desc := TypeDesc.func #[24] #[27] false, size := 1, bytes := 8, zero := Value.nilFunc } := by kernel_rfl
theorem ty51 : ty Try.prog 51 = some { desc := TypeDesc.func #[24, 3] #[30, 27] false, size := 1, bytes := 8, zero := Value.nilFunc } := by kernel_rfl
theorem ty52 : ty Try.prog 52 = some { desc := TypeDesc.func #[30, 9] #[4] false, size := 1, bytes := 8, zero := Value.nilFunc } := by kernel_rfl
theorem ty53 : ty Try.prog 53 = some { desc := TypeDesc.func #[24, 5, 5] #[4] false, size := 1, bytes := 8, zero := Value.nilFunc } := by kernel_rfl
theorem ty54 : ty Try.prog 54 = some { desc := TypeDesc.func #[24] #[4] false, size := 1, bytes := 8, zero := Value.nilFunc } := by kernel_rfl
theorem ty55 : ty Try.prog 55 = some { desc := TypeDesc.func #[24] #[42] false, size := 1, bytes := 8, zero := Value.nilFunc } := by kernel_rfl
theorem ty56 : ty Try.prog 56 = some { desc := TypeDesc.func #[24, 3, 3, 3] #[30, 27] false, size := 1, bytes := 8, zero := Value.nilFunc } := by kernel_rfl
theorem ty57 : ty Try.prog 57 = some { desc := TypeDesc.func #[30] #[] false, size := 1, bytes := 8, zero := Value.nilFunc } := by kernel_rfl
theorem ty58 : ty Try.prog 58 = some { desc := TypeDesc.func #[24, 5] #[4] false, size := 1, bytes := 8, zero := Value.nilFunc } := by kernel_rfl
theorem ty59 : ty Try.prog 59 = some { desc := TypeDesc.func #[3, 9] #[27] false, size := 1, bytes := 8, zero := Value.nilFunc } := by kernel_rfl
theorem ty60 : ty Try.prog 60 = some { desc := TypeDesc.tuple #[4, 27], size := 1, bytes := 0, zero := Value.tuple #[Value.bool false, Value.int IntKind.i64 (0)] } := by kernel_rfl
theorem ty61 : ty Try.prog 61 = some { desc := TypeDesc.func #[24, 9] #[4, 27] false, size := 1, bytes := 8, zero := Value.nilFunc } := by kernel_rfl
theorem ty62 : ty Try.prog 62 = some { desc := TypeDesc.func #[24, 42, 9] #[42, 27] false, size := 1, bytes := 8, zero := Value.nilFunc } := by kernel_rfl
theorem ty63 : ty Try.prog 63 = some { desc := TypeDesc.func #[24, 9, 5, 5] #[4] false, size := 1, bytes := 8, zero := Value.nilFunc } := by kernel_rfl
theorem ty64 : ty Try.prog 64 = some { desc := TypeDesc.func #[24, 9] #[42, 27] false, size := 1, bytes := 8, zero := Value.nilFunc } := by kernel_rfl
theorem ty65 : ty Try.prog 65 = some { desc := TypeDesc.struct { toList := [{ name := "From", type := 3, offset := 0, embedded := false, tag := "", pkgPath := "", byteOffset := 0 }, { name := "Label", type := 3, offset := 1, embedded := false, tag := "", pkgPath := "", byteOffset := 8 }, { name := "To", type := 3, offset := 2, embedded := false, tag := "", pkgPath := "", byteOffset := 16 }] }, size := 3, bytes := 24, zero := Value.agg { toList := [Value.int IntKind.i64 (0), Value.int IntKind.i64 (0), Value.int IntKind.i64 (0)] } } := by kernel_rfl
theorem ty66 : ty Try.prog 66 = some { desc := TypeDesc.struct { toList := [{ name := "From", type := 3, offset := 0, embedded := false, tag := "", pkgPath := "", byteOffset := 0 }, { name := "Label", type := 3, offset := 1, embedded := false, tag := "", pkgPath := "", byteOffset := 8 }, { name := "To", type := 3, offset := 2, embedded := false, tag := "", pkgPath := "", byteOffset := 16 }] }, size := 3, bytes := 24, zero := Value.agg { toList := [Value.int IntKind.i64 (0), Value.int IntKind.i64 (0), Value.int IntKind.i64 (0)] } } := by kernel_rfl
theorem ty67 : ty Try.prog 67 = some { desc := TypeDesc.func #[9, 5] #[3] false, size := 1, bytes := 8, zero := Value.nilFunc } := by kernel_rfl
theorem ty68 : ty Try.prog 68 = some { desc := TypeDesc.func #[24, 9] #[4] false, size := 1, bytes := 8, zero := Value.nilFunc } := by kernel_rfl
theorem ty69 : ty Try.prog 69 = some { desc := TypeDesc.tuple #[9, 27], size := 1, bytes := 0, zero := Value.tuple #[Value.string { data := #[] }, Value.int IntKind.i64 (0)] } := by kernel_rfl
theorem ty70 : ty Try.prog 70 = some { desc := TypeDesc.func #[24, 9] #[9, 27] false, size := 1, bytes := 8, zero := Value.nilFunc } := by kernel_rfl
theorem ty71 : ty Try.prog 71 = some { desc := TypeDesc.func #[3, 3] #[30, 27] false, size := 1, bytes := 8, zero := Value.nilFunc } := by kernel_rfl
theorem ty72 : ty Try.prog 72 = some { desc := TypeDesc.func #[30, 3] #[4, 27] false, size := 1, bytes := 8, zero := Value.nilFunc } := by kernel_rfl
theorem ty73 : ty Try.prog 73 = some { desc := TypeDesc.struct { toList := [{ name := "Neg", type := 4, offset := 0, embedded := false, tag := "", pkgPath := "", byteOffset := 0 }, { name := "Mag", type := 9, offset := 1, embedded := false, tag := "", pkgPath := "", byteOffset := 8 }] }, size := 2, bytes := 24, zero := Value.agg #[Value.bool false, Value.string { data := #[] }] } := by kernel_rfl
theorem ty74 : ty Try.prog 74 = some { desc := TypeDesc.struct { toList := [{ name := "Neg", type := 4, offset := 0, embedded := false, tag := "", pkgPath := "", byteOffset := 0 }, { name := "Mag", type := 9, offset := 1, embedded := false, tag := "", pkgPath := "", byteOffset := 8 }] }, size := 2, bytes := 24, zero := Value.agg #[Value.bool false, Value.string { data := #[] }] } := by kernel_rfl
theorem ty75 : ty Try.prog 75 = some { desc := TypeDesc.tuple #[74, 27], size := 1, bytes := 0, zero := Value.tuple { toList := [Value.agg #[Value.bool false, Value.string { data := #[] }], Value.int IntKind.i64 (0)] } } := by kernel_rfl
theorem ty76 : ty Try.prog 76 = some { desc := TypeDesc.func #[3, 3] #[74, 27] false, size := 1, bytes := 8, zero := Value.nilFunc } := by kernel_rfl
theorem ty77 : ty Try.prog 77 = some { desc := TypeDesc.func #[3] #[74] false, size := 1, bytes := 8, zero := Value.nilFunc } := by kernel_rfl
theorem ty78 : ty Try.prog 78 = some { desc := TypeDesc.func #[9] #[30, 27] false, size := 1, bytes := 8, zero := Value.nilFunc } := by kernel_rfl
theorem ty79 : ty Try.prog 79 = some { desc := TypeDesc.func #[5, 5] #[4] false, size := 1, bytes := 8, zero := Value.nilFunc } := by kernel_rfl
theorem ty80 : ty Try.prog 80 = some { desc := TypeDesc.slice 84, size := 1, bytes := 24, zero := Value.slice none 0 0 } := by kernel_rfl
theorem ty81 : ty Try.prog 81 = some { desc := TypeDesc.struct { toList := [{ name := "Letters", type := 3, offset := 0, embedded := false, tag := "", pkgPath := "", byteOffset := 0 }, { name := "Block", type := 3, offset := 1, embedded := false, tag := "", pkgPath := "", byteOffset := 8 }, { name := "Inputs", type := 3, offset := 2, embedded := false, tag := "", pkgPath := "", byteOffset := 16 }, { name := "Rows", type := 80, offset := 3, embedded := false, tag := "", pkgPath := "", byteOffset := 24 }] }, size := 4, bytes := 48, zero := Value.agg { toList := [Value.int IntKind.i64 (0), Value.int IntKind.i64 (0), Value.int IntKind.i64 (0), Value.slice none 0 0] } } := by kernel_rfl
theorem ty82 : ty Try.prog 82 = some { desc := TypeDesc.struct { toList := [{ name := "Letters", type := 3, offset := 0, embedded := false, tag := "", pkgPath := "", byteOffset := 0 }, { name := "Block", type := 3, offset := 1, embedded := false, tag := "", pkgPath := "", byteOffset := 8 }, { name := "Inputs", type := 3, offset := 2, embedded := false, tag := "", pkgPath := "", byteOffset := 16 }, { name := "Rows", type := 80, offset := 3, embedded := false, tag := "", pkgPath := "", byteOffset := 24 }] }, size := 4, bytes := 48, zero := Value.agg { toList := [Value.int IntKind.i64 (0), Value.int IntKind.i64 (0), Value.int IntKind.i64 (0), Value.slice none 0 0] } } := by kernel_rfl
theorem ty83 : ty Try.prog 83 = some { desc := TypeDesc.func #[80, 89] #[4] false, size := 1, bytes := 8, zero := Value.nilFunc } := by kernel_rfl
theorem ty84 : ty Try.prog 84 = some { desc := TypeDesc.slice 87, size := 1, bytes := 24, zero := Value.slice none 0 0 } := by kernel_rfl
theorem ty85 : ty Try.prog 85 = some { desc := TypeDesc.func #[84, 88] #[4] false, size := 1, bytes := 8, zero := Value.nilFunc } := by kernel_rfl
theorem ty86 : ty Try.prog 86 = some { desc := TypeDesc.struct { toList := [{ name := "To", type := 3, offset := 0, embedded := false, tag := "", pkgPath := "", byteOffset := 0 }, { name := "Word", type := 9, offset := 1, embedded := false, tag := "", pkgPath := "", byteOffset := 8 }] }, size := 2, bytes := 24, zero := Value.agg #[Value.int IntKind.i64 (0), Value.string { data := #[] }] } := by kernel_rfl
theorem ty87 : ty Try.prog 87 = some { desc := TypeDesc.struct { toList := [{ name := "To", type := 3, offset := 0, embedded := false, tag := "", pkgPath := "", byteOffset := 0 }, { name := "Word", type := 9, offset := 1, embedded := false, tag := "", pkgPath := "", byteOffset := 8 }] }, size := 2, bytes := 24, zero := Value.agg #[Value.int IntKind.i64 (0), Value.string { data := #[] }] } := by kernel_rfl
theorem ty88 : ty Try.prog 88 = some { desc := TypeDesc.func #[87] #[4] false, size := 1, bytes := 8, zero := Value.nilFunc } := by kernel_rfl
theorem ty89 : ty Try.prog 89 = some { desc := TypeDesc.func #[84] #[4] false, size := 1, bytes := 8, zero := Value.nilFunc } := by kernel_rfl
theorem ty90 : ty Try.prog 90 = some { desc := TypeDesc.func #[82, 3, 3] #[3, 27] false, size := 1, bytes := 8, zero := Value.nilFunc } := by kernel_rfl
theorem ty91 : ty Try.prog 91 = some { desc := TypeDesc.func #[82] #[27] false, size := 1, bytes := 8, zero := Value.nilFunc } := by kernel_rfl
theorem ty92 : ty Try.prog 92 = some { desc := TypeDesc.func #[82, 3, 3] #[4] false, size := 1, bytes := 8, zero := Value.nilFunc } := by kernel_rfl
theorem ty93 : ty Try.prog 93 = some { desc := TypeDesc.func #[9, 9] #[3] false, size := 1, bytes := 8, zero := Value.nilFunc } := by kernel_rfl
theorem ty94 : ty Try.prog 94 = some { desc := TypeDesc.func #[30] #[27] false, size := 1, bytes := 8, zero := Value.nilFunc } := by kernel_rfl
theorem ty95 : ty Try.prog 95 = some { desc := TypeDesc.func #[30] #[3] false, size := 1, bytes := 8, zero := Value.nilFunc } := by kernel_rfl
theorem ty96 : ty Try.prog 96 = some { desc := TypeDesc.func #[122] #[] false, size := 1, bytes := 8, zero := Value.nilFunc } := by kernel_rfl
theorem ty97 : ty Try.prog 97 = some { desc := TypeDesc.func #[122] #[] false, size := 1, bytes := 8, zero := Value.nilFunc } := by kernel_rfl
theorem ty98 : ty Try.prog 98 = some { desc := TypeDesc.func #[30] #[97] false, size := 1, bytes := 8, zero := Value.nilFunc } := by kernel_rfl
theorem ty99 : ty Try.prog 99 = some { desc := TypeDesc.tuple #[3, 3], size := 1, bytes := 0, zero := Value.tuple #[Value.int IntKind.i64 (0), Value.int IntKind.i64 (0)] } := by kernel_rfl
theorem ty100 : ty Try.prog 100 = some { desc := TypeDesc.func #[30, 101] #[3, 3] false, size := 1, bytes := 8, zero := Value.nilFunc } := by kernel_rfl
theorem ty101 : ty Try.prog 101 = some { desc := TypeDesc.func #[9] #[3] false, size := 1, bytes := 8, zero := Value.nilFunc } := by kernel_rfl
theorem ty102 : ty Try.prog 102 = some { desc := TypeDesc.func #[66, 66] #[3] false, size := 1, bytes := 8, zero := Value.nilFunc } := by kernel_rfl
theorem ty103 : ty Try.prog 103 = some { desc := TypeDesc.func #[24, 3] #[27] false, size := 1, bytes := 8, zero := Value.nilFunc } := by kernel_rfl
theorem ty104 : ty Try.prog 104 = some { desc := TypeDesc.map 9 42, size := 1, bytes := 8, zero := Value.map none } := by kernel_rfl
theorem ty105 : ty Try.prog 105 = some { desc := TypeDesc.tuple #[104, 4], size := 1, bytes := 0, zero := Value.tuple #[Value.map none, Value.bool false] } := by kernel_rfl
theorem ty106 : ty Try.prog 106 = some { desc := TypeDesc.func #[24, 42, 3] #[104, 4] false, size := 1, bytes := 8, zero := Value.nilFunc } := by kernel_rfl
theorem ty107 : ty Try.prog 107 = some { desc := TypeDesc.func #[109] #[30] false, size := 1, bytes := 8, zero := Value.nilFunc } := by kernel_rfl
theorem ty108 : ty Try.prog 108 = some { desc := TypeDesc.func #[164] #[] false, size := 1, bytes := 8, zero := Value.nilFunc } := by kernel_rfl
theorem ty109 : ty Try.prog 109 = some { desc := TypeDesc.func #[164] #[] false, size := 1, bytes := 8, zero := Value.nilFunc } := by kernel_rfl
theorem ty110 : ty Try.prog 110 = some { desc := TypeDesc.func #[104] #[109] false, size := 1, bytes := 8, zero := Value.nilFunc } := by kernel_rfl
theorem ty111 : ty Try.prog 111 = some { desc := TypeDesc.func #[9, 9] #[4] false, size := 1, bytes := 8, zero := Value.nilFunc } := by kernel_rfl
theorem ty112 : ty Try.prog 112 = some { desc := TypeDesc.func #[30, 9] #[3] false, size := 1, bytes := 8, zero := Value.nilFunc } := by kernel_rfl
theorem ty113 : ty Try.prog 113 = some { desc := TypeDesc.func #[] #[24] false, size := 1, bytes := 8, zero := Value.nilFunc } := by kernel_rfl
theorem ty114 : ty Try.prog 114 = some { desc := TypeDesc.tuple #[9, 4, 27], size := 1, bytes := 0, zero := Value.tuple { toList := [Value.string { data := #[] }, Value.bool false, Value.int IntKind.i64 (0)] } } := by kernel_rfl
theorem ty115 : ty Try.prog 115 = some { desc := TypeDesc.func #[24, 3] #[9, 4, 27] false, size := 1, bytes := 8, zero := Value.nilFunc } := by kernel_rfl
theorem ty116 : ty Try.prog 116 = some { desc := TypeDesc.func #[104, 118] #[] false, size := 1, bytes := 8, zero := Value.nilFunc } := by kernel_rfl
theorem ty117 : ty Try.prog 117 = some { desc := TypeDesc.func #[42, 3] #[4] false, size := 1, bytes := 8, zero := Value.nilFunc } := by kernel_rfl
theorem ty118 : ty Try.prog 118 = some { desc := TypeDesc.func #[9, 42] #[4] false, size := 1, bytes := 8, zero := Value.nilFunc } := by kernel_rfl
theorem ty119 : ty Try.prog 119 = some { desc := TypeDesc.func #[30, 3, 3, 3] #[] false, size := 1, bytes := 8, zero := Value.nilFunc } := by kernel_rfl
theorem ty120 : ty Try.prog 120 = some { desc := TypeDesc.func #[121] #[3] false, size := 1, bytes := 8, zero := Value.nilFunc } := by kernel_rfl
theorem ty121 : ty Try.prog 121 = some { desc := TypeDesc.int IntKind.u64, size := 1, bytes := 8, zero := Value.int IntKind.u64 (0) } := by kernel_rfl
theorem ty122 : ty Try.prog 122 = some { desc := TypeDesc.func #[3] #[4] false, size := 1, bytes := 8, zero := Value.nilFunc } := by kernel_rfl
theorem ty123 : ty Try.prog 123 = some { desc := TypeDesc.func #[24, 9] #[27] false, size := 1, bytes := 8, zero := Value.nilFunc } := by kernel_rfl
theorem ty124 : ty Try.prog 124 = some { desc := TypeDesc.func #[24, 42, 9] #[42] false, size := 1, bytes := 8, zero := Value.nilFunc } := by kernel_rfl
theorem ty125 : ty Try.prog 125 = some { desc := TypeDesc.func #[42] #[42] false, size := 1, bytes := 8, zero := Value.nilFunc } := by kernel_rfl
theorem ty126 : ty Try.prog 126 = some { desc := TypeDesc.slice 127, size := 1, bytes := 24, zero := Value.slice none 0 0 } := by kernel_rfl
theorem ty127 : ty Try.prog 127 = some { desc := TypeDesc.slice 4, size := 1, bytes := 24, zero := Value.slice none 0 0 } := by kernel_rfl
theorem ty128 : ty Try.prog 128 = some { desc := TypeDesc.func #[127, 3] #[127] false, size := 1, bytes := 8, zero := Value.nilFunc } := by kernel_rfl
theorem ty129 : ty Try.prog 129 = some { desc := TypeDesc.func #[127, 4] #[4] false, size := 1, bytes := 8, zero := Value.nilFunc } := by kernel_rfl
theorem ty130 : ty Try.prog 130 = some { desc := TypeDesc.pointer 133, size := 1, bytes := 8, zero := Value.pointer none } := by kernel_rfl
theorem ty131 : ty Try.prog 131 = some { desc := TypeDesc.slice 5, size := 1, bytes := 24, zero := Value.slice none 0 0 } := by kernel_rfl
theorem ty132 : ty Try.prog 132 = some { desc := TypeDesc.struct { toList := [{ name := "addr", type := 130, offset := 0, embedded := false, tag := "", pkgPath := "strings", byteOffset := 0 }, { name := "buf", type := 131, offset := 1, embedded := false, tag := "", pkgPath := "strings", byteOffset := 8 }] }, size := 2, bytes := 32, zero := Value.agg #[Value.pointer none, Value.slice none 0 0] } := by kernel_rfl
theorem ty133 : ty Try.prog 133 = some { desc := TypeDesc.struct { toList := [{ name := "addr", type := 130, offset := 0, embedded := false, tag := "", pkgPath := "strings", byteOffset := 0 }, { name := "buf", type := 131, offset := 1, embedded := false, tag := "", pkgPath := "strings", byteOffset := 8 }] }, size := 2, bytes := 32, zero := Value.agg #[Value.pointer none, Value.slice none 0 0] } := by kernel_rfl
theorem ty134 : ty Try.prog 134 = some { desc := TypeDesc.func #[24, 42, 138] #[] false, size := 1, bytes := 8, zero := Value.nilFunc } := by kernel_rfl
theorem ty135 : ty Try.prog 135 = some { desc := TypeDesc.interface #[("Error", 139)], size := 1, bytes := 16, zero := Value.nilIface } := by kernel_rfl
theorem ty136 : ty Try.prog 136 = some { desc := TypeDesc.interface #[("Error", 139)], size := 1, bytes := 16, zero := Value.nilIface } := by kernel_rfl
theorem ty137 : ty Try.prog 137 = some { desc := TypeDesc.func #[5] #[136] false, size := 1, bytes := 8, zero := Value.nilFunc } := by kernel_rfl
theorem ty138 : ty Try.prog 138 = some { desc := TypeDesc.func #[5] #[] false, size := 1, bytes := 8, zero := Value.nilFunc } := by kernel_rfl
theorem ty139 : ty Try.prog 139 = some { desc := TypeDesc.func #[] #[9] false, size := 1, bytes := 8, zero := Value.nilFunc } := by kernel_rfl
theorem ty140 : ty Try.prog 140 = some { desc := TypeDesc.func #[3, 3] #[27] false, size := 1, bytes := 8, zero := Value.nilFunc } := by kernel_rfl
theorem ty141 : ty Try.prog 141 = some { desc := TypeDesc.func #[30] #[27] true, size := 1, bytes := 8, zero := Value.nilFunc } := by kernel_rfl
theorem ty142 : ty Try.prog 142 = some { desc := TypeDesc.func #[3, 3] #[3] false, size := 1, bytes := 8, zero := Value.nilFunc } := by kernel_rfl
theorem ty143 : ty Try.prog 143 = some { desc := TypeDesc.func #[9, 9] #[142] false, size := 1, bytes := 8, zero := Value.nilFunc } := by kernel_rfl
theorem ty144 : ty Try.prog 144 = some { desc := TypeDesc.slice 74, size := 1, bytes := 24, zero := Value.slice none 0 0 } := by kernel_rfl
theorem ty145 : ty Try.prog 145 = some { desc := TypeDesc.func #[74, 74] #[74] false, size := 1, bytes := 8, zero := Value.nilFunc } := by kernel_rfl
theorem ty146 : ty Try.prog 146 = some { desc := TypeDesc.func #[3] #[] false, size := 1, bytes := 8, zero := Value.nilFunc } := by kernel_rfl
theorem ty147 : ty Try.prog 147 = some { desc := TypeDesc.int IntKind.u64, size := 1, bytes := 8, zero := Value.int IntKind.u64 (0) } := by kernel_rfl
theorem ty148 : ty Try.prog 148 = some { desc := TypeDesc.func #[4, 151] #[74] false, size := 1, bytes := 8, zero := Value.nilFunc } := by kernel_rfl
theorem ty149 : ty Try.prog 149 = some { desc := TypeDesc.int IntKind.u32, size := 1, bytes := 4, zero := Value.int IntKind.u32 (0) } := by kernel_rfl
theorem ty150 : ty Try.prog 150 = some { desc := TypeDesc.slice 149, size := 1, bytes := 24, zero := Value.slice none 0 0 } := by kernel_rfl
theorem ty151 : ty Try.prog 151 = some { desc := TypeDesc.slice 149, size := 1, bytes := 24, zero := Value.slice none 0 0 } := by kernel_rfl
theorem ty152 : ty Try.prog 152 = some { desc := TypeDesc.map 9 4, size := 1, bytes := 8, zero := Value.map none } := by kernel_rfl
theorem ty153 : ty Try.prog 153 = some { desc := TypeDesc.func #[9, 152] #[] false, size := 1, bytes := 8, zero := Value.nilFunc } := by kernel_rfl
theorem ty154 : ty Try.prog 154 = some { desc := TypeDesc.func #[152] #[109] false, size := 1, bytes := 8, zero := Value.nilFunc } := by kernel_rfl
theorem ty155 : ty Try.prog 155 = some { desc := TypeDesc.func #[80, 89] #[3] false, size := 1, bytes := 8, zero := Value.nilFunc } := by kernel_rfl
theorem ty156 : ty Try.prog 156 = some { desc := TypeDesc.func #[84, 88] #[3] false, size := 1, bytes := 8, zero := Value.nilFunc } := by kernel_rfl
theorem ty157 : ty Try.prog 157 = some { desc := TypeDesc.slice 30, size := 1, bytes := 24, zero := Value.slice none 0 0 } := by kernel_rfl
theorem ty158 : ty Try.prog 158 = some { desc := TypeDesc.func #[3, 3, 3, 9] #[] false, size := 1, bytes := 8, zero := Value.nilFunc } := by kernel_rfl
theorem ty159 : ty Try.prog 159 = some { desc := TypeDesc.slice 42, size := 1, bytes := 24, zero := Value.slice none 0 0 } := by kernel_rfl
theorem ty160 : ty Try.prog 160 = some { desc := TypeDesc.func #[3, 3] #[159] false, size := 1, bytes := 8, zero := Value.nilFunc } := by kernel_rfl
theorem ty161 : ty Try.prog 161 = some { desc := TypeDesc.tuple #[9, 3, 27], size := 1, bytes := 0, zero := Value.tuple { toList := [Value.string { data := #[] }, Value.int IntKind.i64 (0), Value.int IntKind.i64 (0)] } } := by kernel_rfl
theorem ty162 : ty Try.prog 162 = some { desc := TypeDesc.func #[82, 3, 42] #[9, 3, 27] false, size := 1, bytes := 8, zero := Value.nilFunc } := by kernel_rfl
theorem ty163 : ty Try.prog 163 = some { desc := TypeDesc.func #[24, 42, 5] #[42] false, size := 1, bytes := 8, zero := Value.nilFunc } := by kernel_rfl
theorem ty164 : ty Try.prog 164 = some { desc := TypeDesc.func #[9] #[4] false, size := 1, bytes := 8, zero := Value.nilFunc } := by kernel_rfl
theorem ty165 : ty Try.prog 165 = some { desc := TypeDesc.func #[166] #[102] false, size := 1, bytes := 8, zero := Value.nilFunc } := by kernel_rfl
theorem ty166 : ty Try.prog 166 = some { desc := TypeDesc.func #[66] #[42] false, size := 1, bytes := 8, zero := Value.nilFunc } := by kernel_rfl
theorem ty167 : ty Try.prog 167 = some { desc := TypeDesc.func #[42, 3] #[3] false, size := 1, bytes := 8, zero := Value.nilFunc } := by kernel_rfl
theorem ty168 : ty Try.prog 168 = some { desc := TypeDesc.func #[30, 3, 3] #[] false, size := 1, bytes := 8, zero := Value.nilFunc } := by kernel_rfl
theorem ty169 : ty Try.prog 169 = some { desc := TypeDesc.int IntKind.i64, size := 1, bytes := 8, zero := Value.int IntKind.i64 (0) } := by kernel_rfl
theorem ty170 : ty Try.prog 170 = some { desc := TypeDesc.tuple #[3, 169], size := 1, bytes := 0, zero := Value.tuple #[Value.int IntKind.i64 (0), Value.int IntKind.i64 (0)] } := by kernel_rfl
theorem ty171 : ty Try.prog 171 = some { desc := TypeDesc.func #[30, 3, 3] #[3, 169] false, size := 1, bytes := 8, zero := Value.nilFunc } := by kernel_rfl
theorem ty172 : ty Try.prog 172 = some { desc := TypeDesc.func #[30, 3, 3] #[4] false, size := 1, bytes := 8, zero := Value.nilFunc } := by kernel_rfl
theorem ty173 : ty Try.prog 173 = some { desc := TypeDesc.func #[30, 3, 3, 3] #[3] false, size := 1, bytes := 8, zero := Value.nilFunc } := by kernel_rfl
theorem ty174 : ty Try.prog 174 = some { desc := TypeDesc.tuple #[3, 4], size := 1, bytes := 0, zero := Value.tuple #[Value.int IntKind.i64 (0), Value.bool false] } := by kernel_rfl
theorem ty175 : ty Try.prog 175 = some { desc := TypeDesc.func #[30, 3, 3, 3] #[3, 4] false, size := 1, bytes := 8, zero := Value.nilFunc } := by kernel_rfl
theorem ty176 : ty Try.prog 176 = some { desc := TypeDesc.func #[149] #[3] false, size := 1, bytes := 8, zero := Value.nilFunc } := by kernel_rfl
theorem ty177 : ty Try.prog 177 = some { desc := TypeDesc.func #[147] #[3] false, size := 1, bytes := 8, zero := Value.nilFunc } := by kernel_rfl
theorem ty178 : ty Try.prog 178 = some { desc := TypeDesc.tuple #[121, 121], size := 1, bytes := 0, zero := Value.tuple #[Value.int IntKind.u64 (0), Value.int IntKind.u64 (0)] } := by kernel_rfl
theorem ty179 : ty Try.prog 179 = some { desc := TypeDesc.func #[121, 121] #[121, 121] false, size := 1, bytes := 8, zero := Value.nilFunc } := by kernel_rfl
theorem ty180 : ty Try.prog 180 = some { desc := TypeDesc.func #[127, 4] #[3] false, size := 1, bytes := 8, zero := Value.nilFunc } := by kernel_rfl
theorem ty181 : ty Try.prog 181 = some { desc := TypeDesc.pointer 5, size := 1, bytes := 8, zero := Value.pointer none } := by kernel_rfl
theorem ty182 : ty Try.prog 182 = some { desc := TypeDesc.func #[9, 3] #[9] false, size := 1, bytes := 8, zero := Value.nilFunc } := by kernel_rfl
theorem ty183 : ty Try.prog 183 = some { desc := TypeDesc.pointer 3, size := 1, bytes := 8, zero := Value.pointer none } := by kernel_rfl
theorem ty184 : ty Try.prog 184 = some { desc := TypeDesc.func #[74] #[151] false, size := 1, bytes := 8, zero := Value.nilFunc } := by kernel_rfl
theorem ty185 : ty Try.prog 185 = some { desc := TypeDesc.func #[151, 151] #[151] false, size := 1, bytes := 8, zero := Value.nilFunc } := by kernel_rfl
theorem ty186 : ty Try.prog 186 = some { desc := TypeDesc.func #[151, 151] #[3] false, size := 1, bytes := 8, zero := Value.nilFunc } := by kernel_rfl
theorem ty187 : ty Try.prog 187 = some { desc := TypeDesc.func #[151] #[151] false, size := 1, bytes := 8, zero := Value.nilFunc } := by kernel_rfl
theorem ty188 : ty Try.prog 188 = some { desc := TypeDesc.func #[5] #[3] false, size := 1, bytes := 8, zero := Value.nilFunc } := by kernel_rfl
theorem ty189 : ty Try.prog 189 = some { desc := TypeDesc.slice 211, size := 1, bytes := 24, zero := Value.slice none 0 0 } := by kernel_rfl
theorem ty190 : ty Try.prog 190 = some { desc := TypeDesc.tuple #[189, 27], size := 1, bytes := 0, zero := Value.tuple #[Value.slice none 0 0, Value.int IntKind.i64 (0)] } := by kernel_rfl
theorem ty191 : ty Try.prog 191 = some { desc := TypeDesc.func #[24, 42, 3] #[189, 27] false, size := 1, bytes := 8, zero := Value.nilFunc } := by kernel_rfl
theorem ty192 : ty Try.prog 192 = some { desc := TypeDesc.func #[189] #[30] false, size := 1, bytes := 8, zero := Value.nilFunc } := by kernel_rfl
theorem ty193 : ty Try.prog 193 = some { desc := TypeDesc.func #[24, 42, 3] #[42, 27] false, size := 1, bytes := 8, zero := Value.nilFunc } := by kernel_rfl
theorem ty194 : ty Try.prog 194 = some { desc := TypeDesc.func #[30, 109] #[30] false, size := 1, bytes := 8, zero := Value.nilFunc } := by kernel_rfl
theorem ty195 : ty Try.prog 195 = some { desc := TypeDesc.func #[42, 42] #[3] false, size := 1, bytes := 8, zero := Value.nilFunc } := by kernel_rfl
theorem ty196 : ty Try.prog 196 = some { desc := TypeDesc.int IntKind.u64, size := 1, bytes := 8, zero := Value.int IntKind.u64 (0) } := by kernel_rfl
theorem ty197 : ty Try.prog 197 = some { desc := TypeDesc.func #[3] #[121] false, size := 1, bytes := 8, zero := Value.nilFunc } := by kernel_rfl
theorem ty198 : ty Try.prog 198 = some { desc := TypeDesc.func #[] #[147] false, size := 1, bytes := 8, zero := Value.nilFunc } := by kernel_rfl
theorem ty199 : ty Try.prog 199 = some { desc := TypeDesc.func #[30, 3, 183] #[3] false, size := 1, bytes := 8, zero := Value.nilFunc } := by kernel_rfl
theorem ty200 : ty Try.prog 200 = some { desc := TypeDesc.func #[30, 3, 3, 3, 183] #[3] false, size := 1, bytes := 8, zero := Value.nilFunc } := by kernel_rfl
theorem ty201 : ty Try.prog 201 = some { desc := TypeDesc.tuple #[149, 149], size := 1, bytes := 0, zero := Value.tuple #[Value.int IntKind.u32 (0), Value.int IntKind.u32 (0)] } := by kernel_rfl
theorem ty202 : ty Try.prog 202 = some { desc := TypeDesc.func #[149, 149] #[149, 149] false, size := 1, bytes := 8, zero := Value.nilFunc } := by kernel_rfl
theorem ty203 : ty Try.prog 203 = some { desc := TypeDesc.tuple #[147, 147], size := 1, bytes := 0, zero := Value.tuple #[Value.int IntKind.u64 (0), Value.int IntKind.u64 (0)] } := by kernel_rfl
theorem ty204 : ty Try.prog 204 = some { desc := TypeDesc.func #[147, 147] #[147, 147] false, size := 1, bytes := 8, zero := Value.nilFunc } := by kernel_rfl
theorem ty206 : ty Try.prog 206 = some { desc := TypeDesc.func #[205] #[205] false, size := 1, bytes := 8, zero := Value.nilFunc } := by kernel_rfl
theorem ty207 : ty Try.prog 207 = some { desc := TypeDesc.tuple #[3, 136], size := 1, bytes := 0, zero := Value.tuple #[Value.int IntKind.i64 (0), Value.nilIface] } := by kernel_rfl
theorem ty208 : ty Try.prog 208 = some { desc := TypeDesc.func #[9] #[3, 136] false, size := 1, bytes := 8, zero := Value.nilFunc } := by kernel_rfl
theorem ty209 : ty Try.prog 209 = some { desc := TypeDesc.func #[] #[3] false, size := 1, bytes := 8, zero := Value.nilFunc } := by kernel_rfl
theorem ty210 : ty Try.prog 210 = some { desc := TypeDesc.struct { toList := [{ name := "Word", type := 9, offset := 0, embedded := false, tag := "", pkgPath := "", byteOffset := 0 }, { name := "Ends", type := 42, offset := 1, embedded := false, tag := "", pkgPath := "", byteOffset := 16 }] }, size := 2, bytes := 40, zero := Value.agg #[Value.string { data := #[] }, Value.slice none 0 0] } := by kernel_rfl
theorem ty211 : ty Try.prog 211 = some { desc := TypeDesc.struct { toList := [{ name := "Word", type := 9, offset := 0, embedded := false, tag := "", pkgPath := "", byteOffset := 0 }, { name := "Ends", type := 42, offset := 1, embedded := false, tag := "", pkgPath := "", byteOffset := 16 }] }, size := 2, bytes := 40, zero := Value.agg #[Value.string { data := #[] }, Value.slice none 0 0] } := by kernel_rfl
theorem ty212 : ty Try.prog 212 = some { desc := TypeDesc.func #[24, 189] #[189] false, size := 1, bytes := 8, zero := Value.nilFunc } := by kernel_rfl
theorem ty213 : ty Try.prog 213 = some { desc := TypeDesc.func #[24, 42] #[27] false, size := 1, bytes := 8, zero := Value.nilFunc } := by kernel_rfl
theorem ty214 : ty Try.prog 214 = some { desc := TypeDesc.func #[221] #[] false, size := 1, bytes := 8, zero := Value.nilFunc } := by kernel_rfl
theorem ty215 : ty Try.prog 215 = some { desc := TypeDesc.func #[221] #[] false, size := 1, bytes := 8, zero := Value.nilFunc } := by kernel_rfl
theorem ty216 : ty Try.prog 216 = some { desc := TypeDesc.func #[24, 3] #[215] false, size := 1, bytes := 8, zero := Value.nilFunc } := by kernel_rfl
theorem ty217 : ty Try.prog 217 = some { desc := TypeDesc.func #[42] #[] false, size := 1, bytes := 8, zero := Value.nilFunc } := by kernel_rfl
theorem ty218 : ty Try.prog 218 = some { desc := TypeDesc.pointer 196, size := 1, bytes := 8, zero := Value.pointer none } := by kernel_rfl
theorem ty219 : ty Try.prog 219 = some { desc := TypeDesc.func #[30, 3, 3, 183] #[3, 3] false, size := 1, bytes := 8, zero := Value.nilFunc } := by kernel_rfl
theorem ty220 : ty Try.prog 220 = some { desc := TypeDesc.func #[24, 42, 3] #[42] false, size := 1, bytes := 8, zero := Value.nilFunc } := by kernel_rfl
theorem ty221 : ty Try.prog 221 = some { desc := TypeDesc.func #[3, 66] #[4] false, size := 1, bytes := 8, zero := Value.nilFunc } := by kernel_rfl
theorem ty222 : ty Try.prog 222 = some { desc := TypeDesc.func #[42, 3, 3, 3] #[] false, size := 1, bytes := 8, zero := Value.nilFunc } := by kernel_rfl
theorem ty223 : ty Try.prog 223 = some { desc := TypeDesc.func #[3] #[131] false, size := 1, bytes := 8, zero := Value.nilFunc } := by kernel_rfl
theorem ty224 : ty Try.prog 224 = some { desc := TypeDesc.func #[42, 3, 3] #[] false, size := 1, bytes := 8, zero := Value.nilFunc } := by kernel_rfl
theorem ty225 : ty Try.prog 225 = some { desc := TypeDesc.func #[42, 3, 3] #[3, 169] false, size := 1, bytes := 8, zero := Value.nilFunc } := by kernel_rfl
theorem ty226 : ty Try.prog 226 = some { desc := TypeDesc.func #[42, 3, 3] #[4] false, size := 1, bytes := 8, zero := Value.nilFunc } := by kernel_rfl
theorem ty227 : ty Try.prog 227 = some { desc := TypeDesc.func #[3, 3] #[4] false, size := 1, bytes := 8, zero := Value.nilFunc } := by kernel_rfl
theorem ty228 : ty Try.prog 228 = some { desc := TypeDesc.func #[42, 3, 3, 3] #[3] false, size := 1, bytes := 8, zero := Value.nilFunc } := by kernel_rfl
theorem ty229 : ty Try.prog 229 = some { desc := TypeDesc.func #[42, 3, 3, 3] #[3, 4] false, size := 1, bytes := 8, zero := Value.nilFunc } := by kernel_rfl
theorem ty230 : ty Try.prog 230 = some { desc := TypeDesc.func #[42, 3, 183] #[3] false, size := 1, bytes := 8, zero := Value.nilFunc } := by kernel_rfl
theorem ty231 : ty Try.prog 231 = some { desc := TypeDesc.func #[42, 3, 3, 3, 183] #[3] false, size := 1, bytes := 8, zero := Value.nilFunc } := by kernel_rfl
theorem ty232 : ty Try.prog 232 = some { desc := TypeDesc.func #[42, 3, 3, 183] #[3, 3] false, size := 1, bytes := 8, zero := Value.nilFunc } := by kernel_rfl
theorem ty233 : ty Try.prog 233 = some { desc := TypeDesc.struct { toList := [{ name := "_interface", type := 17, offset := 0, embedded := false, tag := "", pkgPath := "runtime", byteOffset := 0 }, { name := "concrete", type := 17, offset := 1, embedded := false, tag := "", pkgPath := "runtime", byteOffset := 8 }, { name := "asserted", type := 17, offset := 2, embedded := false, tag := "", pkgPath := "runtime", byteOffset := 16 }, { name := "missingMethod", type := 9, offset := 3, embedded := false, tag := "", pkgPath := "runtime", byteOffset := 24 }] }, size := 4, bytes := 40, zero := Value.agg { toList := [Value.pointer none, Value.pointer none, Value.pointer none, Value.string { data := #[] }] } } := by kernel_rfl
theorem ty234 : ty Try.prog 234 = some { desc := TypeDesc.struct { toList := [{ name := "_interface", type := 17, offset := 0, embedded := false, tag := "", pkgPath := "runtime", byteOffset := 0 }, { name := "concrete", type := 17, offset := 1, embedded := false, tag := "", pkgPath := "runtime", byteOffset := 8 }, { name := "asserted", type := 17, offset := 2, embedded := false, tag := "", pkgPath := "runtime", byteOffset := 16 }, { name := "missingMethod", type := 9, offset := 3, embedded := false, tag := "", pkgPath := "runtime", byteOffset := 24 }] }, size := 4, bytes := 40, zero := Value.agg { toList := [Value.pointer none, Value.pointer none, Value.pointer none, Value.string { data := #[] }] } } := by kernel_rfl
theorem ty235 : ty Try.prog 235 = some { desc := TypeDesc.array 0 16, size := 0, bytes := 0, zero := Value.agg #[] } := by kernel_rfl
theorem ty236 : ty Try.prog 236 = some { desc := TypeDesc.struct { toList := [{ name := "_", type := 235, offset := 0, embedded := false, tag := "", pkgPath := "runtime", byteOffset := 0 }] }, size := 0, bytes := 0, zero := Value.agg #[] } := by kernel_rfl
theorem ty237 : ty Try.prog 237 = some { desc := TypeDesc.struct { toList := [{ name := "_", type := 235, offset := 0, embedded := false, tag := "", pkgPath := "runtime", byteOffset := 0 }] }, size := 0, bytes := 0, zero := Value.agg #[] } := by kernel_rfl
theorem ty238 : ty Try.prog 238 = some { desc := TypeDesc.int IntKind.u8, size := 1, bytes := 1, zero := Value.int IntKind.u8 (0) } := by kernel_rfl
theorem ty239 : ty Try.prog 239 = some { desc := TypeDesc.int IntKind.u8, size := 1, bytes := 1, zero := Value.int IntKind.u8 (0) } := by kernel_rfl
theorem ty240 : ty Try.prog 240 = some { desc := TypeDesc.func #[205, 205] #[4] false, size := 1, bytes := 8, zero := Value.nilFunc } := by kernel_rfl
theorem ty241 : ty Try.prog 241 = some { desc := TypeDesc.int IntKind.i32, size := 1, bytes := 4, zero := Value.int IntKind.i32 (0) } := by kernel_rfl
theorem ty242 : ty Try.prog 242 = some { desc := TypeDesc.int IntKind.i32, size := 1, bytes := 4, zero := Value.int IntKind.i32 (0) } := by kernel_rfl
theorem ty243 : ty Try.prog 243 = some { desc := TypeDesc.struct { toList := [{ name := "Size_", type := 12, offset := 0, embedded := false, tag := "", pkgPath := "", byteOffset := 0 }, { name := "PtrBytes", type := 12, offset := 1, embedded := false, tag := "", pkgPath := "", byteOffset := 8 }, { name := "Hash", type := 149, offset := 2, embedded := false, tag := "", pkgPath := "", byteOffset := 16 }, { name := "TFlag", type := 238, offset := 3, embedded := false, tag := "", pkgPath := "", byteOffset := 20 }, { name := "Align_", type := 5, offset := 4, embedded := false, tag := "", pkgPath := "", byteOffset := 21 }, { name := "FieldAlign_", type := 5, offset := 5, embedded := false, tag := "", pkgPath := "", byteOffset := 22 }, { name := "Kind_", type := 239, offset := 6, embedded := false, tag := "", pkgPath := "", byteOffset := 23 }, { name := "Equal", type := 240, offset := 7, embedded := false, tag := "", pkgPath := "", byteOffset := 24 }, { name := "GCData", type := 181, offset := 8, embedded := false, tag := "", pkgPath := "", byteOffset := 32 }, { name := "Str", type := 241, offset := 9, embedded := false, tag := "", pkgPath := "", byteOffset := 40 }, { name := "PtrToThis", type := 242, offset := 10, embedded := false, tag := "", pkgPath := "", byteOffset := 44 }] }, size := 11, bytes := 48, zero := Value.agg { toList := [Value.int IntKind.u64 (0), Value.int IntKind.u64 (0), Value.int IntKind.u32 (0), Value.int IntKind.u8 (0), Value.int IntKind.u8 (0), Value.int IntKind.u8 (0), Value.int IntKind.u8 (0), Value.nilFunc, Value.pointer none, Value.int IntKind.i32 (0), Value.int IntKind.i32 (0)] } } := by kernel_rfl
theorem ty244 : ty Try.prog 244 = some { desc := TypeDesc.struct { toList := [{ name := "Size_", type := 12, offset := 0, embedded := false, tag := "", pkgPath := "", byteOffset := 0 }, { name := "PtrBytes", type := 12, offset := 1, embedded := false, tag := "", pkgPath := "", byteOffset := 8 }, { name := "Hash", type := 149, offset := 2, embedded := false, tag := "", pkgPath := "", byteOffset := 16 }, { name := "TFlag", type := 238, offset := 3, embedded := false, tag := "", pkgPath := "", byteOffset := 20 }, { name := "Align_", type := 5, offset := 4, embedded := false, tag := "", pkgPath := "", byteOffset := 21 }, { name := "FieldAlign_", type := 5, offset := 5, embedded := false, tag := "", pkgPath := "", byteOffset := 22 }, { name := "Kind_", type := 239, offset := 6, embedded := false, tag := "", pkgPath := "", byteOffset := 23 }, { name := "Equal", type := 240, offset := 7, embedded := false, tag := "", pkgPath := "", byteOffset := 24 }, { name := "GCData", type := 181, offset := 8, embedded := false, tag := "", pkgPath := "", byteOffset := 32 }, { name := "Str", type := 241, offset := 9, embedded := false, tag := "", pkgPath := "", byteOffset := 40 }, { name := "PtrToThis", type := 242, offset := 10, embedded := false, tag := "", pkgPath := "", byteOffset := 44 }] }, size := 11, bytes := 48, zero := Value.agg { toList := [Value.int IntKind.u64 (0), Value.int IntKind.u64 (0), Value.int IntKind.u32 (0), Value.int IntKind.u8 (0), Value.int IntKind.u8 (0), Value.int IntKind.u8 (0), Value.int IntKind.u8 (0), Value.nilFunc, Value.pointer none, Value.int IntKind.i32 (0), Value.int IntKind.i32 (0)] } } := by kernel_rfl
attribute [go_sem] ty0 ty1 ty2 ty3 ty4 ty5 ty6 ty7 ty8 ty9 ty10 ty11 ty12 ty13 ty14 ty15 ty16 ty17 ty18 ty19 ty20 ty21 ty22 ty23 ty24 ty25 ty26 ty27 ty28 ty29 ty30 ty31 ty32 ty33 ty34 ty35 ty36 ty37 ty38 ty39 ty40 ty41 ty42 ty43 ty44 ty45 ty46 ty47 ty48 ty49 ty50 ty51 ty52 ty53 ty54 ty55 ty56 ty57 ty58 ty59 ty60 ty61 ty62 ty63 ty64 ty65 ty66 ty67 ty68 ty69 ty70 ty71 ty72 ty73 ty74 ty75 ty76 ty77 ty78 ty79 ty80 ty81 ty82 ty83 ty84 ty85 ty86 ty87 ty88 ty89 ty90 ty91 ty92 ty93 ty94 ty95 ty96 ty97 ty98 ty99 ty100 ty101 ty102 ty103 ty104 ty105 ty106 ty107 ty108 ty109 ty110 ty111 ty112 ty113 ty114 ty115 ty116 ty117 ty118 ty119 ty120 ty121 ty122 ty123 ty124 ty125 ty126 ty127 ty128 ty129 ty130 ty131 ty132 ty133 ty134 ty135 ty136 ty137 ty138 ty139 ty140 ty141 ty142 ty143 ty144 ty145 ty146 ty147 ty148 ty149 ty150 ty151 ty152 ty153 ty154 ty155 ty156 ty157 ty158 ty159 ty160 ty161 ty162 ty163 ty164 ty165 ty166 ty167 ty168 ty169 ty170 ty171 ty172 ty173 ty174 ty175 ty176 ty177 ty178 ty179 ty180 ty181 ty182 ty183 ty184 ty185 ty186 ty187 ty188 ty189 ty190 ty191 ty192 ty193 ty194 ty195 ty196 ty197 ty198 ty199 ty200 ty201 ty202 ty203 ty204 ty206 ty207 ty208 ty209 ty210 ty211 ty212 ty213 ty214 ty215 ty216 ty217 ty218 ty219 ty220 ty221 ty222 ty223 ty224 ty225 ty226 ty227 ty228 ty229 ty230 ty231 ty232 ty233 ty234 ty235 ty236 ty237 ty238 ty239 ty240 ty241 ty242 ty243 ty244
theorem follows : Try.prog.follows .mixedOrders = true := by kernel_rfl
end Go.AW

namespace Go.AW
open Go Go.Proofs
theorem fo24_0 : fieldOf Try.prog 24 0 = some (0, { desc := TypeDesc.int IntKind.i64, size := 1, bytes := 8, zero := Value.int IntKind.i64 (0) }) := by kernel_rfl
theorem fo24_1 : fieldOf Try.prog 24 1 = some (1, { desc := TypeDesc.int IntKind.i64, size := 1, bytes := 8, zero := Value.int IntKind.i64 (0) }) := by kernel_rfl
theorem fo24_2 : fieldOf Try.prog 24 2 = some (2, { desc := TypeDesc.slice 66, size := 1, bytes := 24, zero := Value.slice none 0 0 }) := by kernel_rfl
theorem fo66_0 : fieldOf Try.prog 66 0 = some (0, { desc := TypeDesc.int IntKind.i64, size := 1, bytes := 8, zero := Value.int IntKind.i64 (0) }) := by kernel_rfl
theorem fo66_1 : fieldOf Try.prog 66 1 = some (1, { desc := TypeDesc.int IntKind.i64, size := 1, bytes := 8, zero := Value.int IntKind.i64 (0) }) := by kernel_rfl
theorem fo66_2 : fieldOf Try.prog 66 2 = some (2, { desc := TypeDesc.int IntKind.i64, size := 1, bytes := 8, zero := Value.int IntKind.i64 (0) }) := by kernel_rfl
theorem fo133_1 : fieldOf Try.prog 133 1 = some (1, { desc := TypeDesc.slice 5, size := 1, bytes := 24, zero := Value.slice none 0 0 }) := by kernel_rfl
theorem es22 : elemSize Try.prog 22 = some 3 := by kernel_rfl
theorem es30 : elemSize Try.prog 30 = some 1 := by kernel_rfl
theorem es42 : elemSize Try.prog 42 = some 1 := by kernel_rfl
theorem es126 : elemSize Try.prog 126 = some 1 := by kernel_rfl
theorem es127 : elemSize Try.prog 127 = some 1 := by kernel_rfl
end Go.AW



namespace Go.Proofs
open Go

def Try.sortS_ren : Go.Shelf.Ren := ⟨fun | 6 => 45 | 8 => 93 | 9 => 92 | 19 => 140 | 20 => 141 | 21 => 132 | 22 => 133 | 23 => 134 | 24 => 135 | 25 => 136 | 26 => 137 | 27 => 83 | 28 => 138 | 29 => 139 | 36 => 163 | 31 => 164 | 32 => 165 | 37 => 166 | 38 => 167 | 39 => 128 | 41 => 182 | n => n, fun | 27 => 30 | 29 => 9 | 3 => 3 | 32 => 121 | 26 => 30 | 0 => 0 | 44 => 149 | 46 => 147 | 4 => 4 | 36 => 170 | 35 => 169 | 41 => 174 | 5 => 5 | 9 => 9 | 53 => 196 | 57 => 183 | 63 => 218 | 64 => 99 | n => n, fun | n => n⟩
theorem Try.sortS : Go.Proofs.SlLaysM.n6 Try.prog Try.sortS_ren where
  mixed := by kernel_rfl
  f6 := ⟨"slices.Sort[[]string,string]", by decide, Try.func45.trans (congrArg some (by kernel_rfl))⟩
  f8 := Try.func93.trans (congrArg some (by kernel_rfl))
  f9 := ⟨"slices.pdqsortOrdered[string]", by decide, Try.func92.trans (congrArg some (by kernel_rfl))⟩
  f19 := Try.func140.trans (congrArg some (by kernel_rfl))
  f20 := Try.func141.trans (congrArg some (by kernel_rfl))
  f21 := ⟨"slices.insertionSortOrdered[string]", by decide, Try.func132.trans (congrArg some (by kernel_rfl))⟩
  f22 := ⟨"slices.heapSortOrdered[string]", by decide, Try.func133.trans (congrArg some (by kernel_rfl))⟩
  f23 := ⟨"slices.breakPatternsOrdered[string]", by decide, Try.func134.trans (congrArg some (by kernel_rfl))⟩
  f24 := ⟨"slices.choosePivotOrdered[string]", by decide, Try.func135.trans (congrArg some (by kernel_rfl))⟩
  f25 := ⟨"slices.reverseRangeOrdered[string]", by decide, Try.func136.trans (congrArg some (by kernel_rfl))⟩
  f26 := ⟨"slices.partialInsertionSortOrdered[string]", by decide, Try.func137.trans (congrArg some (by kernel_rfl))⟩
  f27 := ⟨"cmp.Less[string]", by decide, Try.func83.trans (congrArg some (by kernel_rfl))⟩
  f28 := ⟨"slices.partitionEqualOrdered[string]", by decide, Try.func138.trans (congrArg some (by kernel_rfl))⟩
  f29 := ⟨"slices.partitionOrdered[string]", by decide, Try.func139.trans (congrArg some (by kernel_rfl))⟩
  f31 := Try.func164.trans (congrArg some (by kernel_rfl))
  f32 := Try.func165.trans (congrArg some (by kernel_rfl))
  f36 := ⟨"slices.siftDownOrdered[string]", by decide, Try.func163.trans (congrArg some (by kernel_rfl))⟩
  f37 := ⟨"slices.medianAdjacentOrdered[string]", by decide, Try.func166.trans (congrArg some (by kernel_rfl))⟩
  f38 := ⟨"slices.medianOrdered[string]", by decide, Try.func167.trans (congrArg some (by kernel_rfl))⟩
  f39 := ⟨"cmp.isNaN[string]", by decide, Try.func128.trans (congrArg some (by kernel_rfl))⟩
  f41 := ⟨"slices.order2Ordered[string]", by decide, Try.func182.trans (congrArg some (by kernel_rfl))⟩
  t0 := Try.underlying0
  a0 := Try.isAgg0
  z0 := Try.sizeOf0
  v0 := Try.zeroValue0
  t3 := Try.underlying3
  a3 := Try.isAgg3
  z3 := Try.sizeOf3
  v3 := Try.zeroValue3
  t4 := Try.underlying4
  a4 := Try.isAgg4
  z4 := Try.sizeOf4
  v4 := Try.zeroValue4
  t5 := Try.underlying5
  a5 := Try.isAgg5
  z5 := Try.sizeOf5
  v5 := Try.zeroValue5
  t9 := Try.underlying9
  a9 := Try.isAgg9
  z9 := Try.sizeOf9
  v9 := Try.zeroValue9
  t26 := Try.underlying30
  a26 := Try.isAgg30
  z26 := Try.sizeOf30
  v26 := Try.zeroValue30
  t27 := Try.underlying30
  a27 := Try.isAgg30
  z27 := Try.sizeOf30
  v27 := Try.zeroValue30
  t29 := Try.underlying9
  a29 := Try.isAgg9
  z29 := Try.sizeOf9
  v29 := Try.zeroValue9
  t32 := Try.underlying121
  a32 := Try.isAgg121
  z32 := Try.sizeOf121
  v32 := Try.zeroValue121
  t35 := Try.underlying169
  a35 := Try.isAgg169
  z35 := Try.sizeOf169
  v35 := Try.zeroValue169
  t36 := Try.underlying170
  a36 := Try.isAgg170
  z36 := Try.sizeOf170
  v36 := Try.zeroValue170
  t41 := Try.underlying174
  a41 := Try.isAgg174
  z41 := Try.sizeOf174
  v41 := Try.zeroValue174
  t44 := Try.underlying149
  a44 := Try.isAgg149
  z44 := Try.sizeOf149
  v44 := Try.zeroValue149
  t46 := Try.underlying147
  a46 := Try.isAgg147
  z46 := Try.sizeOf147
  v46 := Try.zeroValue147
  t53 := Try.underlying196
  a53 := Try.isAgg196
  z53 := Try.sizeOf196
  v53 := Try.zeroValue196
  t57 := Try.underlying183
  a57 := Try.isAgg183
  z57 := Try.sizeOf183
  v57 := Try.zeroValue183
  t63 := Try.underlying218
  a63 := Try.isAgg218
  z63 := Try.sizeOf218
  v63 := Try.zeroValue218
  t64 := Try.underlying99
  a64 := Try.isAgg99
  z64 := Try.sizeOf99
  v64 := Try.zeroValue99
def Try.sortI_ren : Go.Shelf.Ren := ⟨fun | 5 => 179 | 8 => 93 | 7 => 187 | 19 => 140 | 20 => 141 | 10 => 191 | 11 => 192 | 12 => 193 | 13 => 194 | 14 => 195 | 15 => 196 | 16 => 197 | 17 => 198 | 18 => 199 | 30 => 200 | 31 => 164 | 32 => 165 | 33 => 201 | 34 => 202 | 35 => 188 | 40 => 203 | n => n, fun | 23 => 42 | 25 => 3 | 3 => 3 | 32 => 121 | 22 => 42 | 0 => 0 | 44 => 149 | 46 => 147 | 4 => 4 | 36 => 170 | 35 => 169 | 41 => 174 | 5 => 5 | 9 => 9 | 53 => 196 | 57 => 183 | 63 => 218 | 64 => 99 | n => n, fun | n => n⟩
theorem Try.sortI : Go.Proofs.SlLaysM.n5 Try.prog Try.sortI_ren where
  mixed := by kernel_rfl
  f5 := ⟨"slices.Sort[[]int,int]", by decide, Try.func179.trans (congrArg some (by kernel_rfl))⟩
  f7 := ⟨"slices.pdqsortOrdered[int]", by decide, Try.func187.trans (congrArg some (by kernel_rfl))⟩
  f8 := Try.func93.trans (congrArg some (by kernel_rfl))
  f10 := ⟨"slices.insertionSortOrdered[int]", by decide, Try.func191.trans (congrArg some (by kernel_rfl))⟩
  f11 := ⟨"slices.heapSortOrdered[int]", by decide, Try.func192.trans (congrArg some (by kernel_rfl))⟩
  f12 := ⟨"slices.breakPatternsOrdered[int]", by decide, Try.func193.trans (congrArg some (by kernel_rfl))⟩
  f13 := ⟨"slices.choosePivotOrdered[int]", by decide, Try.func194.trans (congrArg some (by kernel_rfl))⟩
  f14 := ⟨"slices.reverseRangeOrdered[int]", by decide, Try.func195.trans (congrArg some (by kernel_rfl))⟩
  f15 := ⟨"slices.partialInsertionSortOrdered[int]", by decide, Try.func196.trans (congrArg some (by kernel_rfl))⟩
  f16 := ⟨"cmp.Less[int]", by decide, Try.func197.trans (congrArg some (by kernel_rfl))⟩
  f17 := ⟨"slices.partitionEqualOrdered[int]", by decide, Try.func198.trans (congrArg some (by kernel_rfl))⟩
  f18 := ⟨"slices.partitionOrdered[int]", by decide, Try.func199.trans (congrArg some (by kernel_rfl))⟩
  f19 := Try.func140.trans (congrArg some (by kernel_rfl))
  f20 := Try.func141.trans (congrArg some (by kernel_rfl))
  f30 := ⟨"slices.siftDownOrdered[int]", by decide, Try.func200.trans (congrArg some (by kernel_rfl))⟩
  f31 := Try.func164.trans (congrArg some (by kernel_rfl))
  f32 := Try.func165.trans (congrArg some (by kernel_rfl))
  f33 := ⟨"slices.medianAdjacentOrdered[int]", by decide, Try.func201.trans (congrArg some (by kernel_rfl))⟩
  f34 := ⟨"slices.medianOrdered[int]", by decide, Try.func202.trans (congrArg some (by kernel_rfl))⟩
  f35 := ⟨"cmp.isNaN[int]", by decide, Try.func188.trans (congrArg some (by kernel_rfl))⟩
  f40 := ⟨"slices.order2Ordered[int]", by decide, Try.func203.trans (congrArg some (by kernel_rfl))⟩
  t0 := Try.underlying0
  a0 := Try.isAgg0
  z0 := Try.sizeOf0
  v0 := Try.zeroValue0
  t3 := Try.underlying3
  a3 := Try.isAgg3
  z3 := Try.sizeOf3
  v3 := Try.zeroValue3
  t4 := Try.underlying4
  a4 := Try.isAgg4
  z4 := Try.sizeOf4
  v4 := Try.zeroValue4
  t5 := Try.underlying5
  a5 := Try.isAgg5
  z5 := Try.sizeOf5
  v5 := Try.zeroValue5
  t9 := Try.underlying9
  a9 := Try.isAgg9
  z9 := Try.sizeOf9
  v9 := Try.zeroValue9
  t22 := Try.underlying42
  a22 := Try.isAgg42
  z22 := Try.sizeOf42
  v22 := Try.zeroValue42
  t23 := Try.underlying42
  a23 := Try.isAgg42
  z23 := Try.sizeOf42
  v23 := Try.zeroValue42
  t25 := Try.underlying3
  a25 := Try.isAgg3
  z25 := Try.sizeOf3
  v25 := Try.zeroValue3
  t32 := Try.underlying121
  a32 := Try.isAgg121
  z32 := Try.sizeOf121
  v32 := Try.zeroValue121
  t35 := Try.underlying169
  a35 := Try.isAgg169
  z35 := Try.sizeOf169
  v35 := Try.zeroValue169
  t36 := Try.underlying170
  a36 := Try.isAgg170
  z36 := Try.sizeOf170
  v36 := Try.zeroValue170
  t41 := Try.underlying174
  a41 := Try.isAgg174
  z41 := Try.sizeOf174
  v41 := Try.zeroValue174
  t44 := Try.underlying149
  a44 := Try.isAgg149
  z44 := Try.sizeOf149
  v44 := Try.zeroValue149
  t46 := Try.underlying147
  a46 := Try.isAgg147
  z46 := Try.sizeOf147
  v46 := Try.zeroValue147
  t53 := Try.underlying196
  a53 := Try.isAgg196
  z53 := Try.sizeOf196
  v53 := Try.zeroValue196
  t57 := Try.underlying183
  a57 := Try.isAgg183
  z57 := Try.sizeOf183
  v57 := Try.zeroValue183
  t63 := Try.underlying218
  a63 := Try.isAgg218
  z63 := Try.sizeOf218
  v63 := Try.zeroValue218
  t64 := Try.underlying99
  a64 := Try.isAgg99
  z64 := Try.sizeOf99
  v64 := Try.zeroValue99
end Go.Proofs

namespace Go.AW
open Go Go.Proofs Go.Sort

theorem repL_map {α : Type} {w : World} {μ : Mu} {f : α → HV} {g : α → Value} : ∀ {l : List α}, RepL w μ (l.map f) (l.map g) ↔ ∀ x ∈ l, Rep w μ (f x) (g x)
  | [] => by simp [RepL]
  | a :: l => by
    simp only [List.map_cons, RepL, List.mem_cons, forall_eq_or_imp]
    constructor
    · rintro ⟨x, xs, e, h1, h2⟩
      cases e
      exact ⟨h1, repL_map.1 h2⟩
    · exact fun ⟨h1, h2⟩ => ⟨_, _, rfl, h1, repL_map.2 h2⟩

theorem sorted_world {α : Type} [Inhabited α] {enc : α → Value} {f : α → HV} (hf1 : ∀ x, (f x).one = true) {w : World} {μ : Mu} {H : Heap} {id ver b k : Nat} {e : TypeId} {l d : List α} (hs : SR w μ H) (hg : hget H id = some (ver, .arr k e (l.map f)))
    (hl : μ.loc id = some (ver, some b)) (hrep : ∀ x ∈ l, Rep w μ (f x) (enc x)) (hor : OR w μ (.arr k e (l.map f)) (some b)) (hv : ∀ vs, RepL w μ (l.map f) vs → vs = l.map enc) (hp : d.Perm l) (n : Nat) (os : Array Obj) :
    SR (grow (putRow enc (Sort.ahead w n) b 0 d.toArray) os) μ (hset H id ver (.arr k e (d.map f))) ∧ Evo w μ (grow (putRow enc (Sort.ahead w n) b 0 d.toArray) os) μ := by
  obtain ⟨h0, cur, vs, rest, hrow, hcl, hrl⟩ := hor
  have hvs := hv vs hrl
  subst hvs
  have hlen : d.length = l.length := hp.length_eq
  have hcsz : cur.size = l.length + rest.length := by rw [← Array.length_toList, hcl]; simp
  -- the world with the row put
  have hb := hrow.lt
  obtain ⟨lo, hi, hbk, hfr⟩ := hrow
  have hbk' : (putRow enc (Sort.ahead w n) b 0 d.toArray).heap[b]? = some (.cells (putCells enc 0 d.toArray cur) e (lo, hi)) := by
    show (w.heap.modify b _)[b]? = _
    rw [Array.getElem?_modify, if_pos rfl, hbk]
    rfl
  have hcur' : (putCells enc 0 d.toArray cur).toList = d.map enc ++ rest := by
    apply List.ext_getElem?
    intro i
    rw [Array.getElem?_toList]
    simp only [putCells, Array.getElem?_mapIdx]
    have hc : cur[i]? = (l.map enc ++ rest)[i]? := by rw [← hcl, Array.getElem?_toList]
    rw [hc]
    rcases Nat.lt_or_ge i d.length with hi | hi
    · rw [List.getElem?_append_left (by simp; omega), List.getElem?_append_left (by simpa using hi), List.getElem?_map, List.getElem?_map, List.getElem?_eq_getElem (by omega : i < l.length), List.getElem?_eq_getElem hi]
      simp only [Option.map_some]
      rw [if_pos ⟨Nat.zero_le _, by simpa using hi⟩]
      simp [hi]
    · rw [List.getElem?_append_right (by simp; omega), List.getElem?_append_right (by simpa using hi)]
      simp only [List.length_map, hlen]
      cases rest[i - l.length]? with
      | none => rfl
      | some x =>
        simp only [Option.map_some]
        rw [if_neg (by simp; omega)]
  have hsz1 : (putRow enc (Sort.ahead w n) b 0 d.toArray).heap.size = w.heap.size := by rw [size_putRow]; rfl
  have hrow1 : Row (putRow enc (Sort.ahead w n) b 0 d.toArray) b (putCells enc 0 d.toArray cur) e := ⟨lo, hi, hbk', by simpa [putCells] using hfr⟩
  have hold : ∀ b', b' ≠ b → (putRow enc (Sort.ahead w n) b 0 d.toArray).heap[b']? = w.heap[b']? := fun b' hne => by
    show (w.heap.modify b _)[b']? = _
    rw [Array.getElem?_modify, if_neg (fun e => hne e.symm)]
  obtain ⟨h1, h2⟩ := hs.updArr (cs' := d.map f) (w' := putRow enc (Sort.ahead w n) b 0 d.toArray) hg hl ⟨rfl, rfl, rfl⟩ hsz1 hold ⟨lo, hi, hbk, hfr⟩ hrow1 (by simp [putCells]) fun E => by
    refine ⟨fun c hc => ?_, _, d.map enc, rest, hrow1, hcur', repL_map.2 fun x hx => Rep.evo E hs.ok _ _ (hrep x (hp.mem_iff.1 hx))⟩
    obtain ⟨x, _, rfl⟩ := List.mem_map.1 hc
    exact hf1 x
  have g : Grow (putRow enc (Sort.ahead w n) b 0 d.toArray) (grow (putRow enc (Sort.ahead w n) b 0 d.toArray) os) :=
    ⟨⟨rfl, rfl, rfl⟩, by rw [size_grow]; omega, fun b' hb' => by
      show (_ ++ os)[b']? = _
      rw [Array.getElem?_append_left hb']⟩
  exact ⟨h1.grow g, h2.trans (Evo.grow h1 g)⟩

theorem holds_row {α : Type} [Inhabited α] {enc : α → Value} {w : World} {b : Nat} {cur : Array Value} {e : TypeId} {l : List α} {rest : List Value} (hrow : Row w b cur e) (hcl : cur.toList = l.map enc ++ rest) : Holds enc w b 0 l.toArray := by
  intro j hj
  have hj' : j < l.length := by simpa using hj
  have hc : cur[j]? = some (enc l[j]) := by
    rw [← Array.getElem?_toList, hcl, List.getElem?_append_left (by simpa using hj'), List.getElem?_map, List.getElem?_eq_getElem hj']
    rfl
  refine ⟨?_, ?_⟩
  · rw [Nat.zero_add, hrow.cell, hc]
    simp [hj']
  · rw [Nat.zero_add]
    exact hrow.free (Array.getElem?_eq_some_iff.1 hc).1

theorem repL_strs {w : World} {μ : Mu} : ∀ {l : List (List UInt8)} {vs : List Value}, RepL w μ (l.map .str) vs → vs = l.map encStr ∧ ∀ x ∈ l, Rep w μ (.str x) (encStr x)
  | [], vs, h => by simp only [List.map_nil, RepL] at h; subst h; exact ⟨rfl, by simp⟩
  | a :: l, vs, ⟨x, xs, e, h1, h2⟩ => by
    obtain ⟨h3, h4⟩ := repL_strs h2
    obtain ⟨rfl, hl⟩ := h1
    subst e
    rw [h3]
    exact ⟨rfl, by simpa using ⟨⟨rfl, hl⟩, h4⟩⟩

theorem repL_ints {w : World} {μ : Mu} : ∀ {l : List Int} {vs : List Value}, RepL w μ (l.map (.int .i64)) vs → vs = l.map (Value.int .i64) ∧ ∀ x ∈ l, Rep w μ (.int .i64 x) (Value.int .i64 x)
  | [], vs, h => by simp only [List.map_nil, RepL] at h; subst h; exact ⟨rfl, by simp⟩
  | a :: l, vs, ⟨x, xs, e, h1, h2⟩ => by
    obtain ⟨h3, h4⟩ := repL_ints h2
    obtain ⟨rfl, hl⟩ := h1
    subst e
    rw [h3]
    exact ⟨rfl, by simpa using ⟨⟨rfl, hl⟩, h4⟩⟩

/-- slices.Sort of texts, in place -/
theorem w45 {H : Heap} {id ver : Nat} {e : TypeId} {l : List (List UInt8)} {K : HV → Heap → Prop} (hg : hget H id = some (ver, .arr 1 e (l.map .str))) (hlen : l.length < 4611686018427387904)
    (hK : K (.tup []) (hset H id ver (.arr 1 e ((sortS l).map .str)))) : ACall Try.prog 45 [.ar id ver 1 0 l.length] H K := by
  refine ⟨enters' Try.func45 rfl rfl, fun μ w vs hs hr => ?_⟩
  obtain ⟨x, xs, rfl, hr, hn⟩ := hr
  cases hn
  obtain ⟨lo, hl, hor⟩ := hs.has _ _ _ hg
  rcases hr with ⟨lo', hl', h⟩ | ⟨hd, _⟩
  · rw [hl] at hl'
    cases hl'
    rcases h with ⟨rfl, rfl, h0, _⟩ | ⟨b, cap, cur, e', rfl, rfl, hcap, _, hrow, hsz⟩
    · have h0' : l = [] := List.eq_nil_of_length_eq_zero h0
      subst h0'
      refine (AnyM.slices_Sort_string_none Try.sortS none 0 w).mono ?_
      rintro e' w' ⟨rfl, rfl⟩
      have hset_same : SR w' μ (hset H id ver (.arr 1 e ((sortS []).map .str))) := by
        refine ⟨hs.ok, fun j v o ho => ?_, fun j x hx => ?_, hs.inj, hs.held⟩
        · rw [hget_hset] at ho
          split at ho
          · rename_i ej; subst ej; cases ho; exact ⟨none, hl, by show (sortS []).map HV.str = []; simp [sortS]⟩
          · exact hs.has _ _ _ ho
        · rw [hget_hset]
          split
          · exact ⟨_, rfl⟩
          · exact hs.only _ _ hx
      exact ⟨_, .tup [], _, μ, rfl, hK, hset_same, ⟨[], rfl, rfl⟩, Evo.refl _ _⟩
    · have hor' := hor
      obtain ⟨h0, cur', vs', rest, hrow', hcl, hrl⟩ := hor
      obtain ⟨hvs, hreps⟩ := repL_strs hrl
      subst hvs
      refine (AnyM.slices_Sort_string Try.sortS b 0 cap l w (holds_row hrow' hcl) hrow'.lt hlen).mono ?_
      rintro e2 w' ⟨rfl, n, os, rfl⟩
      obtain ⟨h1, h2⟩ := sorted_world (f := HV.str) (fun _ => rfl) hs hg hl hreps hor' (fun vs hv => (repL_strs hv).1) (List.mergeSort_perm l _) n os
      exact ⟨_, .tup [], _, μ, rfl, hK, h1, ⟨[], rfl, rfl⟩, h2⟩
  · exact absurd hl (hd.2 lo)

/-- .. of no text at all -/
theorem w45n {H : Heap} {K : HV → Heap → Prop} (hK : K (.tup []) H) : ACall Try.prog 45 [.v (.slice none 0 0)] H K := by
  refine ⟨enters' Try.func45 rfl rfl, fun μ w vs hs hr => ?_⟩
  obtain ⟨x, xs, rfl, hr, hn⟩ := hr
  cases hn
  cases hr
  refine (AnyM.slices_Sort_string_none Try.sortS none 0 w).mono ?_
  rintro e' w' ⟨rfl, rfl⟩
  exact ⟨_, .tup [], _, μ, rfl, hK, hs, ⟨[], rfl, rfl⟩, Evo.refl _ _⟩

theorem sorts45 : SortsS Try.prog 45 := ⟨fun _ _ _ _ _ _ hg hl hK => w45 hg hl hK, fun _ _ hK => w45n hK⟩

/-- slices.Sort of numbers, in place -/
theorem w179 {H : Heap} {id ver : Nat} {e : TypeId} {l : List Int} {K : HV → Heap → Prop} (hg : hget H id = some (ver, .arr 1 e (l.map (.int .i64)))) (hlen : l.length < 4611686018427387904)
    (hK : K (.tup []) (hset H id ver (.arr 1 e ((sortI l).map (.int .i64))))) : ACall Try.prog 179 [.ar id ver 1 0 l.length] H K := by
  refine ⟨enters' Try.func179 rfl rfl, fun μ w vs hs hr => ?_⟩
  obtain ⟨x, xs, rfl, hr, hn⟩ := hr
  cases hn
  obtain ⟨lo, hl, hor⟩ := hs.has _ _ _ hg
  rcases hr with ⟨lo', hl', h⟩ | ⟨hd, _⟩
  · rw [hl] at hl'
    cases hl'
    rcases h with ⟨rfl, rfl, h0, _⟩ | ⟨b, cap, cur, e', rfl, rfl, hcap, _, hrow, hsz⟩
    · have h0' : l = [] := List.eq_nil_of_length_eq_zero h0
      subst h0'
      refine (AnyM.slices_Sort_int_none Try.sortI none 0 w).mono ?_
      rintro e' w' ⟨rfl, rfl⟩
      refine ⟨_, .tup [], _, μ, rfl, hK, ?_, ⟨[], rfl, rfl⟩, Evo.refl _ _⟩
      have : (sortI []).map (HV.int .i64) = [] := by simp [sortI]
      rw [this]
      exact hs.same hg
    · have hor' := hor
      obtain ⟨h0, cur', vs', rest, hrow', hcl, hrl⟩ := hor
      obtain ⟨hvs, hreps⟩ := repL_ints hrl
      subst hvs
      refine (AnyM.slices_Sort_int Try.sortI b 0 cap l w (holds_row hrow' hcl) hrow'.lt hlen).mono ?_
      rintro e2 w' ⟨rfl, n, os, rfl⟩
      obtain ⟨h1, h2⟩ := sorted_world (f := HV.int .i64) (fun _ => rfl) hs hg hl hreps hor' (fun vs hv => (repL_ints hv).1) (List.mergeSort_perm l _) n os
      exact ⟨_, .tup [], _, μ, rfl, hK, h1, ⟨[], rfl, rfl⟩, h2⟩
  · exact absurd hl (hd.2 lo)

theorem sorts179 : SortsI Try.prog 179 := by
  refine ⟨fun _ _ _ _ _ _ hg hl hK => w179 hg hl hK, fun H K hK => ⟨enters' Try.func179 rfl rfl, fun μ w vs hs hr => ?_⟩⟩
  obtain ⟨x, xs, rfl, hr, hn⟩ := hr
  cases hn
  cases hr
  refine (AnyM.slices_Sort_int_none Try.sortI none 0 w).mono ?_
  rintro e' w' ⟨rfl, rfl⟩
  exact ⟨_, .tup [], _, μ, rfl, hK, hs, ⟨[], rfl, rfl⟩, Evo.refl _ _⟩
end Go.AW

namespace Go.AW
open Go Go.Proofs Go.Sort Go.Lib
/-- a row of cells is written anew -/
theorem put_world {α : Type} [Inhabited α] {enc : α → Value} {f : α → HV} (hf1 : ∀ x, (f x).one = true) {w : World} {μ : Mu} {H : Heap} {id ver b k : Nat} {e : TypeId} {l d : List α} (hs : SR w μ H) (hg : hget H id = some (ver, .arr k e (l.map f)))
    (hl : μ.loc id = some (ver, some b)) (hrep : ∀ x ∈ d, Rep w μ (f x) (enc x)) (hor : OR w μ (.arr k e (l.map f)) (some b)) (hv : ∀ vs, RepL w μ (l.map f) vs → vs = l.map enc) (hlen : d.length = l.length) (n : Nat) :
    SR (putRow enc (Sort.ahead w n) b 0 d.toArray) μ (hset H id ver (.arr k e (d.map f))) ∧ Evo w μ (putRow enc (Sort.ahead w n) b 0 d.toArray) μ := by
  obtain ⟨h0, cur, vs, rest, hrow, hcl, hrl⟩ := hor
  have hvs := hv vs hrl
  subst hvs
  have hcsz : cur.size = l.length + rest.length := by rw [← Array.length_toList, hcl]; simp
  obtain ⟨lo, hi, hbk, hfr⟩ := hrow
  have hbk' : (putRow enc (Sort.ahead w n) b 0 d.toArray).heap[b]? = some (.cells (putCells enc 0 d.toArray cur) e (lo, hi)) := by
    show (w.heap.modify b _)[b]? = _
    rw [Array.getElem?_modify, if_pos rfl, hbk]
    rfl
  have hcur' : (putCells enc 0 d.toArray cur).toList = d.map enc ++ rest := by
    apply List.ext_getElem?
    intro i
    rw [Array.getElem?_toList]
    simp only [putCells, Array.getElem?_mapIdx]
    have hc : cur[i]? = (l.map enc ++ rest)[i]? := by rw [← hcl, Array.getElem?_toList]
    rw [hc]
    rcases Nat.lt_or_ge i d.length with hi | hi
    · rw [List.getElem?_append_left (by simp; omega), List.getElem?_append_left (by simpa using hi), List.getElem?_map, List.getElem?_map, List.getElem?_eq_getElem (by omega : i < l.length), List.getElem?_eq_getElem hi]
      simp only [Option.map_some]
      rw [if_pos ⟨Nat.zero_le _, by simpa using hi⟩]
      simp [hi]
    · rw [List.getElem?_append_right (by simp; omega), List.getElem?_append_right (by simpa using hi)]
      simp only [List.length_map, hlen]
      cases rest[i - l.length]? with
      | none => rfl
      | some x =>
        simp only [Option.map_some]
        rw [if_neg (by simp; omega)]
  have hsz1 : (putRow enc (Sort.ahead w n) b 0 d.toArray).heap.size = w.heap.size := by rw [size_putRow]; rfl
  have hrow1 : Row (putRow enc (Sort.ahead w n) b 0 d.toArray) b (putCells enc 0 d.toArray cur) e := ⟨lo, hi, hbk', by simpa [putCells] using hfr⟩
  have hold : ∀ b', b' ≠ b → (putRow enc (Sort.ahead w n) b 0 d.toArray).heap[b']? = w.heap[b']? := fun b' hne => by
    show (w.heap.modify b _)[b']? = _
    rw [Array.getElem?_modify, if_neg (fun e => hne e.symm)]
  exact hs.updArr (cs' := d.map f) (w' := putRow enc (Sort.ahead w n) b 0 d.toArray) hg hl ⟨rfl, rfl, rfl⟩ hsz1 hold ⟨lo, hi, hbk, hfr⟩ hrow1 (by simp [putCells]) fun E => by
    refine ⟨fun c hc => ?_, _, d.map enc, rest, hrow1, hcur', repL_map.2 fun x hx => Rep.evo E hs.ok _ _ (hrep x hx)⟩
    obtain ⟨x, _, rfl⟩ := List.mem_map.1 hc
    exact hf1 x
end Go.AW

namespace Go.Proofs
open Go

set_option maxHeartbeats 1000000 in
set_option maxRecDepth 100000 in
theorem Try.stringslite_IndexByte (s : ByteArray) (c : Int) (w : World) :
    Calls Try.prog 100 #[.string s, .int .u8 c] w fun e w' => e = .returned (.int .i64 (Lib.indexByte s.data.toList c.toNat.toUInt8)) ∧ w' = w := by
  go_enter Try.func100, Try.ntmps100
  go_wp2
  rw [run_callFunc_extern Try.func144 (by kernel_rfl) (by kernel_rfl) (by kernel_rfl) (e := Extern.BytealgIndexByte.indexByte) (by kernel_rfl), Lib.run_indexByteString]
  simp only [Result.andThen]
  rw [Oper.upon_value]
  go_wp2
  go_ret
  exact ⟨rfl, rfl⟩

set_option maxHeartbeats 1000000 in
theorem Try.strings_IndexByte (s : ByteArray) (c : Int) (w : World) :
    Calls Try.prog 51 #[.string s, .int .u8 c] w fun e w' => e = .returned (.int .i64 (Lib.indexByte s.data.toList c.toNat.toUInt8)) ∧ w' = w := by
  go_enter Try.func51, Try.ntmps51
  go_wp2_with (go_at_call 100; refine (Try.stringslite_IndexByte _ _ _).mono ?_; rintro e w' ⟨rfl, rfl⟩)
  go_ret
  exact ⟨rfl, rfl⟩

end Go.Proofs
namespace Go.AW
open Go Go.Proofs

theorem idx_wf (l : List UInt8) (c : UInt8) (hl : l.length ≤ maxLen) : (Lit.int .i64 (Lib.indexByte l c)).wf = true := by
  have h : ∀ l : List UInt8, -1 ≤ Lib.indexByte l c ∧ Lib.indexByte l c ≤ l.length := by
    intro l
    induction l with
    | nil => simp [Lib.indexByte]
    | cons a l ih =>
      simp only [Lib.indexByte, List.length_cons]
      split
      · omega
      · split
        · omega
        · omega
  have := h l
  simp only [maxLen] at hl
  simp only [Lit.wf, IntKind.min, IntKind.max, IntKind.signed, IntKind.bits, Bool.and_eq_true, decide_eq_true_eq]
  simp
  omega

/-- strings.IndexByte -/
theorem w51 (l : List UInt8) (c : Int) : Pure Try.prog 51 [.str l, .int .u8 c] (· = .int .i64 (Lib.indexByte l c.toNat.toUInt8)) := by
  refine ⟨enters' Try.func51 rfl rfl, fun μ w vs hs hr => ?_⟩
  obtain ⟨x, xs, rfl, ⟨rfl, hl⟩, y, ys, rfl, ⟨rfl, _⟩, hn⟩ := hr
  cases hn
  refine (Try.strings_IndexByte ⟨l.toArray⟩ c w).mono ?_
  rintro e w' ⟨rfl, rfl⟩
  exact ⟨_, _, [], μ, rfl, ⟨rfl, trivial, rfl⟩, hs, ⟨by simp, idx_wf l _ hl⟩, Evo.refl _ _⟩
end Go.AW

namespace Go.Proofs
open Go
def Try.compI_ren : Go.Shelf.Ren := ⟨fun | 20 => 180 | n => n, fun | 22 => 42 | 3 => 3 | 4 => 4 | 0 => 0 | n => n, fun | n => n⟩
theorem Try.compI : Go.Proofs.Lays2.n20 Try.prog Try.compI_ren where
  mixed := by kernel_rfl
  f20 := Try.func180.trans (congrArg some (by kernel_rfl))
  t0 := Try.underlying0
  a0 := Try.isAgg0
  z0 := Try.sizeOf0
  v0 := Try.zeroValue0
  t3 := Try.underlying3
  a3 := Try.isAgg3
  z3 := Try.sizeOf3
  v3 := Try.zeroValue3
  t4 := Try.underlying4
  a4 := Try.isAgg4
  z4 := Try.sizeOf4
  v4 := Try.zeroValue4
  t22 := Try.underlying42
  a22 := Try.isAgg42
  z22 := Try.sizeOf42
  v22 := Try.zeroValue42
  i3 := by kernel_rfl
end Go.Proofs
namespace Go.AW
open Go Go.Proofs Go.Sort Go.Lib
set_option linter.unusedVariables false

theorem c_sortI : SortsI Try.prog 179 := sorts179
theorem w180 {H : Heap} {id ver : Nat} {e : TypeId} {l : List Int} {K : HV → Heap → Prop} (hg : hget H id = some (ver, .arr 1 e (l.map (.int .i64))))
    (hK : K (.ar id ver 1 0 (compact_ l).length) (hset H id ver (.arr 1 e ((compact_ l ++ List.replicate (l.length - (compact_ l).length) 0).map (.int .i64))))) : ACall Try.prog 180 [.ar id ver 1 0 l.length] H K := by
  refine ⟨enters' Try.func180 rfl rfl, fun μ w vs hs hr => ?_⟩
  obtain ⟨x, xs, rfl, hr, hn⟩ := hr
  cases hn
  obtain ⟨lo, hl, hor⟩ := hs.has _ _ _ hg
  rcases hr with ⟨lo', hl', h⟩ | ⟨hd, _⟩
  · rw [hl] at hl'
    cases hl'
    rcases h with ⟨rfl, rfl, h0, _⟩ | ⟨b, cap, cur, e', rfl, rfl, hcap, hcm, hrow, hsz⟩
    · have hl0 := List.eq_nil_of_length_eq_zero h0
      subst hl0
      refine (Any.slices_Compact_int_empty Try.compI none 0 w).mono ?_
      rintro e2 w' ⟨rfl, rfl⟩
      refine ⟨_, .ar id ver 1 0 0, _, μ, rfl, hK, hs.reobj hg fun l hl hor => hor, .inl ⟨none, hl, .inl ⟨rfl, rfl, rfl, rfl⟩⟩, Evo.refl _ _⟩
    · have hor' := hor
      obtain ⟨h0, cur', vs', rest, hrow', hcl, hrl⟩ := hor
      obtain ⟨hvs, hreps⟩ := repL_ints hrl
      subst hvs
      refine (Any.slices_Compact_int Try.compI b 0 cap l w (holds_row hrow' hcl) (by have := hcm; simp only [maxLen] at this; omega) hcap).mono ?_
      · rintro e2 w' ⟨rfl, n, rfl⟩
        have hle := compact_le l
        have hlen : (compact_ l ++ List.replicate (l.length - (compact_ l).length) (0 : Int)).length = l.length := by simp; omega
        obtain ⟨h1, h2⟩ := put_world (f := HV.int .i64) (fun _ => rfl) hs hg hl (d := compact_ l ++ List.replicate (l.length - (compact_ l).length) 0) (fun x hx => by
          rcases List.mem_append.1 hx with hx | hx
          · exact hreps x (compact_mem hx)
          · rw [List.eq_of_mem_replicate hx]; exact ⟨rfl, rfl⟩) hor' (fun vs hv => (repL_ints hv).1) hlen n
        refine ⟨_, .ar id ver 1 0 (compact_ l).length, _, μ, rfl, hK, h1, .inl ⟨some b, hl, .inr ⟨b, cap, putCells (Value.int .i64) 0 (compact_ l ++ List.replicate (l.length - (compact_ l).length) 0).toArray cur, e', rfl, by simp, by omega, hcm, ?_, ?_⟩⟩, h2⟩
        · obtain ⟨lo, hi, hbk, hfr⟩ := hrow
          refine ⟨lo, hi, ?_, by simpa [putCells] using hfr⟩
          show (w.heap.modify b _)[b]? = _
          rw [Array.getElem?_modify, if_pos rfl, hbk]
          rfl
        · simp only [putCells, Array.size_mapIdx]; exact hsz
  · exact absurd hl (hd.2 lo)

/-- compaction of a list that nobody else holds -/
theorem c_compactI {H H' : Heap} {id ver n : Nat} {e : TypeId} {l : List Int} {K : HV → Heap → Prop} (hn : n = l.length) (hg : hget H id = some (ver, .arr 1 e (l.map (.int .i64)))) (hle : ∀ j x, hget H' j = some x → hget H j = some x) (hno : hget H' id = none)
    (hK : K (slE eInt (compact_ l)) H') : ACall Try.prog 180 [.ar id ver 1 0 n] H K := by
  subst hn
  have hlen := compact_le l
  refine ACall.freeze 2 [(id, ver, .arr 1 e ((compact_ l ++ List.replicate (l.length - (compact_ l).length) 0).map (.int .i64)))] H' (w180 hg ⟨fun j x hx => ?_, fun j x hx => ?_, ?_⟩)
  · rw [hget_hset, if_neg (fun e => by rw [e, hno] at hx; cases hx)]
    exact hle j x hx
  · simp only [hget] at hx
    split at hx
    · rename_i e
      subst e
      cases hx
      exact ⟨by rw [hget_hset, if_pos rfl], hno⟩
    · cases hx
  · have : frz 2 [(id, ver, .arr 1 e ((compact_ l ++ List.replicate (l.length - (compact_ l).length) 0).map (.int .i64)))] (.ar id ver 1 0 (compact_ l).length) = slE eInt (compact_ l) := by
      have h0 : hget [(id, ver, AObj.arr 1 e ((compact_ l ++ List.replicate (l.length - (compact_ l).length) 0).map (.int .i64)))] id = some (ver, .arr 1 e ((compact_ l ++ List.replicate (l.length - (compact_ l).length) 0).map (.int .i64))) := by simp only [hget, if_true]
      rw [frz, h0]
      have h1 : ver = ver ∧ 0 + (compact_ l).length * 1 ≤ ((compact_ l ++ List.replicate (l.length - (compact_ l).length) (0 : Int)).map (HV.int .i64)).length := ⟨rfl, by simp⟩
      refine (if_pos h1).trans ?_
      rw [List.drop_zero, Nat.mul_one, List.map_append, List.take_left' (List.length_map _), List.map_map]
      rfl
    rw [this]
    exact hK

/-- strings.IndexByte -/
theorem w_strings_IndexByte {l : List UInt8} {c r : Int} (h : m_strings_IndexByte l c = some r) : Pure Try.prog 51 [HV.str l, HV.int .u8 c] (· = HV.int .i64 r) := by
  cases h
  exact w51 l c
end Go.AW
