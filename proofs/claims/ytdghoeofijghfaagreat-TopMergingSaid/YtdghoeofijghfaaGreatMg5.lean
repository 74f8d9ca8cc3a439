import Derived.Test.YtdghoeofijghfaaGreatMg4
import Derived.Laws.Cover1
import Derived.Lib.Join
import Derived.Lib.Strings
import Derived.LoopN
import Derived.Shelf.Strings.Count
import Derived.Test.YtdghoeofijghfaaGreatChecked
import Derived.WalkKit
set_option linter.unusedSimpArgs false
set_option linter.unusedVariables false
noncomputable section
namespace Go.AW
open Go Go.Proofs
set_option maxRecDepth 100000 in
theorem q71s (a b:ByteArray) (w:World):Calls Tryz.prog 123 #[.string a,.string b] w fun e w'=>e=.returned (.int .i64 (Lib.compareBytes a.data.toList b.data.toList))∧w'=w:=by
 go_enter Tryz.func123,Tryz.ntmps123
 go_wp2
 rw [run_callFunc_extern Tryz.func147 (by kernel_rfl) (by kernel_rfl) (by kernel_rfl) (e:=Extern.BytealgCompare.compare) (by kernel_rfl),Lib.run_compareString];simp only [Result.andThen];rw [Oper.upon_value]
 go_wp2
 go_ret
 exact ⟨rfl,rfl⟩
theorem qlK:∀ a b:List UInt8, -1≤Lib.compareBytes a b∧Lib.compareBytes a b≤1
 | [],[]=>by simp [Lib.compareBytes]
 | [],_::_=>by simp [Lib.compareBytes]
 | _::_,[]=>by simp [Lib.compareBytes]
 | a::l,b::m=>by
  unfold Lib.compareBytes;split
  ·omega
  split
  ·omega
  exact qlK l m
theorem qdW {a b:List UInt8} {r:Int} (h:qbv a b=some r):Pure Tryz.prog 123 [HV.str a,HV.str b] (· = HV.int .i64 r):=by
 cases h;refine ⟨qde Tryz.func123 rfl rfl,fun μ w vs hs hr hgl=>?_⟩;obtain ⟨v,xs,rfl,⟨rfl,_⟩,v2,xs2,rfl,⟨rfl,_⟩,hn⟩:=hr;cases hn;refine (q71s ⟨a.toArray⟩ ⟨b.toArray⟩ w).mono ?_
 rintro e w' ⟨rfl,rfl⟩
 have:=qlK a b;exact ⟨_,.int .i64 (Lib.compareBytes a b),[],μ,rfl,⟨rfl,trivial,rfl⟩,hs,⟨rfl,by simp [Lit.wf,IntKind.min,IntKind.max,IntKind.signed,IntKind.bits]; omega⟩,Evo.refl _ _⟩
def qcs (p0:List UInt8) (p1:List UInt8):Option (Int) :=
 (qbv p0 p1).bind fun x1 =>
 some x1
def qdQ (p0:List UInt8) (p1:List UInt8):Option (Int) :=
 (qa3 ((p0).length:Int) ((p1).length:Int)).bind fun x1 =>
 (qcs p0 p1).bind fun x3 =>
 (qdF [x1,x3]).bind fun x5 =>
 some x5
def qd8 (p0 : qbF):Option (Int) :=
 jp (fun (a1 : Bool) =>
   if a1=true then
    some 12
   else
    if ((p0.2).length:Int)=0 then
     some 5
    else
     if 64<((p0.2).length:Int) then
      some 4
     else
      lpO (loopW (S:=Int) (X:=Ou (Unit) (Int)) (fun a4 =>
          if a4 < ((p0.2).length:Int) then
           (idx p0.2 a4).bind fun x8 =>
           if x8=([]:List UInt8) then
            some (Stp.exit (Ou.ret 5))
           else
            if 32<((x8).length:Int) then
             some (Stp.exit (Ou.ret 4))
            else
             (qbq p0.1 x8).bind fun x10 =>
             if x10≠0 then
              some (Stp.exit (Ou.ret 13))
             else
              jp (fun (a12:Bool) =>
                if a12=true then
                 some (Stp.exit (Ou.ret 10))
                else
                 some (Stp.next (IntKind.wrap .i64 (a4+1))))
                fun k14 =>
               if 0<a4 then
                (idx p0.2 (IntKind.wrap .i64 (a4 - 1))).bind fun x15 =>
                (qdQ x15 x8).bind fun x17 =>
                k14 (decide (0≤x17))
               else
                k14 false
          else
           some (Stp.exit (Ou.go ()))) 0) (fun a20 =>
          some 0) some)
   fun k3 =>
  if p0.1<2 then
   k3 true
  else
   k3 (decide (16<p0.1))
set_option maxHeartbeats 1600000
set_option maxRecDepth 100000
theorem qhH {p0:List UInt8} {p1:List UInt8} {r:Int} (h:qcs p0 p1=some r):Pure Tryz.prog 108 [.str p0,.str p1] (· = hI r):=by
 unfold qcs at h;refine zaj Tryz.func108 rfl rfl (lb rfl) fun hf=>?_;unfold Tryz.f108;dsimp only [qaL,Nat.reduceAdd];refine zaa rfl fun K hK=>mv rfl rfl ?_;refine bf hK ⟨[(0,.str p0),(1,.str p1)],[]⟩ ?_;refine zaa rfl fun K hK=>mv rfl rfl (mv rfl rfl ?_);obtain ⟨x1,h2,h⟩:=bS h;refine b_op rfl (qat rfl rfl rfl rfl (zai (qdW h2)) ?_);refine mv rfl rfl ?_;refine bf hK ⟨[(4,hI x1)],[]⟩ ?_;obtain rfl:=oi h;exact AW.ret (qae (.inr rfl) (resT rfl rfl) rfl trivial)
theorem qkn {p0:List UInt8} {p1:List UInt8} {r:Int} (h:qdQ p0 p1=some r):Pure Tryz.prog 86 [.str p0,.str p1] (· = hI r):=by
 unfold qdQ at h;refine zaj Tryz.func86 rfl rfl (lb rfl) fun hf=>?_;unfold Tryz.f86;dsimp only [qaL,Nat.reduceAdd];refine zaa rfl fun K hK=>mv rfl rfl ?_;refine bf hK ⟨[(0,.str p0),(1,.str p1)],[]⟩ ?_;refine zaa rfl fun K hK=>mv rfl rfl (bv rfl (qcb rfl rfl ty9 rfl) (mv rfl rfl (bv rfl (qcb rfl rfl ty9 rfl) ?_)));obtain ⟨x1,h2,h⟩:=bS h;refine b_op rfl (qat rfl rfl rfl rfl (zai (qc1 h2)) ?_);refine mv rfl rfl (mv rfl rfl ?_);obtain ⟨x3,h4,h⟩:=bS h;refine b_op rfl (qat rfl rfl rfl rfl (zai (qhH h4)) ?_);refine b_op rfl (qdx rfl rfl (qdp (cs:=[hI x1,hI x3]) ty36 ty3 rfl rfl rfl rfl rfl) ?_);obtain ⟨x5,h6,h⟩:=bS h;refine b_op rfl (qat rfl rfl rfl rfl (zai (qia h6)) ?_);refine mv rfl rfl ?_;refine bf hK ⟨[(4,hI x5)],[]⟩ ?_;obtain rfl:=oi h;exact AW.ret (qae (.inr rfl) (resT rfl rfl) rfl trivial)
theorem qk1 {p0:qbF} {r:Int} (h:qd8 p0=some r):Pure Tryz.prog 57 [.agg [hI p0.1,slE eStr p0.2]] (· = hI r):=by
 unfold qd8 at h;refine zaj Tryz.func57 rfl rfl (lb rfl) fun hf=>?_;unfold Tryz.f57;dsimp only [qaL,Nat.reduceAdd];refine zaa rfl fun K hK=>b_op rfl (qbh rfl rfl rfl ?_);refine mv rfl rfl ?_;let E1:Nat × HV:=(1,.fptr [hI p0.1,slE eStr p0.2] 0);refine bf hK ⟨[E1],[]⟩ ?_;refine zad (zaf ?_);refine zag h (S:=Bool) (V:=Unit) (fun a v=>⟨[E1,(5,.bool a)],[]⟩) (fun a1 w2 h=>?_) (fun k3 h=>?_)
 ·refine zae rfl (fun hc=>?_) (fun hc=>?_)
  ·have h:=ifT hc h
   refine zaa rfl fun K hK=>mv rfl rfl ?_;refine bf hK ⟨[(2,hI 12)],[]⟩ ?_;obtain rfl:=oi h;exact AW.ret (qae (.inr rfl) (resT rfl rfl) rfl trivial)
  have h:=ifF (bF' hc) h;refine zaa rfl fun K hK=>bv rfl (qac qgj rfl) (bv rfl (qad ty22 rfl (qaj rfl rfl)) (bv rfl (qav rfl rfl ty22 rfl) (bv rfl (qag rfl rfl qdT) (mv rfl rfl ?_))));refine bf hK ⟨[E1,(14,.bool (decide (((p0.2).length:Int)=0)))],[]⟩ ?_;refine zae rfl (fun hc=>?_) (fun hc=>?_)
  ·obtain ⟨hc,h⟩:=cT hc h
   refine zaa rfl fun K hK=>mv rfl rfl ?_;refine bf hK ⟨[(2,hI 5)],[]⟩ ?_;obtain rfl:=oi h;exact AW.ret (qae (.inr rfl) (resT rfl rfl) rfl trivial)
  obtain ⟨hc,h⟩:=cF hc h;refine zaa rfl fun K hK=>bv rfl (qac qgj rfl) (bv rfl (qad ty22 rfl (qaj rfl rfl)) (bv rfl (qav rfl rfl ty22 rfl) (bv rfl (qag rfl rfl qbB) (mv rfl rfl ?_))));refine bf hK ⟨[E1,(19,.bool (decide (64<((p0.2).length:Int))))],[]⟩ ?_;refine zae rfl (fun hc=>?_) (fun hc=>?_)
  ·obtain ⟨hc,h⟩:=cT hc h
   refine zaa rfl fun K hK=>mv rfl rfl ?_;refine bf hK ⟨[(2,hI 4)],[]⟩ ?_;obtain rfl:=oi h;exact AW.ret (qae (.inr rfl) (resT rfl rfl) rfl trivial)
  obtain ⟨hc,h⟩:=cF hc h;refine zac ?_;refine zad ?_;refine zaa rfl fun K hK=>bv rfl (qac qgj rfl) (bv rfl (qad ty22 rfl (qaj rfl rfl)) (bv rfl (qav rfl rfl ty22 rfl) (mv rfl rfl ?_)));let E2:Nat × HV:=(26,hI ((p0.2).length:Int));let P1:ASf:=fun t H=>⟨E1::(25,slE eStr p0.2)::E2::t,H⟩;refine bf hK (P1 [(27,hI 0)] []) ?_;refine AW.lpR h (by first | exact qa8 | exact qc3) (S:=Int) (V:=Unit) (fun a v=>(P1 [(27,hI a)] [])) ?_ (X:=Unit) (W:=Unit) (fun a v=>⟨[],[]⟩) (fun a20 w21 h=>?_) (fun a4 w5 st6 h hr7=> ?_)
  ·exact to_L ⟨(),rfl⟩
  ·refine zaa rfl fun K hK=>mv rfl rfl ?_
   refine bf hK ⟨[(2,hI 0)],[]⟩ ?_;obtain rfl:=oi h;exact AW.ret (qae (.inr rfl) (resT rfl rfl) rfl trivial)
  refine zaa rfl fun K hK=>bv rfl (qag rfl rfl qaF) ?_;refine bf hK (P1 [(27,hI a4),(28,.bool (decide (a4<((p0.2).length:Int))))] []) ?_;refine zak rfl (fun hc=>?_) (fun hc=>?_)
  ·obtain ⟨hc,h⟩:=cT hc h
   refine zac ?_;refine zad (zaf ?_);refine zaa rfl fun K hK=>mv rfl rfl ?_;obtain ⟨x8,h9,h⟩:=bS h;refine bv rfl (qaI ty22 es22 rfl rfl (qay h9)) (bv rfl (qad ty9 rfl (qaW eStr h9 (o:=0) rfl rfl)) (mv rfl rfl (mv rfl rfl ?_)));let P2:ASf:=fun t H=>⟨E1::(3,hI a4)::(4,.str x8)::(25,slE eStr p0.2)::E2::(27,hI a4)::t,H⟩;refine bf hK (P2 [] []) ?_;refine zaf ?_;refine zaa rfl fun K hK=>mv rfl rfl (bv rfl (qag rfl rfl qlP) (mv rfl rfl ?_));refine bf hK (P2 [(32,.bool (decide (x8=nS)))] []) ?_;refine zae rfl (fun hc=>?_) (fun hc=>?_)
   ·obtain ⟨hc,h⟩:=cT hc h
    refine zaa rfl fun K hK=>mv rfl rfl ?_;refine bf hK ⟨[(2,hI 5)],[]⟩ ?_;have h:=hr7 _ h;obtain rfl:=oi h;exact AW.ret (qae (.inr rfl) (resT rfl rfl) rfl trivial)
   obtain ⟨hc,h⟩:=cF hc h;refine zaa rfl fun K hK=>mv rfl rfl (bv rfl (qcb rfl rfl ty9 rfl) (bv rfl (qag rfl rfl qbB) (mv rfl rfl ?_)));refine bf hK (P2 [(35,.bool (decide (32<((x8).length:Int))))] []) ?_;refine zae rfl (fun hc=>?_) (fun hc=>?_)
   ·obtain ⟨hc,h⟩:=cT hc h
    refine zaa rfl fun K hK=>mv rfl rfl ?_;refine bf hK ⟨[(2,hI 4)],[]⟩ ?_;have h:=hr7 _ h;obtain rfl:=oi h;exact AW.ret (qae (.inr rfl) (resT rfl rfl) rfl trivial)
   obtain ⟨hc,h⟩:=cF hc h;refine zaa rfl fun K hK=>bv rfl (qac qj7 rfl) (bv rfl (qad ty3 rfl (qaj rfl rfl)) (mv rfl rfl ?_));obtain ⟨x10,h11,h⟩:=bS h;refine b_op rfl (qat rfl rfl rfl rfl (zai (qeQ h11)) ?_);refine bv rfl (qag rfl rfl qcv) (mv rfl rfl ?_);refine bf hK (P2 [(39,.bool (decide (x10≠0)))] []) ?_;refine zae rfl (fun hc=>?_) (fun hc=>?_)
   ·obtain ⟨hc,h⟩:=cT hc h
    refine zaa rfl fun K hK=>mv rfl rfl ?_;refine bf hK ⟨[(2,hI 13)],[]⟩ ?_;have h:=hr7 _ h;obtain rfl:=oi h;exact AW.ret (qae (.inr rfl) (resT rfl rfl) rfl trivial)
   obtain ⟨hc,h⟩:=cF hc h;refine zag h (S:=Bool) (V:=Unit) (fun a v=>(P1 [(27,hI a4),(45,.bool a)] [])) (fun a12 w13 h=>?_) (fun k14 h=>?_)
   ·refine zae rfl (fun hc=>?_) (fun hc=>?_)
    ·have h:=ifT hc h
     refine zaa rfl fun K hK=>mv rfl rfl ?_;refine bf hK ⟨[(2,hI 10)],[]⟩ ?_;have h:=hr7 _ h;obtain rfl:=oi h;exact AW.ret (qae (.inr rfl) (resT rfl rfl) rfl trivial)
    have h:=ifF (bF' hc) h;refine zac ?_;refine zab rfl fun K hK=>bv rfl (qag rfl rfl qaX) (mv rfl rfl ?_);refine qab (hK _ ?_);exact to_L ⟨IntKind.wrap .i64 (a4+1),(),h,rfl⟩
   refine zab rfl fun K hK=>mv rfl rfl (bv rfl (qag rfl rfl qbB) (mv rfl rfl ?_));by_cases hg19:0<a4
   ·have h:=ifT hg19 h
    refine b_T rfl rfl rfl rfl (decide_eq_true hg19) (qai rfl (qac qgj rfl) ?_);refine b_T rfl rfl rfl rfl rfl (qai rfl (qad ty22 rfl (qaj rfl rfl)) ?_);refine b_T rfl rfl rfl rfl rfl (qai rfl (qaE rfl rfl).2 ?_);refine b_T rfl rfl rfl rfl rfl (qai rfl (qag rfl rfl qfX) ?_);obtain ⟨x15,h16,h⟩:=bS h;refine b_T rfl rfl rfl rfl rfl (qai rfl (qaI ty22 es22 rfl rfl (qay h16)) ?_);refine b_T rfl rfl rfl rfl rfl (qai rfl (qad ty9 rfl (qaW eStr h16 (o:=0) rfl rfl)) ?_);refine b_T rfl rfl rfl rfl rfl (qai rfl (qaE rfl rfl).2 ?_);obtain ⟨x17,h18,h⟩:=bS h;refine b_T rfl rfl rfl rfl rfl (qat rfl rfl rfl rfl (zai (qkn h18)) ?_);refine b_T rfl rfl rfl rfl rfl (qai rfl (qag rfl rfl qgL) ?_);refine bv rfl (qan rfl rfl rfl) (mv rfl rfl ?_);refine qab (hK _ ?_);exact to_L ⟨decide (0≤x17),(),h,rfl⟩
   have h:=ifF hg19 h;refine b_F rfl rfl rfl rfl rfl (decide_eq_false hg19) ?_
   iterate 8 refine b_F rfl rfl rfl rfl rfl rfl ?_
   refine bv rfl (qau rfl rfl rfl) (mv rfl rfl ?_);refine qab (hK _ ?_);exact to_L ⟨false,(),h,rfl⟩
  obtain ⟨hc,h⟩:=cF hc h;refine AW.exit ?_;exact to_L ⟨(),(),h,rfl⟩
 refine zab rfl fun K hK=>bv rfl (qac qj7 rfl) (bv rfl (qad ty3 rfl (qaj rfl rfl)) (bv rfl (qag rfl rfl qaF) (mv rfl rfl ?_)));by_cases hg22:p0.1<2
 ·have h:=ifT hg22 h
  refine b_F rfl rfl rfl rfl rfl (decide_eq_true hg22) ?_
  iterate 2 refine b_F rfl rfl rfl rfl rfl rfl ?_
  refine bv rfl (qan rfl rfl rfl) (mv rfl rfl ?_);refine qab (hK _ ?_);exact to_L ⟨true,(),h,rfl⟩
 have h:=ifF hg22 h;refine b_T rfl rfl rfl rfl (decide_eq_false hg22) (qai rfl (qac qj7 rfl) ?_);refine b_T rfl rfl rfl rfl rfl (qai rfl (qad ty3 rfl (qaj rfl rfl)) ?_);refine b_T rfl rfl rfl rfl rfl (qai rfl (qag rfl rfl qbB) ?_);refine bv rfl (qau rfl rfl rfl) (mv rfl rfl ?_);refine qab (hK _ ?_);exact to_L ⟨decide (16<p0.1),(),h,rfl⟩
end Go.AW

namespace Go.AW
open Go
def qdu (p0:Int):Option (Bool) :=
 some (decide (p0≠p0))
set_option maxHeartbeats 1600000 in
theorem qix {p0:Int}:Lq (qdu p0) (qb4 p0):=by
 unfold qdu qb4
 repeat' with_reducible first | intro _ | exact Lq.refl _ | exact Lq.none | apply zaq | apply Lq.bind | apply Lq.jp | apply Lq.loop | apply Lq.lpO | apply Lq.forL | apply_assumption
def qcg (p0:Int) (p1:Int):Option (Int) :=
 (qdu p0).bind fun x1 =>
 (qdu p1).bind fun x3 =>
 if x1=true then
  if x3=true then
   some 0
  else
   some (-1)
 else
  if x3=true then
   some 1
  else
   if p0<p1 then
    some (-1)
   else
    if p1<p0 then
     some 1
    else
     some 0
set_option maxHeartbeats 1600000 in
theorem qeX {p0:Int} {p1:Int}:Lq (qcg p0 p1) (qa3 p0 p1):=by
 unfold qcg qa3
 repeat' with_reducible first | intro _ | exact Lq.refl _ | exact Lq.none | apply zaq | apply Lq.bind | apply Lq.jp | apply Lq.loop | apply Lq.lpO | apply Lq.forL | apply_assumption | apply qix
def qev (p0:List (Int)):Option (Int) :=
 lpO (qgI (S:=Int) (X:=Ou (Unit) (Int)) (fun a1 =>
     if a1<((p0).length:Int) then
      (idx p0 a1).bind fun x5 =>
      if x5≠0 then
       some (Stp.exit (Ou.ret x5))
      else
       some (Stp.next (IntKind.wrap .i64 (a1+1)))
     else
      some (Stp.exit (Ou.go ()))) 0) (fun a7 =>
     some 0) some
set_option maxHeartbeats 1600000 in
theorem qhl {p0:List (Int)}:Lq (qev p0) (qdF p0):=by
 unfold qev qdF
 repeat' with_reducible first | intro _ | exact Lq.refl _ | exact Lq.none | apply zaq | apply Lq.bind | apply Lq.jp | apply Lq.loop | apply Lq.lpO | apply Lq.forL | apply_assumption
def qdg (p0:qaM) (p1:qaM):Option (Int) :=
 (qcg p0.1 p1.1).bind fun x1 =>
 (qcg p0.2.1 p1.2.1).bind fun x3 =>
 (qev [x1,x3]).bind fun x5 =>
 some x5
set_option maxHeartbeats 1600000 in
theorem qgH {p0:qaM} {p1:qaM}:Lq (qdg p0 p1) (qb2 p0 p1):=by
 unfold qdg qb2
 repeat' with_reducible first | intro _ | exact Lq.refl _ | exact Lq.none | apply zaq | apply Lq.bind | apply Lq.jp | apply Lq.loop | apply Lq.lpO | apply Lq.forL | apply_assumption | apply qeX | apply qhl
def qbI (p0:List (List UInt8)) (p1:List UInt8):Option (Int) :=
 lpO (qgI (S:=Int) (X:=Ou (Unit) (Int)) (fun a1 =>
   if a1<((p0).length:Int) then
    (idx p0 a1).bind fun x5 =>
    if p1=x5 then
     some (Stp.exit (Ou.ret a1))
    else
     some (Stp.next (IntKind.wrap .i64 (a1+1)))
   else
    some (Stp.exit (Ou.go ()))) 0) (fun a7 =>
   some (-1)) some
set_option maxHeartbeats 1600000 in
theorem qd9 {p0:List (List UInt8)} {p1:List UInt8}:Lq (qbI p0 p1) (qaA p0 p1):=by
 unfold qbI qaA
 repeat' with_reducible first | intro _ | exact Lq.refl _ | exact Lq.none | apply zaq | apply Lq.bind | apply Lq.jp | apply Lq.loop | apply Lq.lpO | apply Lq.forL | apply_assumption
def qbo (p0:List (List UInt8)) (p1:List UInt8):Option (Bool) :=
 (qbI p0 p1).bind fun x1 =>
 some (decide (0≤x1))
set_option maxHeartbeats 1600000 in
theorem qdR {p0:List (List UInt8)} {p1:List UInt8}:Lq (qbo p0 p1) (qaz p0 p1):=by
 unfold qbo qaz
 repeat' with_reducible first | intro _ | exact Lq.refl _ | exact Lq.none | apply zaq | apply Lq.bind | apply Lq.jp | apply Lq.loop | apply Lq.lpO | apply Lq.forL | apply_assumption | apply qd9
def qfI (p0:Int):Option (Bool) :=
 jp (fun (a1:Bool) =>
  some a1)
  fun k3 =>
  if 1≤p0 then
   k3 (decide (p0≤16))
  else
   k3 false
set_option maxHeartbeats 1600000 in
theorem qkE {p0:Int}:Lq (qfI p0) (qbR p0):=by
 unfold qfI qbR
 repeat' with_reducible first | intro _ | exact Lq.refl _ | exact Lq.none | apply zaq | apply Lq.bind | apply Lq.jp | apply Lq.loop | apply Lq.lpO | apply Lq.forL | apply_assumption
def qdf (l:List UInt8) (c:Int):Option Int:=some (Lib.indexByte l c.toNat.toUInt8)
set_option maxHeartbeats 1600000 in
theorem qgG {l:List UInt8} {c:Int}:Lq (qdf l c) (qaH l c):=by
 unfold qdf qaH
 repeat' with_reducible first | intro _ | exact Lq.refl _ | exact Lq.none | apply zaq | apply Lq.bind | apply Lq.jp | apply Lq.loop | apply Lq.lpO | apply Lq.forL | apply_assumption
def qeu (p0:Int) (p1:List UInt8):Option (Int) :=
 (qfI p0).bind fun x1 =>
 if (!x1)=true then
  some 12
 else
  if 65536<((p1).length:Int) then
   some 4
  else
   lpO (qgI (S:=Int) (X:=Ou (Unit) (Int)) (fun a3 =>
     if a3<((p1).length:Int) then
      if 0≤(0:Int)∧(0:Int)≤p0∧p0≤(([48,49,50,51,52,53,54,55,56,57,97,98,99,100,101,102]:List UInt8).length:Int) then
       (idx p1 a3).bind fun x8 =>
       (qdf ((([48,49,50,51,52,53,54,55,56,57,97,98,99,100,101,102]:List UInt8).take (p0).toNat).drop (0:Int).toNat) (x8.toNat:Int)).bind fun x10 =>
       if x10<0 then
        some (Stp.exit (Ou.ret 13))
       else
        some (Stp.next (IntKind.wrap .i64 (a3+1)))
      else none
     else
      some (Stp.exit (Ou.go ()))) 0) (fun a12 =>
     some 0) some
set_option maxHeartbeats 1600000 in
theorem qhi {p0:Int} {p1:List UInt8}:Lq (qeu p0 p1) (qbq p0 p1):=by
 unfold qeu qbq
 repeat' with_reducible first | intro _ | exact Lq.refl _ | exact Lq.none | apply zaq | apply Lq.bind | apply Lq.jp | apply Lq.loop | apply Lq.lpO | apply Lq.forL | apply_assumption | apply qgG | apply qkE
def qcP (p0:Int) (p1:Int) (p2:List (List UInt8)):Option (Bool) :=
 lpO (qgI (S:=Int) (X:=Ou (Unit) (Bool)) (fun a1 =>
     if a1<((p2).length:Int) then
      (idx p2 a1).bind fun x5 =>
      jp (fun (a7:Bool) =>
        if a7=true then
         some (Stp.exit (Ou.ret false))
        else
         some (Stp.next (IntKind.wrap .i64 (a1+1))))
        fun k9 =>
       if ((x5).length:Int)≠p1 then
        k9 true
       else
        (qeu p0 x5).bind fun x10 =>
        if x10≠0 then
         k9 true
        else
         if 0≤(0:Int)∧(0:Int)≤a1∧a1≤(p2.length:Int) then
          (qbo ((p2.take (a1).toNat).drop (0:Int).toNat) x5).bind fun x13 =>
          k9 x13
         else none
     else
      some (Stp.exit (Ou.go ()))) 0) (fun a17 =>
     some true) some
set_option maxHeartbeats 1600000 in
theorem qhk {p0:Int} {p1:Int} {p2:List (List UInt8)}:Lq (qcP p0 p1 p2) (qbX p0 p1 p2):=by
 unfold qcP qbX
 repeat' with_reducible first | intro _ | exact Lq.refl _ | exact Lq.none | apply zaq | apply Lq.bind | apply Lq.jp | apply Lq.loop | apply Lq.lpO | apply Lq.forL | apply_assumption | apply qdR | apply qhi
def qdB (p0 : qa4):Option (Bool) :=
 jp (fun (a1 : Bool) =>
   if a1=true then
    some false
   else
    lpO (qgI (S:=Int × (List (List UInt8))) (X:=Ou ((List (List UInt8))) (Bool)) (fun a4 =>
        if a4.1<((p0.2.2.2).length:Int) then
         (idx p0.2.2.2 a4.1).bind fun x8 =>
         jp (fun (a11:Bool) =>
           if a11=true then
            some (Stp.exit (Ou.ret false))
           else
            if fits 16 ((a4.2:List (List UInt8)).length+([x8.2.2]).length) then
             some (Stp.next (IntKind.wrap .i64 (a4.1+1),a4.2++[x8.2.2]))
            else none)
           fun k13 =>
          if (min x8.1 x8.2.1)<0 then
           k13 true
          else
           if ((p0.2.2.1).length:Int)≤(max x8.1 x8.2.1) then
            k13 true
           else
            if 0<a4.1 then
             (idx p0.2.2.2 (IntKind.wrap .i64 (a4.1 - 1))).bind fun x16 =>
             (qdg x16 x8).bind fun x18 =>
             k13 (decide (0≤x18))
            else
             k13 false
        else
         some (Stp.exit (Ou.go a4.2))) (0,([]:List (List UInt8)))) (fun a24 =>
        jp (fun (a26:Bool) =>
          some a26)
          fun k28 =>
         (qcP p0.1 p0.2.1 p0.2.2.1).bind fun x29 =>
         if x29=true then
          (qcP p0.1 (IntKind.wrap .i64 (2*p0.2.1)) a24).bind fun x31 =>
          k28 x31
         else
          k28 false) some)
   fun k3 =>
  if p0.1<2 then
   k3 true
  else
   if 16<p0.1 then
    k3 true
   else
    if p0.2.1<1 then
     k3 true
    else
     if 8<p0.2.1 then
      k3 true
     else
      if ((p0.2.2.1).length:Int)<2 then
       k3 true
      else
       if 16<((p0.2.2.1).length:Int) then
        k3 true
       else
        k3 (decide (64<((p0.2.2.2).length:Int)))
set_option maxHeartbeats 1600000 in
theorem lz_lookahead_formed {p0:qa4}:Lq (qdB p0) (qce p0):=by
 unfold qdB qce
 repeat' with_reducible first | intro _ | exact Lq.refl _ | exact Lq.none | apply zaq | apply Lq.bind | apply Lq.jp | apply Lq.loop | apply Lq.lpO | apply Lq.forL | apply_assumption | apply qgH | apply qhk
def qdS (p0:List UInt8) (p1:List UInt8):Option (Int) :=
 (qbv p0 p1).bind fun x1 =>
 some x1
set_option maxHeartbeats 1600000 in
theorem qhj {p0:List UInt8} {p1:List UInt8}:Lq (qdS p0 p1) (qcs p0 p1):=by
 unfold qdS qcs
 repeat' with_reducible first | intro _ | exact Lq.refl _ | exact Lq.none | apply zaq | apply Lq.bind | apply Lq.jp | apply Lq.loop | apply Lq.lpO | apply Lq.forL | apply_assumption
def qe7 (p0:List UInt8) (p1:List UInt8):Option (Int) :=
 (qcg ((p0).length:Int) ((p1).length:Int)).bind fun x1 =>
 (qdS p0 p1).bind fun x3 =>
 (qev [x1,x3]).bind fun x5 =>
 some x5
set_option maxHeartbeats 1600000 in
theorem qjJ {p0:List UInt8} {p1:List UInt8}:Lq (qe7 p0 p1) (qdQ p0 p1):=by
 unfold qe7 qdQ
 repeat' with_reducible first | intro _ | exact Lq.refl _ | exact Lq.none | apply zaq | apply Lq.bind | apply Lq.jp | apply Lq.loop | apply Lq.lpO | apply Lq.forL | apply_assumption | apply qeX | apply qhl | apply qhj
def qfJ (p0 : qbF):Option (Int) :=
 jp (fun (a1 : Bool) =>
   if a1=true then
    some 12
   else
    if ((p0.2).length:Int)=0 then
     some 5
    else
     if 64<((p0.2).length:Int) then
      some 4
     else
      lpO (qgI (S:=Int) (X:=Ou (Unit) (Int)) (fun a4 =>
          if a4 < ((p0.2).length:Int) then
           (idx p0.2 a4).bind fun x8 =>
           if x8=([]:List UInt8) then
            some (Stp.exit (Ou.ret 5))
           else
            if 32<((x8).length:Int) then
             some (Stp.exit (Ou.ret 4))
            else
             (qeu p0.1 x8).bind fun x10 =>
             if x10≠0 then
              some (Stp.exit (Ou.ret 13))
             else
              jp (fun (a12:Bool) =>
                if a12=true then
                 some (Stp.exit (Ou.ret 10))
                else
                 some (Stp.next (IntKind.wrap .i64 (a4+1))))
                fun k14 =>
               if 0<a4 then
                (idx p0.2 (IntKind.wrap .i64 (a4 - 1))).bind fun x15 =>
                (qe7 x15 x8).bind fun x17 =>
                k14 (decide (0≤x17))
               else
                k14 false
          else
           some (Stp.exit (Ou.go ()))) 0) (fun a20 =>
          some 0) some)
   fun k3 =>
  if p0.1<2 then
   k3 true
  else
   k3 (decide (16<p0.1))
set_option maxHeartbeats 1600000 in
theorem lz_code_Check {p0:qbF}:Lq (qfJ p0) (qd8 p0):=by
 unfold qfJ qd8
 repeat' with_reducible first | intro _ | exact Lq.refl _ | exact Lq.none | apply zaq | apply Lq.bind | apply Lq.jp | apply Lq.loop | apply Lq.lpO | apply Lq.forL | apply_assumption | apply qjJ | apply qhi
theorem qqs:qfJ qgK=some 0:=by decide +kernel
theorem qrP:qd8 qgK=some 0:=lz_code_Check.ap _ qqs
open Go.Proofs
set_option maxHeartbeats 6400000 in
set_option maxRecDepth 100000 in
theorem qrL:Pure Tryz.prog 24 [.agg [hI 2,slE eStr ([[48],[48,48,49]]:List (List UInt8))]] (· = .tup [.int .i64 2,.bool true,.int .i64 0]):=by
 refine zaj Tryz.func24 rfl rfl (lb rfl) fun hf=>?_;clear hf;unfold Tryz.f24;dsimp only [qaL,Nat.reduceAdd];refine zaa rfl fun K hK=>b_op rfl (qbh rfl rfl rfl ?_);refine mv rfl rfl (mv rfl rfl (mv rfl rfl ?_));refine qab (hK _ ?_);refine zad ?_;refine zaa rfl fun K hK=>bv rfl (qad ty65 rfl (qao rfl (lb rfl) rfl)) ?_;refine b_op rfl (qat rfl rfl rfl rfl (zai (qk1 qrP)) ?_);refine bv rfl (qag rfl rfl qcv) ?_;refine qab (hK _ ?_);refine zae rfl (fun hc=>absurd hc (by decide)) (fun _=>?_);refine zac ?_;refine zaa rfl fun K hK=>bv rfl (qad ty65 rfl (qao rfl (lb rfl) rfl)) ?_;refine b_op rfl (qdd rfl rfl rfl rfl (qrn fun v1 v2 H4 h3=>?_) );subst h3;refine b_op rfl (qaC (fid:=24) (zs:=[hI 0,.v (.slice none 0 0),.v (.map none)]) 24005 rfl rfl qe5 rfl (fun v5=>?_));refine b_op rfl (qax (cs:=[hI 2,slE eStr ([[48],[48,48,49]]:List (List UInt8)),.mp 58022 v1]) (zs:=[hI 2,slE eStr ([[48],[48,48,49]]:List (List UInt8)),.mp 58022 v1]) rfl rfl rfl qe5 rfl rfl rfl rfl rfl ?_);refine qab (hK _ ?_);refine zaa rfl fun K hK=>mv rfl rfl ?_;refine qab (hK _ ?_);refine zad ?_;refine zaa rfl fun K hK=>bv rfl (qac qgj rfl) (bv rfl (qad ty22 rfl (qaj rfl rfl)) (bv rfl (qav rfl rfl ty22 rfl) (mv rfl rfl ?_)));refine qab (hK _ ?_);refine zaf ?_;refine zal 16 ?_;refine zaa rfl fun K hK=>bv rfl (qag rfl rfl qaF) ?_;refine qab (hK _ ?_);refine zak rfl (fun _=>?_) (fun hc=>absurd hc (by decide));refine zac ?_;refine zad (zaf ?_);refine zaa rfl fun K hK=>mv rfl rfl (mv rfl rfl ?_);refine qab (hK _ ?_);refine zaa rfl fun K hK=>bv rfl (qaf qe5 rfl rfl (qao rfl (lb rfl) rfl)) (mv rfl rfl ?_);refine b_op rfl (qat rfl rfl rfl rfl (zai (qq8 58022 v1)) ?_);refine bv rfl (qav rfl rfl qaR rfl) (mv rfl rfl ?_);refine qab (hK _ ?_);refine zaf ?_;refine zal 16 ?_;refine zaa rfl fun K hK=>bv rfl (qag rfl rfl qaF) ?_;refine qab (hK _ ?_);refine zak rfl (fun _=>?_) (fun hc=>absurd hc (by decide));refine zac ?_;refine zad (zaf ?_);refine zaa rfl fun K hK=>bv rfl (qaI qaR qfW rfl rfl (qay (show idx ([([],[48,49])]:List qah) 0=some _ from rfl))) (bv rfl (qad qaJ rfl (qgg eFirstSecond (show idx ([([],[48,49])]:List qah) 0=some _ from rfl) rfl rfl)) ?_);refine b_op rfl (qaC (fid:=24) (zs:=[.str nS,.str nS]) 24009 rfl rfl qaJ rfl (fun v9=>?_));refine b_op rfl (qax (cs:=[.str nS,.str [48,49]]) (zs:=[.str nS,.str [48,49]]) rfl rfl rfl qaJ rfl rfl rfl rfl rfl ?_);refine qab (hK _ ?_);refine zad ?_;refine zaa rfl fun K hK=>bv rfl (qal qem rfl rfl) (bv rfl (qaf qbC rfl rfl (qaj rfl rfl)) (bv rfl (qaf qaJ rfl rfl (qao rfl (lb rfl) rfl)) ?_));refine qg1 qbc (k:=([],[48,49])) (e:=[(([],[48,49]),hI 1),(([],[49]),hI 0),(([48,49],[49]),hI 0)]) (zh:=hI 0) rfl qbC ty3 rfl rfl rfl (by decide) rfl (by decide) ?_;refine bv rfl (qag rfl rfl qdT) ?_;refine qab (hK _ ?_);refine zae rfl (fun hc=>absurd hc (by decide)) (fun _=>?_);refine zac ?_;refine zab rfl fun K hK=>mv rfl rfl (bv rfl (qal qem rfl rfl) (bv rfl (qaf qbC rfl rfl (qaj rfl rfl)) (bv rfl (qaf qaJ rfl rfl (qao rfl (lb rfl) rfl)) ?_)));refine qg1 qbc (k:=([],[48,49])) (e:=[(([],[48,49]),hI 1),(([],[49]),hI 0),(([48,49],[49]),hI 0)]) (zh:=hI 0) rfl qbC ty3 rfl rfl rfl (by decide) rfl (by decide) ?_;refine bv rfl (qk2 rfl rfl rfl) (mv rfl rfl ?_);refine qab (hK _ ?_);show AW _ _ _ _ _ _;refine zab rfl fun K hK=>bv rfl (qag rfl rfl qaX) (mv rfl rfl ?_);refine qab (hK _ ?_);show UW _ _ _ _ _ _ _;refine zaa rfl fun K hK=>bv rfl (qag rfl rfl qaF) ?_;refine qab (hK _ ?_);refine zak rfl (fun hc=>absurd hc (by decide)) (fun _=>?_);refine AW.exit ?_;refine zab rfl fun K hK=>bv rfl (qag rfl rfl qaX) (mv rfl rfl ?_);refine qab (hK _ ?_);show UW _ _ _ _ _ _ _;refine zaa rfl fun K hK=>bv rfl (qag rfl rfl qaF) ?_;refine qab (hK _ ?_);refine zak rfl (fun _=>?_) (fun hc=>absurd hc (by decide));refine zac ?_;refine zad (zaf ?_);refine zaa rfl fun K hK=>mv rfl rfl (mv rfl rfl ?_);refine qab (hK _ ?_);refine zaa rfl fun K hK=>bv rfl (qaf qe5 rfl rfl (qao rfl (lb rfl) rfl)) (mv rfl rfl ?_);refine b_op rfl (qat rfl rfl rfl rfl (zai (qq7 58022 v1)) ?_);refine bv rfl (qav rfl rfl qaR rfl) (mv rfl rfl ?_)
 refine qab (hK _ ?_);refine zaf ?_;refine zal 16 ?_;refine zaa rfl fun K hK=>bv rfl (qag rfl rfl qaF) ?_;refine qab (hK _ ?_);refine zak rfl (fun hc=>absurd hc (by decide)) (fun _=>?_);refine AW.exit ?_;refine zab rfl fun K hK=>bv rfl (qag rfl rfl qaX) (mv rfl rfl ?_);refine qab (hK _ ?_);show UW _ _ _ _ _ _ _;refine zaa rfl fun K hK=>bv rfl (qag rfl rfl qaF) ?_;refine qab (hK _ ?_);refine zak rfl (fun hc=>absurd hc (by decide)) (fun _=>?_);refine AW.exit ?_;refine zaa rfl fun K hK=>mv rfl rfl (bv rfl (qag rfl rfl qaX) (mv rfl rfl (mv rfl rfl (mv rfl rfl ?_))));refine qab (hK _ ?_);refine AW.to (qaZ (s':=⟨[(2,hI 2),(3,.bool true),(4,hI 0)],[]⟩) (le_q rfl rfl) ?_);refine AW.ret ?_;exact qae (.inr rfl) (resT rfl (resT rfl (resT rfl rfl))) rfl ⟨trivial,trivial,trivial,trivial⟩
def kfII (k:Int × Int):Value:=.agg #[.int .i64 k.1,.int .i64 k.2]
def khII (k:Int × Int):HV:=.agg [.int .i64 k.1,.int .i64 k.2]
def wfII (k:Int × Int):Bool:=(Lit.int .i64 k.1).wf && (Lit.int .i64 k.2).wf
theorem qln:KeyT Tryz.prog 105 khII kfII wfII where
 law:=Go.Maps.Keyed.of_law (deep_law (m:=3) (by decide) (by kernel_rfl) (by kernel_rfl) (by kernel_rfl))
 inj:=by
  rintro ⟨a,b⟩ ⟨c,d⟩ h
  simp only [kfII,Value.agg.injEq,Array.mk.injEq,List.cons.injEq,Value.int.injEq,true_and,and_true] at h;obtain ⟨rfl,rfl⟩:=h;rfl
 kv:=by
  rintro ⟨a,b⟩ h
  have hu:(match Tryz.prog.underlying 105 with | some (.array _ _)=>true | _=>false)=true:=by kernel_rfl
  have hf:(Tryz.prog.keyType 105 && (Value.agg #[.int .i64 a,.int .i64 b]).formed Tryz.prog 105)=true:=by kernel_rfl
  have hb:(Lit.int .i64 a).wf=true∧(Lit.int .i64 b).wf=true:=by
   have:=h;unfold wfII at this;rw [Bool.and_eq_true] at this;exact this
  have hd:Tryz.prog.types.size=(Tryz.prog.types.size - 1)+1:=by kernel_rfl
  have hI:Tryz.prog.underlying 3=some (.int .i64):=Tryz.underlying3
  have hA:Tryz.prog.underlying 105=some (.array 2 3):=by kernel_rfl
  have c1:Tryz.prog.cellsOf 3=1:=by kernel_rfl
  have c2:Tryz.prog.cellsOf 105=2:=by kernel_rfl
  have e:∀ n:Int,(Lit.int .i64 n).wf=true→Tryz.prog.keyLits Tryz.prog.types.size 3 [.int .i64 n]=some [Lit.int .i64 n]:=fun n hn=>by
   rw [hd];unfold Program.keyLits;simp only [hI,hn,and_self,if_true]
  have hl:Tryz.prog.keyLits (Tryz.prog.types.size+1) 105 [.int .i64 a,.int .i64 b]=some [Lit.int .i64 a,Lit.int .i64 b]:=by
   unfold Program.keyLits;simp only [hA,c1,c2,List.length_cons,List.length_nil,if_true];have er:List.range 2=[0,1]:=rfl;rw [er];show Option.map List.flatten ([0,1].mapM fun i=>Tryz.prog.keyLits Tryz.prog.types.size 3 (List.take 1 (List.drop (i*1) [.int .i64 a,.int .i64 b])))=_;clear hd;generalize Tryz.prog.types.size=sz at e ⊢;simp [e a hb.1,e b hb.2]
  refine ⟨?_,?_⟩
  ·rintro w μ x ⟨_,vs,rfl,x1,_,rfl,⟨rfl,_⟩,x2,_,rfl,⟨rfl,_⟩,rfl⟩
   rfl
  unfold keyOf kfII;split
  ·rw [if_pos hf]
   show ∃ l,Option.map _ (Tryz.prog.keyLits _ _ [.int .i64 a,.int .i64 b])=some l;rw [hl];exact ⟨_,rfl⟩
  ·rename_i he; rw [he] at hu; cases hu
  rename_i h1 h2
  split at hu
  ·rename_i n e he; exact absurd he (h1 n e)
  cases hu
abbrev swE:EncL (Int × Int × List UInt8):=encF 3 (fun x=>[hI x.1,hI x.2.1,.str x.2.2]) (fun _=>rfl)
def sw4:List (Int × Int × List UInt8):=[(0,0,[49,48,49,48,48,48]),(0,1,[49,48,48,48,48,48]),(2,0,[48,48,49,48,48,48]),(2,1,[48,49,48,48,48,48])]
def bs4:List (List UInt8):=[[49,48,49],[49,48,48],[48,48,49],[48,49,48]]
abbrev tabH:HV:=.agg [.int .i64 2,.int .i64 3,slE eStr bs4,slE swE sw4]
def E4:List ((Int × Int) × HV):=sw4.map fun x=>((x.1,x.2.1),.str x.2.2)
set_option maxRecDepth 100000 in
theorem qro {K:HV→Heap→Prop} (hK:∀ ver,K (.mp 56006 ver) [(56006,ver,.gmap (gcan kfII E4) none)]):ACall Tryz.prog 56 [tabH] [] K:=by
  refine ACall.of_body Tryz.func56 rfl rfl (lb rfl) ?_;unfold Tryz.f56;dsimp only [qaL,Nat.reduceAdd];refine zaa rfl fun L hL=>?_;refine b_op rfl (qbh rfl rfl rfl ?_);refine mv rfl rfl ?_;refine qab (hL _ ?_);clear hL L;refine zaa rfl fun L hL=>?_;refine b_op rfl (qcT (fid:=56) (fun _:Unit=>HV.bool true) 56006 rfl rfl (fun ver=>?_));refine b_to (qi1 kfII (id:=56006) (ver:=ver) rfl ?_);refine mv rfl rfl ?_;refine qab (hL _ ?_);clear hL L;refine zad ?_;refine zaa rfl fun L hL=>?_;refine bv rfl (qac qm7 rfl) (bv rfl (qad ty58 rfl (qaj rfl rfl)) (bv rfl (qav rfl rfl ty58 rfl) (mv rfl rfl ?_)));let P1:ASf:=fun t H=>⟨(3,.mp 56006 ver)::(8,slE swE sw4)::(9,hI 4)::t,H⟩;refine qmw hL (s':=(P1 [(10,hI 0)] [(56006,ver,.gmap (gcan kfII []) none)])) (zam ⟨rfl,rfl,rfl,rfl,trivial⟩ ⟨rfl,trivial⟩) ?_;clear hL L;refine zaf ?_;refine zal 5 ?_;refine zaa rfl fun L hL=>?_;refine bv rfl (qag rfl rfl qaF) ?_;refine qab (hL _ ?_);clear hL L;refine zak rfl (fun hc=>?_) (fun hc=>absurd hc (by decide));clear hc;refine zac ?_;refine zad ?_;refine zaf ?_;refine zaa rfl fun L hL=>?_;refine bv rfl (qaI ty58 es58 rfl rfl (qay (show idx sw4 0=some _ from rfl))) (bv rfl (qad qeD rfl (qm0 swE (show idx sw4 0=some _ from rfl) (o:=0) rfl (by decide) rfl)) ?_);refine b_op rfl (qaC (fid:=56) (zs:=[hI 0,hI 0,.str []]) 56005 rfl rfl qeD rfl (fun v5=>?_));refine b_op rfl (qax (cs:=[hI 0,hI 0,.str [49,48,49,48,48,48]]) (zs:=[hI 0,hI 0,.str [49,48,49,48,48,48]]) rfl rfl rfl qeD rfl rfl rfl rfl rfl ?_);refine qab (hL _ ?_);clear hL L;refine zab rfl fun L hL=>?_;refine mv rfl rfl (bv rfl (qal qgl rfl rfl) (bv rfl (qaf ty3 rfl rfl (qaj rfl rfl)) (bv rfl (qal qgk rfl rfl) (bv rfl (qaf ty3 rfl rfl (qaj rfl rfl)) ?_))));refine qiS (cs:=[hI 0,hI 0]) rfl qnA ty3 rfl rfl rfl ?_;refine bv rfl (qal qjq rfl rfl) (bv rfl (qaf ty9 rfl rfl (qaj rfl rfl)) ?_);refine qfS qln (k:=(0,0)) (e:=[]) (hv:=HV.str [49,48,49,48,48,48]) (.inl rfl) qnB rfl rfl (by decide) rfl rfl (by decide) (qaK (fun _ _ _ e=>by cases e) (qaK (fun _ _ _ e=>by cases e) (qaK (fun _ _ _ e=>by cases e) qa7))) ?_;refine qab (hL _ ?_);clear hL L;show AW _ _ _ (Code.region 6 _ _) _ _;refine zab rfl fun L hL=>?_;refine bv rfl (qag rfl rfl qaX) (mv rfl rfl ?_);refine qab (hL _ ?_);clear hL L;show UW _ _ _ _ _ _ _;refine AW.to (qaZ (s':=(P1 [(10,hI 1)] [(56006,ver,.gmap (gcan kfII [((0,0),.str [49,48,49,48,48,48])]) none)])) (zam ⟨rfl,rfl,rfl,rfl,trivial⟩ ⟨rfl,trivial⟩) ?_);refine zaa rfl fun L hL=>?_;refine bv rfl (qag rfl rfl qaF) ?_;refine qab (hL _ ?_);clear hL L;refine zak rfl (fun hc=>?_) (fun hc=>absurd hc (by decide));clear hc;refine zac ?_;refine zad ?_;refine zaf ?_;refine zaa rfl fun L hL=>?_;refine bv rfl (qaI ty58 es58 rfl rfl (qay (show idx sw4 1=some _ from rfl))) (bv rfl (qad qeD rfl (qm0 swE (show idx sw4 1=some _ from rfl) (o:=0) rfl (by decide) rfl)) ?_);refine b_op rfl (qaC (fid:=56) (zs:=[hI 0,hI 0,.str []]) 56005 rfl rfl qeD rfl (fun v5=>?_));refine b_op rfl (qax (cs:=[hI 0,hI 1,.str [49,48,48,48,48,48]]) (zs:=[hI 0,hI 1,.str [49,48,48,48,48,48]]) rfl rfl rfl qeD rfl rfl rfl rfl rfl ?_);refine qab (hL _ ?_);clear hL L;refine zab rfl fun L hL=>?_;refine mv rfl rfl (bv rfl (qal qgl rfl rfl) (bv rfl (qaf ty3 rfl rfl (qaj rfl rfl)) (bv rfl (qal qgk rfl rfl) (bv rfl (qaf ty3 rfl rfl (qaj rfl rfl)) ?_))));refine qiS (cs:=[hI 0,hI 1]) rfl qnA ty3 rfl rfl rfl ?_;refine bv rfl (qal qjq rfl rfl) (bv rfl (qaf ty9 rfl rfl (qaj rfl rfl)) ?_);refine qfS qln (k:=(0,1)) (e:=[((0,0),.str [49,48,49,48,48,48])]) (hv:=HV.str [49,48,48,48,48,48]) (.inl rfl) qnB rfl rfl (by decide) rfl rfl (by decide) (qaK (fun _ _ _ e=>by cases e) (qaK (fun _ _ _ e=>by cases e) (qaK (fun _ _ _ e=>by cases e) qa7))) ?_;refine qab (hL _ ?_);clear hL L;show AW _ _ _ (Code.region 6 _ _) _ _;refine zab rfl fun L hL=>?_;refine bv rfl (qag rfl rfl qaX) (mv rfl rfl ?_);refine qab (hL _ ?_);clear hL L;show UW _ _ _ _ _ _ _;refine AW.to (qaZ (s':=(P1 [(10,hI 2)] [(56006,ver,.gmap (gcan kfII [((0,0),.str [49,48,49,48,48,48]),((0,1),.str [49,48,48,48,48,48])]) none)])) (zam ⟨rfl,rfl,rfl,rfl,trivial⟩ ⟨rfl,trivial⟩) ?_)
  refine zaa rfl fun L hL=>?_;refine bv rfl (qag rfl rfl qaF) ?_;refine qab (hL _ ?_);clear hL L;refine zak rfl (fun hc=>?_) (fun hc=>absurd hc (by decide));clear hc;refine zac ?_;refine zad ?_;refine zaf ?_;refine zaa rfl fun L hL=>?_;refine bv rfl (qaI ty58 es58 rfl rfl (qay (show idx sw4 2=some _ from rfl))) (bv rfl (qad qeD rfl (qm0 swE (show idx sw4 2=some _ from rfl) (o:=0) rfl (by decide) rfl)) ?_);refine b_op rfl (qaC (fid:=56) (zs:=[hI 0,hI 0,.str []]) 56005 rfl rfl qeD rfl (fun v5=>?_));refine b_op rfl (qax (cs:=[hI 2,hI 0,.str [48,48,49,48,48,48]]) (zs:=[hI 2,hI 0,.str [48,48,49,48,48,48]]) rfl rfl rfl qeD rfl rfl rfl rfl rfl ?_);refine qab (hL _ ?_);clear hL L;refine zab rfl fun L hL=>?_;refine mv rfl rfl (bv rfl (qal qgl rfl rfl) (bv rfl (qaf ty3 rfl rfl (qaj rfl rfl)) (bv rfl (qal qgk rfl rfl) (bv rfl (qaf ty3 rfl rfl (qaj rfl rfl)) ?_))));refine qiS (cs:=[hI 2,hI 0]) rfl qnA ty3 rfl rfl rfl ?_;refine bv rfl (qal qjq rfl rfl) (bv rfl (qaf ty9 rfl rfl (qaj rfl rfl)) ?_);refine qfS qln (k:=(2,0)) (e:=[((0,0),.str [49,48,49,48,48,48]),((0,1),.str [49,48,48,48,48,48])]) (hv:=HV.str [48,48,49,48,48,48]) (.inl rfl) qnB rfl rfl (by decide) rfl rfl (by decide) (qaK (fun _ _ _ e=>by cases e) (qaK (fun _ _ _ e=>by cases e) (qaK (fun _ _ _ e=>by cases e) qa7))) ?_;refine qab (hL _ ?_);clear hL L;show AW _ _ _ (Code.region 6 _ _) _ _;refine zab rfl fun L hL=>?_;refine bv rfl (qag rfl rfl qaX) (mv rfl rfl ?_);refine qab (hL _ ?_);clear hL L;show UW _ _ _ _ _ _ _;refine AW.to (qaZ (s':=(P1 [(10,hI 3)] [(56006,ver,.gmap (gcan kfII [((0,0),.str [49,48,49,48,48,48]),((0,1),.str [49,48,48,48,48,48]),((2,0),.str [48,48,49,48,48,48])]) none)])) (zam ⟨rfl,rfl,rfl,rfl,trivial⟩ ⟨rfl,trivial⟩) ?_);refine zaa rfl fun L hL=>?_;refine bv rfl (qag rfl rfl qaF) ?_;refine qab (hL _ ?_);clear hL L;refine zak rfl (fun hc=>?_) (fun hc=>absurd hc (by decide));clear hc;refine zac ?_;refine zad ?_;refine zaf ?_;refine zaa rfl fun L hL=>?_;refine bv rfl (qaI ty58 es58 rfl rfl (qay (show idx sw4 3=some _ from rfl))) (bv rfl (qad qeD rfl (qm0 swE (show idx sw4 3=some _ from rfl) (o:=0) rfl (by decide) rfl)) ?_);refine b_op rfl (qaC (fid:=56) (zs:=[hI 0,hI 0,.str []]) 56005 rfl rfl qeD rfl (fun v5=>?_));refine b_op rfl (qax (cs:=[hI 2,hI 1,.str [48,49,48,48,48,48]]) (zs:=[hI 2,hI 1,.str [48,49,48,48,48,48]]) rfl rfl rfl qeD rfl rfl rfl rfl rfl ?_);refine qab (hL _ ?_);clear hL L;refine zab rfl fun L hL=>?_;refine mv rfl rfl (bv rfl (qal qgl rfl rfl) (bv rfl (qaf ty3 rfl rfl (qaj rfl rfl)) (bv rfl (qal qgk rfl rfl) (bv rfl (qaf ty3 rfl rfl (qaj rfl rfl)) ?_))));refine qiS (cs:=[hI 2,hI 1]) rfl qnA ty3 rfl rfl rfl ?_;refine bv rfl (qal qjq rfl rfl) (bv rfl (qaf ty9 rfl rfl (qaj rfl rfl)) ?_);refine qfS qln (k:=(2,1)) (e:=[((0,0),.str [49,48,49,48,48,48]),((0,1),.str [49,48,48,48,48,48]),((2,0),.str [48,48,49,48,48,48])]) (hv:=HV.str [48,49,48,48,48,48]) (.inl rfl) qnB rfl rfl (by decide) rfl rfl (by decide) (qaK (fun _ _ _ e=>by cases e) (qaK (fun _ _ _ e=>by cases e) (qaK (fun _ _ _ e=>by cases e) qa7))) ?_;refine qab (hL _ ?_);clear hL L;show AW _ _ _ (Code.region 6 _ _) _ _;refine zab rfl fun L hL=>?_;refine bv rfl (qag rfl rfl qaX) (mv rfl rfl ?_);refine qab (hL _ ?_);clear hL L;show UW _ _ _ _ _ _ _;refine AW.to (qaZ (s':=(P1 [(10,hI 4)] [(56006,ver,.gmap (gcan kfII [((0,0),.str [49,48,49,48,48,48]),((0,1),.str [49,48,48,48,48,48]),((2,0),.str [48,48,49,48,48,48]),((2,1),.str [48,49,48,48,48,48])]) none)])) (zam ⟨rfl,rfl,rfl,rfl,trivial⟩ ⟨rfl,trivial⟩) ?_);refine zaa rfl fun L hL=>?_;refine bv rfl (qag rfl rfl qaF) ?_;refine qab (hL _ ?_);clear hL L;refine zak rfl (fun hc=>absurd hc (by decide)) (fun hc=>?_);clear hc;refine AW.exit ?_;refine zaa rfl fun L hL=>?_;refine mv rfl rfl (mv rfl rfl ?_);refine qab (hL _ ?_);clear hL L;refine AW.ret ?_;exact qnI (hs:=[.mp 56006 ver]) (q:=HV.mp 56006 ver) (.inr rfl) (resT rfl rfl) rfl (hK ver)
theorem qo3:qdB (2,3,[[49,48,49],[49,48,48],[48,48,49],[48,49,48]],[(0,0,[49,48,49,48,48,48]),(0,1,[49,48,48,48,48,48]),(2,0,[48,48,49,48,48,48]),(2,1,[48,49,48,48,48,48])])=some true:=by decide +kernel
theorem qqk:qce (2,3,[[49,48,49],[49,48,48],[48,48,49],[48,49,48]],[(0,0,[49,48,49,48,48,48]),(0,1,[49,48,48,48,48,48]),(2,0,[48,48,49,48,48,48]),(2,1,[48,49,48,48,48,48])])=some true:=lz_lookahead_formed.ap _ qo3
section
variable {P:Program} {ro:Option Nat} {N:Nat} {o:Oper} {sl:List (Nat × HV)} {H:Heap} {all:Array Oper} {rest:List Oper} {Q:AS→Prop}
variable {K:Type} [DecidableEq K] {kt:TypeId} {kh:K→HV} {kf:K→Value} {wf:K→Bool}
theorem qoG (hN:okd N o.dst=true) (T:KeyT P kt kh kf wf) {d:Nat} {t et:TypeId} {a b:Nat} {z:Value} {m x:Operand} {id ver:Nat} {k:K} {e:List (K × HV)} {pe:Option (Nat × Value)} {Te:TyI} {zh:HV}
  (h0:(o.dst,o.op)=(some d,.lookup t m x true)) (hT:ty P t=some ⟨.map kt et,a,b,z⟩) (hTe:ty P et=some Te) (hz:qbQ Te.zero=some zh)
  (hm:(⟨sl,H⟩:AS).ev m=some (.mp id ver)) (hx:(⟨sl,H⟩:AS).ev x=some (kh k)) (hk:wf k=true) (hg:hget H id=some (ver,.gmap (gcan kf e) pe)) (hw:∀ x∈e,wf x.1=true)
  (kk:bops P ro N all rest Q ⟨(d,.tup [(qdJ k e).getD zh,.bool (qdJ k e).isSome])::sl,H⟩):AOp P ro N o (fun s'=>bops P ro N all rest Q s') ⟨sl,H⟩:=by
 obtain ⟨e2,e3⟩:=Prod.mk.inj h0;refine zaF T e3 hN hT rfl hTe hz hm hx hk hg hw ?_;rw [e2]; exact qaG (qcd (s:=⟨sl,H⟩) d _) kk
end
theorem qsB {P:Program} {s:AS} {t e:TypeId} {n a b:Nat} {z:Value} {ps:List (Nat × Operand)} {E:TyI} {zs cs:List HV} {qs:List (Nat × HV)} (hT:ty P t=some ⟨.array n e,a,b,z⟩) (hE:ty P e=some E) (hz:qbj z=some zs) (hq:qee s ps=some qs)
  (hf:qgM (fun i=>some (i*E.size,E.size)) qs zs=some cs):qdq P s t ps (· = .agg cs):=by
 unfold qdq;simp only [hT,hE,hz,hq];rw [hf]
set_option maxRecDepth 100000 in
theorem qqq (hcf:Pure Tryz.prog 54 [slE eInt [0,0,1],HV.fn (.func 55) [] [HV.fptr [.int .i64 2,.int .i64 3,slE eStr bs4,slE swE sw4] 0]] (· = HV.bool false)):Pure Tryz.prog 22 [tabH,slE eInt [0,0,1]] (· = .tup [.str [49,48,49,48,48,48,49,48,48],.int .i64 0]):=by
 refine zaj Tryz.func22 rfl rfl (Nat.le_of_ble_eq_true rfl) fun hf=>?_;unfold Tryz.f22;dsimp only [qaL,Nat.reduceAdd];refine zaa rfl fun L hL=>?_;refine b_op rfl (qbh rfl rfl rfl ?_);refine mv rfl rfl ?_;refine mv rfl rfl ?_;refine qab (hL _ ?_);clear hL L;refine zad ?_;refine zaa rfl fun L hL=>?_;refine bv rfl (qad ty60 rfl (qao rfl (Nat.le_of_ble_eq_true rfl) rfl)) ?_;refine b_op rfl (qat rfl rfl rfl rfl (zai (qg7 qqk)) ?_);refine bv rfl (qdX rfl) ?_;refine qab (hL _ ?_);clear hL L;refine zae rfl (fun hc=>absurd hc (by decide)) (fun hc=>?_);refine zac ?_;refine zad ?_;refine zaa rfl fun L hL=>?_;refine mv rfl rfl ?_;refine bv rfl (qeT rfl rfl) ?_;refine b_op rfl (qat rfl rfl rfl rfl (zai hcf) ?_);refine qab (hL _ ?_);clear hL L;refine zae rfl (fun hc=>absurd hc (by decide)) (fun hc=>?_);refine zac ?_;refine zad ?_;refine zaa rfl fun L hL=>?_;refine mv rfl rfl ?_;refine bv rfl (qav rfl rfl ty36 rfl) ?_;refine bv rfl (qac qlw rfl) ?_;refine bv rfl (qad ty3 rfl (qaj rfl rfl)) ?_;refine bv rfl (qag rfl rfl qpk) ?_;refine bv rfl (qag rfl rfl qbB) ?_;refine qab (hL _ ?_);clear hL L;refine zae rfl (fun hc=>absurd hc (by decide)) (fun hc=>?_);refine zac ?_;refine zaa rfl fun L hL=>?_;refine bv rfl (qad ty60 rfl (qao rfl (Nat.le_of_ble_eq_true rfl) rfl)) ?_;refine b_op rfl (qdd rfl rfl rfl rfl (qro fun vm=>?_));refine mv rfl rfl ?_;refine qab (hL _ ?_);clear hL L;refine zaa rfl fun L hL=>?_;refine b_op rfl (qaC (fid:=22) (zs:=[HV.v (.pointer none),HV.v (.slice none 0 0)]) 22007 rfl rfl ty69 rfl (fun v19=>?_));refine b_to (qhM 22507 22007 v19 2 1 1 5 69 rfl rfl (by decide) fun v20=>?_);refine qmw hL (s':=⟨[(1,slE eInt [0,0,1]),(2,HV.fptr [.int .i64 2,.int .i64 3,slE eStr bs4,slE swE sw4] 0),(4,HV.str []),(5,HV.int .i64 0),(6,HV.mp 56006 vm),(7,HV.ptr 22007 v19 0)],[(56006,vm,.gmap (gcan kfII E4) none),(22007,v19,bldO 22007 v19 22507 v20 false ([]:List UInt8)),(22507,v20,bytO ([]:List UInt8))]⟩) (zam ⟨rfl,rfl,rfl,rfl,rfl,rfl,trivial⟩ ⟨rfl,rfl,rfl,trivial⟩) ?_;clear hL L;refine zad ?_;refine zaf ?_;refine zal 4 ?_;refine zad ?_;refine zaa rfl fun L hL=>?_;refine mv rfl rfl ?_;refine bv rfl (qav rfl rfl ty36 rfl) ?_;refine bv rfl (qag rfl rfl qbB) ?_;refine qab (hL _ ?_);clear hL L;refine zae rfl (fun hc=>?_) (fun hc=>absurd hc (by decide));refine zac ?_;refine zaf ?_;refine zad ?_;refine zaa rfl fun L hL=>?_;refine mv rfl rfl ?_;refine bv rfl (qav rfl rfl ty36 rfl) ?_;refine bv rfl (qag rfl rfl qbB) ?_;refine qab (hL _ ?_);clear hL L;refine zae rfl (fun hc=>?_) (fun hc=>absurd hc (by decide));refine AW.dys follows fun L hL=>?_;refine y_st 8 rfl rfl ?_;refine sm rfl rfl ?_;refine sm rfl rfl ?_;refine sv rfl (qaI ty36 es36 rfl rfl (qay (show idx [(0:Int),0,1] 0=some _ from rfl))) ?_;refine sv rfl (qad ty3 rfl (qaW eInt (show idx [(0:Int),0,1] 0=some _ from rfl) (o:=0) rfl rfl)) ?_;refine sm rfl rfl ?_;refine sv rfl (qaI ty36 es36 rfl rfl (qay (show idx [(0:Int),0,1] 1=some _ from rfl))) ?_;refine sv rfl (qad ty3 rfl (qaW eInt (show idx [(0:Int),0,1] 1=some _ from rfl) (o:=0) rfl rfl)) ?_;refine s_op rfl rfl (qoB (cs:=[HV.int .i64 0,HV.int .i64 0]) rfl (qsB qnA ty3 rfl rfl rfl) ?_);refine qb7 ?_;refine qsM rfl rfl rfl rfl (fun hN=>qoG hN qln (k:=(0,0)) (e:=E4) (zh:=HV.str []) rfl qnB ty9 rfl rfl rfl (by decide) rfl (by decide) ?_);refine qab ?_;refine y_st 14 rfl rfl ?_;refine sm rfl rfl ?_;refine sv rfl (qak rfl rfl) ?_;refine sv rfl (qak rfl rfl) ?_;refine sm rfl rfl ?_;refine sm rfl rfl ?_;refine qb7 ?_;refine qrd rfl (hL _ ?_);clear hL L;refine zaa rfl fun L hL=>?_;refine mv rfl rfl ?_;refine qab (hL _ ?_);clear hL L;refine zae rfl (fun hc=>?_) (fun hc=>absurd hc (by decide));refine zaa rfl fun L hL=>?_;refine mv rfl rfl ?_;refine b_op rfl (qdd rfl rfl rfl rfl (qew (id:=22007) (ver:=v19) (aid:=22507) (aver:=v20) (u:=false) (l:=([]:List UInt8)) (m:=[49,48,49,48,48,48]) (by decide) rfl rfl (by decide) fun v30=>?_));refine qab (hL _ ?_);clear hL L;refine zaa rfl fun L hL=>?_;refine mv rfl rfl ?_;refine bv rfl (qep eInt (l:=[(0:Int),0,1]) ty36 es36 rfl rfl rfl (by decide)) ?_
 refine mv rfl rfl ?_;refine qab (hL _ ?_);clear hL L;refine AW.exit ?_;show UW _ _ _ _ _ _ _;refine AW.to (qaZ (s':=⟨[(1,slE eInt [1]),(2,HV.fptr [.int .i64 2,.int .i64 3,slE eStr bs4,slE swE sw4] 0),(6,HV.mp 56006 vm),(7,HV.ptr 22007 v19 0)],[(56006,vm,.gmap (gcan kfII E4) none),(22007,v19,bldO 22007 v19 22507 v30 true [49,48,49,48,48,48]),(22507,v30,bytO [49,48,49,48,48,48])]⟩) (zam ⟨rfl,rfl,rfl,rfl,trivial⟩ ⟨rfl,rfl,rfl,trivial⟩) ?_);refine zad ?_;refine zaa rfl fun L hL=>?_;refine mv rfl rfl ?_;refine bv rfl (qav rfl rfl ty36 rfl) ?_;refine bv rfl (qag rfl rfl qbB) ?_;refine qab (hL _ ?_);clear hL L;refine zae rfl (fun hc=>?_) (fun hc=>absurd hc (by decide));refine zac ?_;refine zaf ?_;refine zad ?_;refine zaa rfl fun L hL=>?_;refine mv rfl rfl ?_;refine bv rfl (qav rfl rfl ty36 rfl) ?_;refine bv rfl (qag rfl rfl qbB) ?_;refine qab (hL _ ?_);clear hL L;refine zae rfl (fun hc=>absurd hc (by decide)) (fun hc=>?_);refine zac ?_;refine zao 7 follows rfl rfl fun L hL=>?_;refine sv rfl (qac qj8 rfl) ?_;refine sv rfl (qad ty22 rfl (qaj rfl rfl)) ?_;refine sm rfl rfl ?_;refine sv rfl (qaI ty36 es36 rfl rfl (qay (show idx [(1:Int)] 0=some _ from rfl))) ?_;refine sv rfl (qad ty3 rfl (qaW eInt (show idx [(1:Int)] 0=some _ from rfl) (o:=0) rfl rfl)) ?_;refine sv rfl (qaI ty22 es22 rfl rfl (qay (show idx bs4 1=some _ from rfl))) ?_;refine sv rfl (qad ty9 rfl (qaW eStr (show idx bs4 1=some _ from rfl) (o:=0) rfl rfl)) ?_;refine qb7 ?_;refine b_op rfl (qdd rfl rfl rfl rfl (qew (id:=22007) (ver:=v19) (aid:=22507) (aver:=v30) (u:=true) (l:=[49,48,49,48,48,48]) (m:=[49,48,48]) (by decide) rfl rfl (by decide) fun v31=>?_));refine qab (hL _ ?_);clear hL L;refine zab rfl fun L hL=>?_;refine mv rfl rfl ?_;refine bv rfl (qep eInt (l:=[(1:Int)]) ty36 es36 rfl rfl rfl (by decide)) ?_;refine mv rfl rfl ?_;refine qab (hL _ ?_);clear hL L;show UW _ _ _ _ _ _ _;refine AW.to (qaZ (s':=⟨[(1,slE eInt []),(2,HV.fptr [.int .i64 2,.int .i64 3,slE eStr bs4,slE swE sw4] 0),(6,HV.mp 56006 vm),(7,HV.ptr 22007 v19 0)],[(56006,vm,.gmap (gcan kfII E4) none),(22007,v19,bldO 22007 v19 22507 v31 true [49,48,49,48,48,48,49,48,48]),(22507,v31,bytO [49,48,49,48,48,48,49,48,48])]⟩) (zam ⟨rfl,rfl,rfl,rfl,trivial⟩ ⟨rfl,rfl,rfl,trivial⟩) ?_);refine zad ?_;refine zaa rfl fun L hL=>?_;refine mv rfl rfl ?_;refine bv rfl (qav rfl rfl ty36 rfl) ?_;refine bv rfl (qag rfl rfl qbB) ?_;refine qab (hL _ ?_);clear hL L;refine zae rfl (fun hc=>absurd hc (by decide)) (fun hc=>?_);refine AW.exit ?_;refine zaa rfl fun L hL=>?_;refine b_op rfl (qdd rfl rfl rfl rfl (qnk (id:=22007) (ver:=v19) (aid:=22507) (aver:=v31) (u:=true) (l:=[49,48,49,48,48,48,49,48,48]) rfl rfl fun v32=>?_));refine mv rfl rfl ?_;refine mv rfl rfl ?_;refine qab (hL _ ?_);clear hL L;refine AW.to (qaZ (s':=⟨[(4,HV.str [49,48,49,48,48,48,49,48,48]),(5,HV.int .i64 0)],[]⟩) (zam ⟨rfl,rfl,trivial⟩ trivial) ?_);refine AW.ret ?_;exact qae (hs:=[HV.str [49,48,49,48,48,48,49,48,48],HV.int .i64 0]) (q:=.tup [HV.str [49,48,49,48,48,48,49,48,48],HV.int .i64 0]) (.inr rfl) (resT rfl (resT rfl rfl)) rfl ⟨trivial,trivial,trivial⟩
theorem qeY {S X:Type} (body:S→Option (Stp S X)) (s:S):loopW body s=match body s with
  | none=>none
  | some (.exit x)=>some x
  | some (.next s')=>loopW body s':=by
 cases h:body s with
 | none=>exact qme h
 | some r=>cases r with
  | exit x=>exact qd1 h
  | next s'=>exact qgx h
abbrev Gr:=qaa
abbrev Ed:=qaq
def cmp3 (x y:Ed):Int:=if x.1<y.1 then -1 else if y.1<x.1 then 1 else if x.2.1<y.2.1 then -1 else if y.2.1<x.2.1 then 1 else if x.2.2<y.2.2 then -1 else if y.2.2<x.2.2 then 1 else 0
theorem cmpC (a b:Int):qa3 a b=some (if a<b then -1 else if b<a then 1 else 0):=by
 unfold qa3 qb4;simp only [ne_eq,not_true_eq_false,decide_false,Option.bind_some,Bool.false_eq_true,if_false]
 split <;> (try rfl)
 split <;> rfl
theorem wr0:IntKind.wrap .i64 (0+1)=1:=by decide
theorem wr1:IntKind.wrap .i64 (1+1)=2:=by decide
theorem wr2:IntKind.wrap .i64 (2+1)=3:=by decide
theorem qsl (a b c:Int):idx [a,b,c] 0=some a:=rfl
theorem qsk (a b c:Int):idx [a,b,c] 1=some b:=rfl
theorem qsj (a b c:Int):idx [a,b,c] 2=some c:=rfl
theorem len3 (a b c:Int):(([a,b,c]:List Int).length:Int)=3:=rfl
theorem qsA (x y:Ed):qbG x y=some (cmp3 x y):=by
 unfold qbG qd7 qbD cmp3;simp only [Option.bind_some,len3];rw [qeY];simp only [qsl,cmpC,Option.bind_some,wr0];by_cases a1:x.1<y.1
 ·simp [a1,lpO]
 by_cases a2:y.1<x.1
 ·simp [a1,a2,lpO]
 simp only [a1,a2,if_false,ne_eq,not_true_eq_false,if_true,Int.reduceLT,Int.reduceLE];rw [qeY];simp only [qsk,cmpC,Option.bind_some,wr1];by_cases b1:x.2.1<y.2.1
 ·simp [b1,lpO]
 by_cases b2:y.2.1<x.2.1
 ·simp [b1,b2,lpO]
 simp only [b1,b2,if_false,ne_eq,not_true_eq_false,if_true,Int.reduceLT,Int.reduceLE];rw [qeY];simp only [qsj,cmpC,Option.bind_some,wr2];by_cases c1:x.2.2<y.2.2
 ·simp [c1,lpO]
 by_cases c2:y.2.2<x.2.2
 ·simp [c1,c2,lpO]
 simp only [c1,c2,if_false,ne_eq,not_true_eq_false,if_true,Int.reduceLT,Int.reduceLE];rw [qeY];simp [lpO]
theorem qq4 (x y:Ed):qeJ x y=some (cmp3 x y):=by
 unfold qeJ cmp3;rw [qeY];simp only [qsl,Option.bind_some,wr0];by_cases a1:x.1<y.1
 ·simp [a1,lpO]
 by_cases a2:y.1<x.1
 ·simp [a1,a2,lpO]
 simp only [a1,a2,if_false,if_true,Int.reduceLT];rw [qeY];simp only [qsk,Option.bind_some,wr1];by_cases b1:x.2.1<y.2.1
 ·simp [b1,lpO]
 by_cases b2:y.2.1<x.2.1
 ·simp [b1,b2,lpO]
 simp only [b1,b2,if_false,if_true,Int.reduceLT];rw [qeY];simp only [qsj,Option.bind_some,wr2];by_cases c1:x.2.2<y.2.2
 ·simp [c1,lpO]
 by_cases c2:y.2.2<x.2.2
 ·simp [c1,c2,lpO]
 simp only [c1,c2,if_false,if_true,Int.reduceLT];rw [qeY];simp [lpO]
theorem qeg (g:Gr):qbE g=qa1 g:=by
 unfold qbE qa1
 have key:∀ (x:Ed) (k:Bool→Option (Stp Int (Ou Unit Int))),(if (min (min x.1 x.2.1) x.2.2)<0 then k true else if g.2.1≤(max x.1 x.2.2) then k true else k (decide (g.1≤x.2.1))) =
   (if x.1<0 then k true else if g.2.1≤x.1 then k true else if x.2.2<0 then k true else if g.2.1≤x.2.2 then k true else if x.2.1<0 then k true else k (decide (g.1≤x.2.1))):=by
  intro x k;by_cases h1:x.1<0
  ·rw [if_pos (by omega),if_pos h1]
  by_cases h2:g.2.1≤x.1
  ·rw [if_neg h1,if_pos h2]
   split
   ·rfl
   rw [if_pos (by omega)]
  by_cases h3:x.2.2<0
  ·rw [if_neg h1,if_neg h2,if_pos h3,if_pos (by omega)]
  by_cases h4:g.2.1≤x.2.2
  ·rw [if_neg h1,if_neg h2,if_neg h3,if_pos h4]
   split
   ·rfl
   rw [if_pos (by omega)]
  by_cases h5:x.2.1<0
  ·rw [if_neg h1,if_neg h2,if_neg h3,if_neg h4,if_pos h5,if_pos (by omega)]
  rw [if_neg h1,if_neg h2,if_neg h3,if_neg h4,if_neg h5,if_neg (by omega),if_neg (by omega)]
 simp only [qsA,qq4,key]
structure VG (g:Gr):Prop where
 l1:1≤g.1
 l2:g.1≤256
 s0:0≤g.2.1
 s1:g.2.1≤64
 el:g.2.2.length≤1024
 ed:∀ x∈g.2.2,0≤x.1∧x.1<g.2.1∧0≤x.2.2∧x.2.2<g.2.1∧0≤x.2.1∧x.2.1<g.1
 ord:∀ (i:Nat) (h:i+1<g.2.2.length),cmp3 (g.2.2[i]'(by omega)) g.2.2[i+1]<0
theorem qoV {α:Type} {l:List α} {i:Nat} (h:i<l.length) (hm:l.length≤9223372036854775807) (h0:0<i):idx l (IntKind.wrap .i64 ((i:Int) - 1))=some (l[i - 1]'(by omega)):=by
 rw [w64 (by omega) (by omega),show ((i:Int) - 1)=((i - 1:Nat):Int) by omega];exact ix (by omega)
theorem qsg {V R Y:Type} {o:Option (Ou V R)} {M:V→Option Y} {Rt:R→Option Y} {C:Y→Prop} (Q:Ou V R→Prop) (h:∃ x,o=some x∧Q x) (k:∀ x,Q x→∃ e,lpO (some x) M Rt=some e∧C e):∃ e,lpO o M Rt=some e∧C e:=by
 obtain ⟨x,rfl,hq⟩:=h;exact k x hq
theorem qgt (g:Gr):∃ e,qa1 g=some e∧(e=0↔VG g):=by
  unfold qa1;simp only [jp];by_cases h1:g.1<1
  · exact ⟨12,by simp [h1],by simp; intro v; have:=v.l1; omega⟩
  by_cases h2:256<g.1
  · exact ⟨12,by simp [h1,h2],by simp; intro v; have:=v.l2; omega⟩
  by_cases h3:g.2.1<0
  · exact ⟨2,by simp [h1,h2,h3],by simp; intro v; have:=v.s0; omega⟩
  by_cases h4:64<g.2.1
  · exact ⟨4,by simp [h1,h2,h3,h4],by simp; intro v; have:=v.s1; omega⟩
  by_cases h5:1024<(g.2.2.length:Int)
  · exact ⟨4,by simp [h1,h2,h3,h4,h5],by simp; intro v; have:=v.el; omega⟩
  simp only [h1,h2,h3,h4,h5,if_false,decide_false,Bool.false_eq_true,qq4,Option.bind_some,if_true];refine qsg (fun x=>(x=.ret 2∧¬ VG g)∨(x=.ret 10∧¬ VG g)∨(x=.go ()∧VG g)) ?_ ?_
  · refine qmf g.2.2.length (fun i s=>s=(i:Int)∧(∀ (j:Nat) (h:j<i) (hj:j<g.2.2.length),0≤g.2.2[j].1∧g.2.2[j].1<g.2.1∧0≤g.2.2[j].2.2∧g.2.2[j].2.2<g.2.1∧0≤g.2.2[j].2.1∧g.2.2[j].2.1<g.1) ∧
        ∀ (j:Nat) (h:j+1<i) (hj:j+1<g.2.2.length),cmp3 (g.2.2[j]'(by omega)) g.2.2[j+1]<0) ?_ ?_ 0 _ (Nat.zero_le _) ⟨rfl,fun _ h=>by omega,fun _ h=>by omega⟩
    · rintro i s hi ⟨rfl,he,ho⟩
      rw [if_pos (qbJ hi),ix hi];simp only [Option.bind_some];by_cases hg:0≤g.2.2[i].1∧g.2.2[i].1<g.2.1∧0≤g.2.2[i].2.2∧g.2.2[i].2.2<g.2.1∧0≤g.2.2[i].2.1∧g.2.2[i].2.1<g.1
      · obtain ⟨e1,e2,e3,e4,e5,e6⟩:=hg
        rw [if_neg (by omega),if_neg (by omega),if_neg (by omega),if_neg (by omega),if_neg (by omega)];have hd:decide (g.1≤g.2.2[i].2.1)=false:=decide_eq_false (by omega);rw [hd];simp only [Bool.false_eq_true,if_false]
        have he':∀ (j:Nat) (h:j<i+1) (hj:j<g.2.2.length),0≤g.2.2[j].1∧g.2.2[j].1<g.2.1∧0≤g.2.2[j].2.2∧g.2.2[j].2.2<g.2.1∧0≤g.2.2[j].2.1∧g.2.2[j].2.1<g.1:=by
          intro j hj hjl;by_cases hji:j=i
          · subst hji; exact ⟨e1,e2,e3,e4,e5,e6⟩
          exact he j (by omega) hjl
        by_cases h0:0<i
        · rw [if_pos (by omega),qoV hi (by omega) h0]
          simp only [Option.bind_some];by_cases hc:0≤cmp3 (g.2.2[i - 1]'(by omega)) g.2.2[i]
          · refine .inr ⟨.ret 10,by rw [if_pos (decide_eq_true hc)],.inr (.inl ⟨rfl,fun v=>?_⟩)⟩
            have:=v.ord (i - 1) (by omega);simp only [show i - 1+1=i by omega] at this;omega
          refine .inl ⟨_,by rw [if_neg (by simpa using hc)],by rw [nx (by omega:g.2.2.length≤_) hi],he',fun j hj hjl=>?_⟩;by_cases hji:j+1=i
          · have hj':j=i - 1:=by omega
            subst hj';simp only [show i - 1+1=i by omega];omega
          exact ho j (by omega) hjl
        refine .inl ⟨_,by rw [if_neg (by omega)],by rw [nx (by omega:g.2.2.length≤_) hi],he',fun j hj hjl=>by omega⟩
      have hv:¬ VG g:=fun v=>hg (v.ed _ (List.getElem_mem hi));refine .inr ⟨.ret 2,?_,.inl ⟨rfl,hv⟩⟩;by_cases e1:g.2.2[i].1<0
      · rw [if_pos e1]
      rw [if_neg e1];by_cases e2:g.2.1≤g.2.2[i].1
      · rw [if_pos e2]
      rw [if_neg e2];by_cases e3:g.2.2[i].2.2<0
      · rw [if_pos e3]
      rw [if_neg e3];by_cases e4:g.2.1≤g.2.2[i].2.2
      · rw [if_pos e4]
      rw [if_neg e4];by_cases e5:g.2.2[i].2.1<0
      · rw [if_pos e5]
      rw [if_neg e5,if_pos (decide_eq_true (by omega))]
    rintro s ⟨rfl,he,ho⟩
    rw [if_neg (qaB _)];refine ⟨_,rfl,.inr (.inr ⟨rfl,⟨by omega,by omega,by omega,by omega,by omega,fun x hx=>?_,fun i h=>ho i h h⟩⟩)⟩;obtain ⟨j,hj,rfl⟩:=List.getElem_of_mem hx;exact he j hj hj
  rintro x (⟨rfl,hv⟩ | ⟨rfl,hv⟩ | ⟨rfl,hv⟩)
  · exact ⟨2,rfl,by simp [hv]⟩
  · exact ⟨10,rfl,by simp [hv]⟩
  exact ⟨0,rfl,by simp [hv]⟩
theorem qnq {l m:List Int} (hl:l.Pairwise (· < ·)) (hm:m.Pairwise (· < ·)) (h:∀ x,x∈l↔x∈m):l=m:=by
 have nl:l.Nodup:=hl.imp fun h=>Int.ne_of_lt h;have nm:m.Nodup:=hm.imp fun h=>Int.ne_of_lt h;have hp:l.Perm m:=(List.perm_ext_iff_of_nodup nl nm).2 h;exact hp.eq_of_pairwise (fun a b _ _ h1 h2=>by omega) hl hm
theorem qk7 {l:List Int} {x:Int}:x∈sortI l↔x∈l:=(List.mergeSort_perm l _).mem_iff
theorem qoq (l:List Int):(sortI l).Pairwise (· ≤ ·):=by
 have:=List.pairwise_mergeSort (le:=fun x y:Int=>decide (x≤y)) (fun a b c h1 h2=>by simp at *; omega) (fun a b=>by simp; omega) l
 exact this.imp fun h=>by simpa using h
theorem qlm (d:Array Int) (j:Nat):Lib.keeps d j=true↔j=0∨d[j]!≠d[j - 1]!:=by
 simp [Lib.keeps]
theorem qmr {l:List Int} (h:l.Pairwise (· ≤ ·)):(qaY l).Pairwise (· < ·):=by
 show (Lib.compactUpTo l.toArray l.length).Pairwise (· < ·);unfold Lib.compactUpTo;rw [List.pairwise_map];refine List.Pairwise.imp_of_mem ?_ ((List.pairwise_lt_range (n:=l.length)).filter _);intro i j hi hj hij;have hi':=List.mem_range.1 (List.mem_filter.1 hi).1;have hj':=List.mem_range.1 (List.mem_filter.1 hj).1;have hk:=(qlm _ _).1 (List.mem_filter.1 hj).2
 have e1:l.toArray[i]! = l[i]:=by simp [hi']
 have e2:l.toArray[j]! = l[j]:=by simp [hj']
 have e3:l.toArray[j - 1]! = l[j - 1]'(by omega):=by simp [show j - 1<l.length by omega]
 rw [e2,e3] at hk;rw [e1,e2];have hp:=List.pairwise_iff_getElem.1 h
 have h1:l[i]≤l[j - 1]'(by omega):=by
  by_cases hie:i=j - 1
  ·subst hie; exact Int.le_refl _
  exact hp i (j - 1) hi' (by omega) (by omega)
 have h2:l[j - 1]'(by omega)≤l[j]:=hp (j - 1) j (by omega) hj' (by omega);omega
theorem qmq {l:List Int} {x:Int} (h:x∈l):x∈qaY l:=by
 show x∈Lib.compactUpTo l.toArray l.length;unfold Lib.compactUpTo;obtain ⟨i,hi,rfl⟩:=List.getElem_of_mem h;obtain ⟨j,⟨hjl,hj⟩,hmin⟩:=qfA (fun j=>∃ h:j<l.length,l[j]=l[i]) ⟨i,hi,rfl⟩;refine List.mem_map.2 ⟨j,List.mem_filter.2 ⟨List.mem_range.2 hjl,(qlm _ _).2 ?_⟩,by simp [hjl,hj]⟩;by_cases h0:j=0
 ·exact .inl h0
 right;intro he
 have e2:l.toArray[j]! = l[j]:=by simp [hjl]
 have e3:l.toArray[j - 1]! = l[j - 1]'(by omega):=by simp [show j - 1<l.length by omega]
 rw [e2,e3] at he;have:=hmin (j - 1) ⟨by omega,by rw [← he,hj]⟩;omega
theorem qiA {l:List Int} {x:Int}:x∈qaY (sortI l)↔x∈l:=⟨fun h=>qk7.1 (qju h),fun h=>qmq (qk7.2 h)⟩
def qd2 (g:Gr) (a:List Int):Prop:=a.Pairwise (· < ·)∧∀ x∈a,0≤x∧x<g.2.1
def upto (n:Int):List Int:=(List.range n.toNat).map Int.ofNat
theorem qiN {n x:Int}:x∈upto n↔0≤x∧x<n:=by
 simp only [upto,List.mem_map,List.mem_range];constructor
 ·rintro ⟨i,hi,rfl⟩; simp only [Int.ofNat_eq_natCast]; omega
 rintro ⟨h0,h1⟩; exact ⟨x.toNat,by omega,by simp only [Int.ofNat_eq_natCast]; omega⟩
theorem qkp (n:Int):(upto n).Pairwise (· < ·):=by
 rw [upto,List.pairwise_map]
 exact (List.pairwise_lt_range (n:=n.toNat)).imp fun h=>by simp only [Int.ofNat_eq_natCast]; omega
theorem qpF (n:Int):(upto n).length=n.toNat:=by simp [upto]
def qff (g:Gr) (a:List Int) (c:Int):List Int:=(upto g.2.1).filter fun t=>g.2.2.any fun e=>decide (e.2.2=t∧e.2.1=c∧e.1∈a)
theorem qoK {g:Gr} (hv:VG g) {a:List Int} {c t:Int}:t∈qff g a c↔∃ e∈g.2.2,e.2.2=t∧e.2.1=c∧e.1∈a:=by
 simp only [qff,List.mem_filter,List.any_eq_true,decide_eq_true_eq,qiN];constructor
 ·rintro ⟨_,h⟩; exact h
 rintro ⟨e,he,h1,h2,h3⟩
 have:=hv.ed e he;exact ⟨by omega,e,he,h1,h2,h3⟩
theorem qiG (g:Gr) (a:List Int) (c:Int):qd2 g (qff g a c) :=
 ⟨(qkp _).filter _,fun x hx=>qiN.1 (List.mem_filter.1 hx).1⟩
theorem qgY (g:Gr):qd2 g (upto g.2.1):=⟨qkp _,fun x hx=>qiN.1 hx⟩
theorem qi7 {g:Gr} {a:List Int} (hv:VG g) (h:qd2 g a):a.length≤64:=by
 have e:a=(upto g.2.1).filter fun x=>decide (x∈a):=qnq h.1 ((qkp _).filter _) fun x=>by
  simp only [List.mem_filter,qiN,decide_eq_true_eq];exact ⟨fun hx=>⟨h.2 x hx,hx⟩,fun hx=>hx.2⟩
 rw [e];refine Nat.le_trans (List.length_filter_le _ _) ?_;rw [qpF];have:=hv.s1;omega
theorem qms {g:Gr} {a:List Int} (h:qd2 g a) (hm:a.length≤9223372036854775807):qcJ g a=some 0:=by
 unfold qcJ;simp only [jp];refine lpL (qch (fun i=>(i:Int)) a.length (Ou.go ()) (fun i hi=>?_) (by rw [if_neg (qaB _)]) rfl) rfl;obtain ⟨h0,h1⟩:=h.2 a[i] (List.getElem_mem hi);rw [if_pos (qbJ hi),ix hi];simp only [Option.bind_some];rw [if_neg (by omega)];have hd:decide (g.2.1≤a[i])=false:=decide_eq_false (by omega);simp only [hd,Bool.false_eq_true,if_false];by_cases hz:0<i
 ·have hlt:=List.pairwise_iff_getElem.1 h.1 (i - 1) i (by omega) hi (by omega)
  rw [if_pos (by omega),qoV hi hm hz];simp only [Option.bind_some];have hd2:decide (a[i]≤a[i - 1]'(by omega))=false:=decide_eq_false (by omega);simp only [hd2,Bool.false_eq_true,if_false,nx hm hi]
 rw [if_neg (by omega)];simp only [Bool.false_eq_true,if_false,nx hm hi]
def outL (g:Gr) (s c:Int):List Int:=((qeL g.2.2 s).filter fun x=>decide (x.2.2.1=c)).map fun x=>x.2.2.2
theorem qjZ {es:List Ed} {s:Int} {x:Ed}:(∃ i,(i,x)∈qeL es s)↔x∈es∧x.1=s:=by
 constructor
 ·rintro ⟨i,h⟩
  obtain ⟨p,hp,he⟩:=List.mem_map.1 h;obtain ⟨hp1,hp2⟩:=List.mem_filter.1 hp;cases he;exact ⟨List.fst_mem_of_mem_zipIdx hp1,of_decide_eq_true hp2⟩
 rintro ⟨hm,hs⟩
 obtain ⟨k,hk,rfl⟩:=List.getElem_of_mem hm;exact ⟨_,List.mem_map.2 ⟨(es[k],k),List.mem_filter.2 ⟨by rw [List.mem_zipIdx_iff_getElem?]; exact List.getElem?_eq_getElem hk,decide_eq_true hs⟩,rfl⟩⟩
theorem qp6 {g:Gr} {s c t:Int}:t∈outL g s c↔∃ e∈g.2.2,e.2.2=t∧e.2.1=c∧e.1=s:=by
 simp only [outL,List.mem_map,List.mem_filter,decide_eq_true_eq];constructor
 ·rintro ⟨⟨i,x⟩,⟨hm,hc⟩,rfl⟩
  obtain ⟨h1,h2⟩:=qjZ.1 ⟨i,hm⟩;exact ⟨x,h1,rfl,hc,h2⟩
 rintro ⟨x,hx,rfl,hc,hs⟩
 obtain ⟨i,hi⟩:=qjZ.2 ⟨hx,hs⟩;exact ⟨(i,x),⟨hi,hc⟩,rfl⟩
theorem qpV (g:Gr) (s c:Int):(outL g s c).length≤g.2.2.length:=by
 simp only [outL,qeL,List.length_map];refine Nat.le_trans (List.length_filter_le _ _) ?_;rw [List.length_map];refine Nat.le_trans (List.length_filter_le _ _) ?_;simp
theorem qm6 (c:Int):∀ (L:List (Int × Ed)) (acc:List Int),L.foldl (fun (a:List Int) (x:Int × Ed)=>if x.2.2.1=c then a++[x.2.2.2] else a) acc=acc++(L.filter fun x=>decide (x.2.2.1=c)).map fun x=>x.2.2.2
 | [],acc=>by simp
 | x::L,acc=>by
  rw [List.foldl_cons,qm6 c L];by_cases h:x.2.2.1=c
  ·rw [if_pos h,List.filter_cons_of_pos (by simpa using h)]; simp
  rw [if_neg h,List.filter_cons_of_neg (by simpa using h)]
theorem qj6 {S α X:Type} {body:S→α→Option (Stp S X)} (f:S→α→S) (P:Nat→S→Prop):∀ (L:List α) (s:S) (k:Nat),(∀ i s x,i<L.length→x∈L→P (k+i) s→body s x=some (.next (f s x))∧P (k+i+1) (f s x))→P k s→forL body L s=some (.go (L.foldl f s))
 | [],_,_,_,_=>rfl
 | x::L,s,k,h,hs=>by
  obtain ⟨h1,h2⟩:=h 0 s x (by simp) (List.mem_cons_self ..) hs;simp only [forL,h1]
  exact qj6 f P L _ (k+1) (fun i s y hi hy hP=>by
   have e:k+1+i=k+(i+1):=by omega
   rw [e] at hP ⊢
   exact h (i+1) s y (by simp; omega) (List.mem_cons_of_mem _ hy) hP) h2
theorem qdz {k n:Nat} (h:n*k≤140737488355328) (h2:n≤1048576):fits k n:=⟨h,by simp only [maxLen]; omega⟩
theorem qpz {g:Gr} (hv:VG g) {a:List Int} (ha:qd2 g a) {c:Int} (h0:0≤c) (h1:c<g.1):qdE g a c=some (qff g a c,0):=by
 obtain ⟨e,he,hz⟩:=qgt g;have he0:=hz.2 hv;subst he0;have hl:=qi7 hv ha;have hel:=hv.el;unfold qdE;rw [qeg,he,Option.bind_some,qms ha (by omega)];simp only [ne_eq,not_true_eq_false,if_false,Option.bind_some,jp];rw [if_neg (by omega)];have hd:decide (g.1≤c)=false:=decide_eq_false (by omega);simp only [hd,Bool.false_eq_true,if_false]
 have hy:∀ x,qcQ g x=some (qeL g.2.2 x):=fun x=>by unfold qcQ; rw [if_pos (by omega)]
 have hlen:∀ i,i≤a.length→((a.take i).flatMap fun s=>outL g s c).length≤i*1024:=by
  intro i
  induction i with
  | zero=>intro _; simp
  | succ i ih =>
   intro hi;have:=ih (by omega);rw [List.take_add_one,List.getElem?_eq_getElem (by omega)];simp only [Option.toList_some,List.flatMap_append,List.flatMap_cons,List.flatMap_nil,List.append_nil,List.length_append];have h2:=qpV g a[i] c;omega
 refine qfn (qch (fun i=>((i:Int),(a.take i).flatMap fun s=>outL g s c)) a.length (a.flatMap fun s=>outL g s c) (fun i hi=>?_) ?_ (by simp)) ?_
 ·dsimp only
  rw [if_pos (qbJ hi),ix hi];simp only [Option.bind_some,hy];have hb:=hlen i (by omega)
  have hll:(qeL g.2.2 a[i]).length≤1024:=by
   simp only [qeL,List.length_map];refine Nat.le_trans (List.length_filter_le _ _) ?_;simp; omega
  rw [qj6 (fun (acc:List Int) (x:Int × Ed)=>if x.2.2.1=c then acc++[x.2.2.2] else acc) (fun k s=>s.length≤i*1024+k) _ _ 0 (fun k s x hk hx hP=>?_) (Nat.le_trans hb (Nat.le_add_right _ _))]
  ·simp only [lpO,nx (by omega:a.length≤_) hi,qm6,Option.some.injEq,Stp.next.injEq,Prod.mk.injEq,true_and]
   rw [List.take_add_one,List.getElem?_eq_getElem hi];simp only [Option.toList_some,List.flatMap_append,List.flatMap_cons,List.flatMap_nil,List.append_nil];rfl
  by_cases hc:x.2.2.1=c
  ·rw [if_pos hc,if_pos hc,if_pos (qdz (by simp; omega) (by simp; omega))]
   exact ⟨rfl,by simp; omega⟩
  rw [if_neg hc,if_neg hc];exact ⟨rfl,by omega⟩
 ·dsimp only
  rw [if_neg (qaB _),List.take_length]
 have hb:=hlen a.length (Nat.le_refl _);rw [List.take_length] at hb;rw [if_pos (by omega)]
 congr 2
 refine qnq (qmr (qoq _)) (qiG g a c).1 fun x=>?_;rw [qiA,qoK hv];simp only [List.mem_flatMap,qp6];constructor
 ·rintro ⟨s,hs,e,he,h1,h2,rfl⟩; exact ⟨e,he,h1,h2,hs⟩
 rintro ⟨e,he,h1,h2,hs⟩; exact ⟨_,hs,e,he,h1,h2,rfl⟩
theorem qso {l:List Int} (hm:l.length≤9223372036854775807) (n:Int):qfv l n=some (decide (n∈l)):=by
 unfold qfv;refine lpL (qhn (fun i=>(i:Int)) l.length (fun i=>decide (l.getD i 0=n)) (Ou.ret true) (Ou.go ()) (fun i hi=>?_) (by rw [if_neg (qaB _)]) rfl) ?_
 ·have e1:l.getD i 0=l[i]:=by simp [List.getD,hi]
  rw [if_pos (qbJ hi),ix hi];simp only [Option.bind_some,nx hm hi,e1,decide_eq_true_eq]
 by_cases h:n∈l
 ·obtain ⟨i,hi,he⟩:=List.getElem_of_mem h
  rw [if_pos]
  ·simp [lpO,h]
  exact List.any_eq_true.2 ⟨i,List.mem_range.2 hi,by simp [List.getD,hi,he]⟩
 rw [if_neg]
 ·simp [lpO,h]
 intro hx;obtain ⟨i,hi,hp⟩:=List.any_eq_true.1 hx;have hi:=List.mem_range.1 hi
 have e1:l.getD i 0=l[i]:=by simp [List.getD,hi]
 rw [e1] at hp;exact h (of_decide_eq_true hp ▸ List.getElem_mem hi)
theorem qjV {g : Gr} (hv:VG g) {a:List Int} (hl:a.length≤9223372036854775807) {c:Int}:qeW g a c=some (qff g a c):=by
  have hel:=hv.el;have hs1:=hv.s1;have hs0:=hv.s0;obtain ⟨m,hm⟩:=Int.eq_ofNat_of_zero_le hs0;have hfl:∀ i,((((List.range i).map Int.ofNat).filter fun t=>g.2.2.any fun e=>decide (e.2.2=t∧e.2.1=c∧e.1∈a)):List Int).length≤i:=fun i=>Nat.le_trans (List.length_filter_le _ _) (by simp);unfold qeW;refine qfn (qch (fun i=>((i:Int),((List.range i).map Int.ofNat).filter fun t=>g.2.2.any fun e=>decide (e.2.2=t∧e.2.1=c∧e.1∈a))) m (qff g a c) (fun i hi=>?_) ?_ (by simp)) rfl
  · dsimp only
    rw [if_pos (by omega)];simp only [jp]
    have hin : loopW (S := Bool × Int) (X:=Bool) (fun a9 =>
              if a9.2 < ((g.2.2).length:Int) then
                (idx g.2.2 a9.2).bind fun x19 =>
                  if x19.2.2=(i:Int) then
                    (idx g.2.2 a9.2).bind fun x21 =>
                      if x21.2.1=c then
                        (idx g.2.2 a9.2).bind fun x23=>(qfv a x23.1).bind fun x25=>if x25=true then some (Stp.next (true,IntKind.wrap .i64 (a9.2+1))) else some (Stp.next (a9.1,IntKind.wrap .i64 (a9.2+1)))
                      else if false=true then some (Stp.next (true,IntKind.wrap .i64 (a9.2+1))) else some (Stp.next (a9.1,IntKind.wrap .i64 (a9.2+1)))
                  else if false=true then some (Stp.next (true,IntKind.wrap .i64 (a9.2+1))) else some (Stp.next (a9.1,IntKind.wrap .i64 (a9.2+1)))
              else
                some (Stp.exit a9.1)) (false,0)=some (g.2.2.any fun e=>decide (e.2.2=(i:Int)∧e.2.1=c∧e.1∈a)):=by
      refine qch (fun k=>((g.2.2.take k).any fun e=>decide (e.2.2=(i:Int)∧e.2.1=c∧e.1∈a),(k:Int))) g.2.2.length _ (fun k hk=>?_) ?_ (by simp)
      · dsimp only
        rw [if_pos (qbJ hk),ix hk];simp only [Option.bind_some,qso hl,nx (by omega:g.2.2.length≤_) hk,Bool.false_eq_true,if_false,decide_eq_true_eq]
        have e:(g.2.2.take (k+1)).any (fun e=>decide (e.2.2=(i:Int)∧e.2.1=c∧e.1∈a))=((g.2.2.take k).any (fun e=>decide (e.2.2=(i:Int)∧e.2.1=c∧e.1∈a)) || decide (g.2.2[k].2.2=(i:Int)∧g.2.2[k].2.1=c∧g.2.2[k].1∈a)):=by
          rw [List.take_add_one,List.getElem?_eq_getElem hk,List.any_append]
          congr 1
          simp
        rw [e];by_cases h1:g.2.2[k].2.2=(i:Int)
        · by_cases h2:g.2.2[k].2.1=c
          · by_cases h3:g.2.2[k].1∈a
            · simp [h1,h2,h3]
            simp [h1,h2,h3]
          simp [h1,h2]
        simp [h1]
      dsimp only;rw [if_neg (qaB _),List.take_length]
    rw [hin];simp only [Option.bind_some]
    have er:(List.range (i+1)).map Int.ofNat=(List.range i).map Int.ofNat++[(i:Int)]:=by rw [List.range_succ,List.map_append]; rfl
    rw [er,List.filter_append];by_cases hb:(g.2.2.any fun e=>decide (e.2.2=(i:Int)∧e.2.1=c∧e.1∈a))=true
    · have:=hfl i
      rw [if_pos hb,if_pos (qdz (by simp only [List.length_cons,List.length_nil]; omega) (by simp only [List.length_cons,List.length_nil]; omega)),nx (by omega:m≤_) hi,List.filter_cons_of_pos (by exact hb)];rfl
    rw [if_neg hb,nx (by omega:m≤_) hi,List.filter_cons_of_neg (by exact hb)];simp
  dsimp only;rw [if_neg (by omega)];simp only [qff,upto,hm,Int.toNat_natCast]
theorem qrc {g:Gr} (hv:VG g):qfw g=some (upto g.2.1):=by
 have hs1:=hv.s1;obtain ⟨m,hm⟩:=Int.eq_ofNat_of_zero_le hv.s0;unfold qfw;refine qfn (qch (fun i=>((i:Int),(List.range i).map Int.ofNat)) m (upto g.2.1) (fun i hi=>?_) ?_ (by simp)) rfl
 ·dsimp only
  rw [if_pos (by omega),if_pos (qdz (by simp; omega) (by simp; omega)),nx (by omega:m≤_) hi,List.range_succ,List.map_append];rfl
 dsimp only;rw [if_neg (by omega)];simp only [upto,hm,Int.toNat_natCast]
theorem qi4 {g:Gr} (hv:VG g):qbz g=some (upto g.2.1):=by
 have hs1:=hv.s1;obtain ⟨m,hm⟩:=Int.eq_ofNat_of_zero_le hv.s0;unfold qbz;rw [if_pos (by omega)];simp only [hm,Int.toNat_natCast,List.length_replicate];refine qfn (qch (fun i=>((i:Int),(List.range i).map Int.ofNat++List.replicate (m - i) (0:Int))) m (upto m) (fun i hi=>?_) ?_ (by simp)) rfl
 ·dsimp only
  have hlen:((List.range i).map Int.ofNat++List.replicate (m - i) (0:Int)).length=m:=by simp; omega
  rw [if_pos (qbJ hi),ix (by omega)];simp only [Option.bind_some,nx (by omega:m≤_) hi,Int.toNat_natCast]
  congr 3
  rw [List.set_append_right _ _ (by simp),List.range_succ,List.map_append]
  have e:m - i=(m - (i+1))+1:=by omega
  simp only [List.length_map,List.length_range,Nat.sub_self,e,List.replicate_succ,List.set_cons_zero];simp
 dsimp only;rw [if_neg (qaB _)];simp [upto]
theorem qeK:letters.length=16:=rfl
theorem qgy {i:Nat} (h:i<letters.length):Lib.indexByte letters letters[i]=(i:Int):=by
 have:∀ j:Fin 16,Lib.indexByte letters (letters[j.1]'j.2)=(j.1:Int):=by decide
 exact this ⟨i,h⟩
theorem qjy (c:UInt8):((c.toNat:Int).toNat.toUInt8)=c:=by simp
def lets (g:Gr):List UInt8:=letters.take g.1.toNat
section
variable {g:Gr}
theorem qqa (hv:VG g) (h16:g.1≤16):(lets g).length=g.1.toNat:=by
 have:=hv.l1;rw [lets,List.length_take,qeK]; omega
theorem qkH (hv:VG g) {a:List Int} (ha:qd2 g a) {i:Nat} (h:i<letters.length) (hi:(i:Int)<g.1):qbl g a ((letters[i]).toNat:Int)=some (qff g a i):=by
 unfold qbl qaH;simp only [qjy,Option.bind_some];have e:Lib.indexByte [48,49,50,51,52,53,54,55,56,57,97,98,99,100,101,102] letters[i]=(i:Int):=qgy h;rw [e,qpz hv ha (by omega) hi];rfl
theorem qop (hv:VG g) {a:List Int} (ha:qd2 g a) {i:Nat} (h:i<letters.length) (hi:(i:Int)<g.1):stpM g a letters[i]=qff g a i:=by
 unfold stpM; rw [qkH hv ha h hi]; rfl
theorem qkD {c:UInt8} (h:c∈letters.take g.1.toNat):∃ (i:Nat) (hi:i<letters.length),(i:Int)<g.1∧letters[i]=c:=by
 obtain ⟨i,hi,rfl⟩:=List.mem_take_iff_getElem.1 h
 have h1:i<g.1.toNat:=by omega
 exact ⟨i,by omega,by omega,rfl⟩
theorem qoo (hv:VG g) {a:List Int} {c:UInt8} (ha:qd2 g a) (hc:c∈letters.take g.1.toNat):qd2 g (stpM g a c):=by
 obtain ⟨i,hi,hg,rfl⟩:=qkD hc;rw [qop hv ha hi hg];exact qiG g a i
theorem qrj (hv:VG g) {set:List Int} (hs:qd2 g set):qmy g set:=⟨qd2 g,hs,fun a c ha hc=>by
 obtain ⟨i,hi,hg,rfl⟩:=qkD hc
 exact ⟨_,qkH hv ha hi hg,qiG g a i⟩⟩
def LV (g:Gr) (set:List Int) (n:Nat):List WS:=lvl (stpM g) (letters.take g.1.toNat) set n
def OKL (g:Gr) (set:List Int) (n:Nat):Bool:=qp2 (stpM g) (letters.take g.1.toNat) set n
theorem qry (hv:VG g) (h16:g.1≤16) {set:List Int} (hs:qd2 g set) {n:Nat}:qb3 g set (n:Int)=some (if OKL g set n=true then (LV g set n,true) else ([],false)):=by
 unfold qb3;have:=hv.l1;rw [if_pos ⟨by omega,h16,by omega,qrj hv hs⟩];rfl
theorem qsG (hv:VG g) {set:List Int} (hs:qd2 g set) {n:Nat} {x:WS} (h:x∈LV g set n):qd2 g x.2:=qkG hs (fun a c ha hc=>qoo hv ha hc) n x h
theorem qsI {set:List Int} {n:Nat} {x:WS} (h:x∈LV g set n):x.1.length=n:=qjk n x h
theorem qjF {set:List Int} {n:Nat}:OKL g set n=true↔∀ j,1≤j→j≤n→(LV g set j).length≤4096:=qjf
theorem qnc (stp:List Int→UInt8→List Int) (cs:List UInt8) (x:WS):(ext1 stp cs x).length≤cs.length:=List.length_filterMap_le _ _
theorem qm9 (stp:List Int→UInt8→List Int) (cs:List UInt8):∀ l:List WS,(l.flatMap (ext1 stp cs)).length≤l.length*cs.length
 | []=>by simp
 | x::l=>by
  have h1:=qm9 stp cs l;have h2:=qnc stp cs x;rw [List.flatMap_cons,List.length_append,List.length_cons,Nat.succ_mul];omega
theorem qnQ {k:Nat} (h:k<letters.length):(letters.take (k+1)).drop k=[letters[k]]:=by
 rw [List.take_add_one,List.getElem?_eq_getElem h,List.drop_left' (by rw [List.length_take]; omega)];rfl
theorem qrF (hv:VG g) (h16:g.1≤16) {l:List WS} (hl:l.length≤4096) (hs:∀ x∈l,qd2 g x.2) (hw:∀ x∈l,x.1.length≤1000000):qcU g l=some (l.flatMap (ext1 (stpM g) (letters.take g.1.toNat))):=by
 have h1:=hv.l1;obtain ⟨L,hL⟩:=Int.eq_ofNat_of_zero_le (show 0≤g.1 by omega)
 have hL16:L≤letters.length:=by rw [qeK]; omega
 have htn:g.1.toNat=L:=by omega
 unfold qcU;rw [htn]
 have hb:∀ i,((l.take i).flatMap (ext1 (stpM g) (letters.take L))).length≤65536:=fun i=>by
  have h2:=qm9 (stpM g) (letters.take L) (l.take i)
  have h3:(l.take i).length≤4096:=by rw [List.length_take]; omega
  have h4:(letters.take L).length≤16:=by rw [List.length_take,qeK]; omega
  exact Nat.le_trans h2 (Nat.le_trans (Nat.mul_le_mul h3 h4) (by decide))
 refine qfn (qch (fun i=>((i:Int),(l.take i).flatMap (ext1 (stpM g) (letters.take L)))) l.length (l.flatMap (ext1 (stpM g) (letters.take L))) (fun i hi=>?_) ?_ (by simp)) rfl
 ·dsimp only
  rw [if_pos (qbJ hi)];have hsx:=hs _ (List.getElem_mem hi);have hlx:=qi7 hv hsx;refine qfn (qch (fun k=>((k:Int),(l.take i).flatMap (ext1 (stpM g) (letters.take L))++ext1 (stpM g) (letters.take k) l[i])) L ((l.take i).flatMap (ext1 (stpM g) (letters.take L))++ext1 (stpM g) (letters.take L) l[i]) (fun k hk=>?_) ?_ (by simp [ext1])) ?_
  ·dsimp only
   have hk16:k<letters.length:=by omega
   have hk16':k<16:=hk16;rw [if_pos (by omega),ix hi];simp only [jp,Option.bind_some,qjV hv (show (l[i]).2.length≤9223372036854775807 by omega),nx (by omega:L≤_) hk];have hst:=qop hv hsx hk16 (by omega:(k:Int)<g.1);have htk:=qlE (stp:=stpM g) (cs:=letters) l[i] hk16;rw [hst] at htk;by_cases he:qff g (l[i]).2 (k:Int)=[]
   ·rw [if_neg (by rw [he]; simp)]
    rw [htk,if_pos he,List.append_nil]
   have hpos:0<((qff g (l[i]).2 (k:Int)).length:Int):=by
    have:=List.length_pos_iff.2 he;omega
   rw [if_pos hpos];have e16:([48,49,50,51,52,53,54,55,56,57,97,98,99,100,101,102]:List UInt8)=letters:=rfl;rw [e16,if_pos (by rw [qeK]; omega)];simp only [Int.toNat_natCast,qnQ hk16];have hwl:=hw _ (List.getElem_mem hi);have he1:=qnc (stpM g) (letters.take k) l[i]
   have he2:(letters.take k).length≤16:=by rw [List.length_take,qeK]; omega
   have hbi:=hb i;rw [if_pos (by simp only [List.length_cons,List.length_nil,maxLen]; omega),if_pos (qdz (by simp only [List.length_append,List.length_cons,List.length_nil]; omega) (by simp only [List.length_append,List.length_cons,List.length_nil]; omega))];rw [htk,if_neg he,List.append_assoc]
  ·dsimp only
   rw [if_neg (by omega)]
  simp only [nx (by omega:l.length≤_) hi];rw [List.take_add_one,List.getElem?_eq_getElem hi];simp only [Option.toList_some,List.flatMap_append,List.flatMap_cons,List.flatMap_nil,List.append_nil]
 dsimp only;rw [if_neg (qaB _),List.take_length]
theorem qpB (g:Gr) (set:List Int):(LV g set 0).length≤1:=by
 unfold LV lvl; split <;> simp
theorem ql9 (hv:VG g) (h16:g.1≤16) {set:List Int} (hs:qd2 g set) {n:Nat} (hn:n≤4096):qft g set n=some (if OKL g set n=true then (LV g set n,0) else ([],4)):=by
 unfold qft;simp only [jp]
 have key:∀ (l0:List WS),l0=LV g set 0→lpO (loopW (S:=List qbd × Int) (X:=Ou (List qbd) (List qbd × Int)) (fun a5 =>
   if a5.2<(n:Int) then
    if decide (0<((a5.1).length:Int))=true then
     (qcU g a5.1).bind fun x12=>if 4096<((x12).length:Int) then some (Stp.exit (Ou.ret ([],4))) else some (Stp.next (x12,IntKind.wrap .i64 (a5.2+1)))
    else some (Stp.exit (Ou.go a5.1))
   else if false=true then
     (qcU g a5.1).bind fun x12=>if 4096<((x12).length:Int) then some (Stp.exit (Ou.ret ([],4))) else some (Stp.next (x12,IntKind.wrap .i64 (a5.2+1)))
    else some (Stp.exit (Ou.go a5.1))) (l0,0)) (fun a15=>some (a15,0)) some=some (if OKL g set n=true then (LV g set n,0) else ([],4)):=by
  intro l0 hl0
  have hx:∃ x,loopW (S:=List qbd × Int) (X:=Ou (List qbd) (List qbd × Int)) (fun a5 =>
   if a5.2<(n:Int) then
    if decide (0<((a5.1).length:Int))=true then
     (qcU g a5.1).bind fun x12=>if 4096<((x12).length:Int) then some (Stp.exit (Ou.ret ([],4))) else some (Stp.next (x12,IntKind.wrap .i64 (a5.2+1)))
    else some (Stp.exit (Ou.go a5.1))
   else if false=true then
     (qcU g a5.1).bind fun x12=>if 4096<((x12).length:Int) then some (Stp.exit (Ou.ret ([],4))) else some (Stp.next (x12,IntKind.wrap .i64 (a5.2+1)))
    else some (Stp.exit (Ou.go a5.1))) (l0,0)=some x∧((x=.go (LV g set n)∧OKL g set n=true)∨(x=.ret ([],4)∧¬ OKL g set n=true)):=by
   refine qmf n (fun i s=>s=(LV g set i,(i:Int))∧∀ j,1≤j→j≤i→(LV g set j).length≤4096) ?_ ?_ 0 _ (Nat.zero_le _) ⟨by rw [hl0]; rfl,fun j h1 h2=>by omega⟩
   ·rintro i s hi ⟨rfl,hj⟩
    dsimp only;rw [if_pos (qbJ hi)];by_cases h0:LV g set i=[]
    ·rw [if_neg (by rw [h0]; simp)]
     have hnil:∀ j,i≤j→LV g set j=[]:=fun j h=>qmc h0 h;refine .inr ⟨_,rfl,.inl ⟨by rw [h0,hnil n (by omega)],qjF.2 fun j h1 h2=>?_⟩⟩;by_cases h:j≤i
     ·exact hj j h1 h
     rw [hnil j (by omega)]; simp
    have hpos:0<(LV g set i).length:=List.length_pos_iff.2 h0;rw [if_pos (decide_eq_true (by omega))]
    have hl:(LV g set i).length≤4096:=by
     by_cases hi0:i=0
     ·subst hi0; have:=qpB g set; omega
     exact hj i (by omega) (Nat.le_refl _)
    rw [qrF hv h16 hl (fun x hx=>qsG hv hs hx) (fun x hx=>by rw [qsI hx]; omega)];simp only [Option.bind_some];have e:(LV g set i).flatMap (ext1 (stpM g) (letters.take g.1.toNat))=LV g set (i+1):=rfl;rw [e];by_cases h4:4096<(LV g set (i+1)).length
    ·rw [if_pos (by omega)]
     refine .inr ⟨_,rfl,.inr ⟨rfl,fun hok=>?_⟩⟩;have:=qjF.1 hok (i+1) (by omega) (by omega);omega
    rw [if_neg (by omega)];refine .inl ⟨_,rfl,by rw [nx (by omega:n≤_) hi],fun j h1 h2=>?_⟩;by_cases h:j≤i
    ·exact hj j h1 h
    have:j=i+1:=by omega
    subst this; omega
   rintro s ⟨rfl,hj⟩
   dsimp only;rw [if_neg (qaB _),if_neg (by simp)];exact ⟨_,rfl,.inl ⟨rfl,qjF.2 hj⟩⟩
  obtain ⟨x,hx,⟨rfl,hok⟩ | ⟨rfl,hok⟩⟩:=hx
  ·rw [hx,if_pos hok]; rfl
  rw [hx,if_neg hok]; rfl
 by_cases h0:set=[]
 ·rw [if_neg (by rw [h0]; simp)]
  exact key [] (by unfold LV lvl; rw [if_pos h0])
 have hpos:0<set.length:=List.length_pos_iff.2 h0;rw [if_pos (by omega),if_pos (qdz (by simp) (by simp))];exact key _ (by unfold LV lvl; rw [if_neg h0]; rfl)
theorem qpG {l:List WS} (hl:l.length≤1000000):qfu l=some (l.map Prod.fst):=by
 unfold qfu;refine qfn (qch (fun i=>((i:Int),(l.take i).map Prod.fst)) l.length (l.map Prod.fst) (fun i hi=>?_) ?_ (by simp)) rfl
 ·dsimp only
  rw [if_pos (qbJ hi),ix hi];simp only [Option.bind_some];rw [if_pos (qdz (by simp; omega) (by simp; omega)),nx (by omega:l.length≤_) hi,List.take_add_one,List.getElem?_eq_getElem hi,List.map_append];rfl
 dsimp only;rw [if_neg (qaB _),List.take_length]
theorem qmC (a:UInt8):¬ a<a:=UInt8.lt_irrefl a
theorem qps {u v:List UInt8}:∀ (w:List UInt8),u<v→w++u<w++v
 | [],h=>h
 | a::w,h=>List.cons_lt_cons_iff.2 (.inr ⟨rfl,qps w h⟩)
theorem qoM:∀ {u v:List UInt8} (x y:List UInt8),u.length=v.length→u<v→u++x<v++y
 | [],[],_,_,_,h=>by cases h
 | [],_::_,_,_,hl,_=>by cases hl
 | _::_,[],_,_,hl,_=>by cases hl
 | a::u,b::v,x,y,hl,h=>by
  rcases List.cons_lt_cons_iff.1 h with h1 | ⟨h0,h1⟩
  ·exact List.cons_lt_cons_iff.2 (.inl h1)
  exact List.cons_lt_cons_iff.2 (.inr ⟨h0,qoM x y (by simpa using hl) h1⟩)
theorem qmX:∀ (u:List UInt8),¬ u<u
 | [],h=>by cases h
 | a::u,h=>by
  rcases List.cons_lt_cons_iff.1 h with h | ⟨_,h⟩
  ·exact qmC a h
  exact qmX u h
theorem qoL {stp:List Int→UInt8→List Int} {cs:List UInt8} {set:List Int} (hcs:cs.Pairwise (· < ·)):∀ i,(lvl stp cs set i).Pairwise (fun x y=>x.1<y.1)
 | 0=>by simp only [lvl]; split <;> simp
 | i+1=>by
  simp only [lvl];rw [List.pairwise_flatMap];refine ⟨fun x hx=>?_,(qoL hcs i).imp_of_mem fun {x y} hx hy hxy a ha b hb=>?_⟩
  ·unfold ext1
   rw [List.pairwise_filterMap];refine hcs.imp fun {c d} hcd y hy z hz=>?_;split at hy
   ·cases hy
   split at hz
   ·cases hz
   cases hy; cases hz;exact qps _ (List.cons_lt_cons_iff.2 (.inl hcd))
  obtain ⟨c,_,_,rfl⟩:=qd3.1 ha;obtain ⟨d,_,_,rfl⟩:=qd3.1 hb;exact qoM _ _ (by rw [qjk i x hx,qjk i y hy]) hxy
theorem letters_asc:letters.Pairwise (· < ·):=by decide
theorem qrb (g:Gr) (set:List Int) (n:Nat):((LV g set n).map Prod.fst).Pairwise (· < ·):=by
 rw [List.pairwise_map];exact qoL (letters_asc.sublist (List.take_sublist _ _)) n
theorem qpL {l:List (List UInt8)} (h:l.Pairwise (· < ·)):sortS l=l:=qmE (List.Perm.refl l) (h.imp fun h=>decide_eq_true (List.le_of_lt h))
theorem qmg (g:Gr) (n:Int):qcf g n=qb1 g n:=by
 unfold qcf qb1 qbg qc4;rw [qeg]
theorem qjw (g:Gr) (n:Int):∃ e,qb1 g n=some e∧(e=0↔VG g∧g.1≤16∧0≤n∧n≤4096):=by
 obtain ⟨e,he,hz⟩:=qgt g;unfold qb1 qc4;rw [he];simp only [Option.bind_some,jp];by_cases h0:e=0
 ·have hv:=hz.1 h0
  rw [if_neg (by omega:¬ e≠0)];by_cases h1:16<g.1
  ·exact ⟨12,by simp [h1],by simp; omega⟩
  simp only [if_neg h1,Option.bind_some,ne_eq,not_true_eq_false,if_false];by_cases h2:n<0
  ·exact ⟨2,by simp [h2],by simp; omega⟩
  by_cases h3:4096<n
  ·exact ⟨2,by simp [h2,h3],by simp; omega⟩
  exact ⟨0,by simp [h2,h3],by simp [hv]; omega⟩
 have hv:¬ VG g:=fun v=>h0 (hz.2 v);rw [if_pos h0];exact ⟨1,by simp,by simp [hv]⟩
def qod (g:Gr) (n:Int):List (List UInt8):=(LV g (upto g.2.1) n.toNat).map Prod.fst
theorem qki (g:Gr) (n:Int):∃ r,qbt g n=some r∧qer g n=some r∧(r.2=0→(VG g∧g.1≤16∧0≤n∧n≤4096∧OKL g (upto g.2.1) n.toNat=true)∧r.1=qod g n) ∧
  (VG g→g.1≤16→0≤n→n≤4096→OKL g (upto g.2.1) n.toNat=true→r.2=0):=by
 obtain ⟨e,he,hz⟩:=qjw g n;unfold qbt qer;rw [qmg,he];simp only [Option.bind_some];by_cases h0:e=0
 ·obtain ⟨hv,h16,hn0,hn1⟩:=hz.1 h0
  have hs:=qgY g;obtain ⟨m,hm⟩:=Int.eq_ofNat_of_zero_le hn0
  have hn:¬ e≠0:=by omega
  rw [if_neg hn,if_neg hn,qi4 hv,qrc hv];subst hm;simp only [Option.bind_some,qry hv h16 hs,ql9 hv h16 hs (by omega:m≤4096),Int.toNat_natCast];by_cases hok:OKL g (upto g.2.1) m=true
  ·simp only [if_pos hok,if_true,ne_eq,not_true_eq_false,if_false]
   have hl:(LV g (upto g.2.1) m).length≤4096:=by
    by_cases hm0:m=0
    ·subst hm0; have:=qpB g (upto g.2.1); omega
    exact qjF.1 hok m (by omega) (Nat.le_refl _)
   rw [qpG (by omega),qpL (qrb g _ m)];exact ⟨_,rfl,rfl,fun _=>⟨⟨hv,h16,hn0,hn1,hok⟩,by simp [qod]⟩,fun _ _ _ _ _=>rfl⟩
  simp only [if_neg hok,if_neg (show ¬ false=true by simp)];exact ⟨([],4),rfl,(by simp),(fun h=>by cases h),fun _ _ _ _ h=>absurd h hok⟩
 rw [if_pos h0,if_pos h0];exact ⟨_,rfl,rfl,fun h=>absurd h h0,fun h1 h2 h3 h4 _=>absurd (hz.2 ⟨h1,h2,h3,h4⟩) h0⟩
end
def lab (c:UInt8):Int:=Lib.indexByte letters c
theorem qhr:∀ {l:List UInt8} {c:UInt8},Lib.indexByte l c<0↔c ∉ l
 | [],c=>by simp [Lib.indexByte]
 | b::l,c=>by
  have h:=@qhr l c;have hg:=Lib.indexByte_ge l c;simp only [Lib.indexByte,List.mem_cons,not_or];by_cases e:b=c
  ·subst e; simp
  have e1:(b == c)=false:=by simpa using e
  simp only [e1,Bool.false_eq_true,if_false];by_cases e2:Lib.indexByte l c = -1
  ·have:=h.1 (by omega)
   simp only [e2,beq_self_eq_true,if_true];exact ⟨fun _=>⟨fun e'=>e e'.symm,this⟩,fun _=>by decide⟩
  have e3:(Lib.indexByte l c == -1)=false:=by simpa using e2
  simp only [e3,Bool.false_eq_true,if_false];exact ⟨fun h'=>by omega,fun h'=>by have:=h.2 h'.2; omega⟩
theorem qm1 (L:Int):qbR L=some (decide (1≤L∧L≤16)):=by
 unfold qbR;simp only [jp];by_cases h1:1≤L
 ·rw [if_pos h1]; simp [h1]
 rw [if_neg h1]; simp [h1]
theorem qqO (L:Int) (w:List UInt8):∃ e,qbq L w=some e∧(e=0↔(1≤L∧L≤16)∧w.length≤65536∧∀ c∈w,c∈letters.take L.toNat):=by
  unfold qbq;rw [qm1];simp only [Option.bind_some];by_cases h1:1≤L∧L≤16
  case neg =>
    rw [if_pos (by rw [decide_eq_false h1]; rfl)];exact ⟨12,rfl,by simp [h1]⟩
  rw [if_neg (by rw [decide_eq_true h1]; decide)];by_cases h2:65536<(w.length:Int)
  · rw [if_pos h2]
    exact ⟨4,rfl,by simp; omega⟩
  rw [if_neg h2]
  have hx:∀ c:UInt8,qaH ((([48,49,50,51,52,53,54,55,56,57,97,98,99,100,101,102]:List UInt8).take L.toNat).drop (0:Int).toNat) (c.toNat:Int)=some (Lib.indexByte (letters.take L.toNat) c):=fun c=>by
    unfold qaH;rw [qjy];rfl
  have hl := qhn (body:=fun a3=>if a3<((w).length:Int) then
            if 0≤(0:Int)∧(0:Int)≤L∧L≤(([48,49,50,51,52,53,54,55,56,57,97,98,99,100,101,102]:List UInt8).length:Int) then
              (idx w a3).bind fun x8 =>
              (qaH ((([48,49,50,51,52,53,54,55,56,57,97,98,99,100,101,102]:List UInt8).take (L).toNat).drop (0:Int).toNat) (x8.toNat:Int)).bind fun x10 =>
              if x10<0 then
                some (Stp.exit (Ou.ret 13))
              else
                some (Stp.next (IntKind.wrap .i64 (a3+1)))
            else none
          else
            some (Stp.exit (Ou.go ()))) (fun i=>(i:Int)) w.length (fun i=>decide (Lib.indexByte (letters.take L.toNat) (w.getD i 0)<0)) (Ou.ret (13:Int)) (Ou.go ()) (fun i hi=>by
      have e1:w.getD i 0=w[i]:=by simp [List.getD,hi]
      rw [if_pos (qbJ hi),if_pos ⟨by decide,by omega,by show L≤(16:Int); omega⟩,ix hi]
      simp only [Option.bind_some,hx,nx (by omega:w.length≤_) hi,e1,decide_eq_true_eq]) (by rw [if_neg (qaB _)]) (s0:=(0:Int)) rfl
  rw [hl];by_cases hw:∀ c∈w,c∈letters.take L.toNat
  · rw [if_neg]
    · exact ⟨0,rfl,by simp only [true_iff]; exact ⟨h1,by omega,hw⟩⟩
    intro ha;obtain ⟨i,hi,hp⟩:=List.any_eq_true.1 ha;have hi:=List.mem_range.1 hi
    have e1:w.getD i 0=w[i]:=by simp [List.getD,hi]
    rw [e1] at hp;exact qhr.1 (of_decide_eq_true hp) (hw _ (List.getElem_mem hi))
  rw [if_pos]
  · exact ⟨13,rfl,by simp only [show ¬ (13:Int)=0 by decide,false_iff]; exact fun h=>hw h.2.2⟩
  apply Classical.byContradiction;intro hno;refine hw fun c hc=>?_;obtain ⟨i,hi,rfl⟩:=List.getElem_of_mem hc;apply Classical.byContradiction;intro hn;refine hno (List.any_eq_true.2 ⟨i,List.mem_range.2 hi,?_⟩)
  have e1:w.getD i 0=w[i]:=by simp [List.getD,hi]
  rw [e1];exact decide_eq_true (qhr.2 hn)
theorem qnT (g:Gr):∃ e,qbg g=some e∧(e=0↔VG g∧g.1≤16):=by
 obtain ⟨e,he,hz⟩:=qgt g;unfold qbg;rw [qeg,he];simp only [Option.bind_some];by_cases h0:e=0
 ·rw [if_neg (by omega)]
  by_cases h1:16<g.1
  ·rw [if_pos h1]; exact ⟨12,rfl,by simp; intro _; omega⟩
  rw [if_neg h1]; exact ⟨0,rfl,by simp only [true_iff]; exact ⟨hz.1 h0,by omega⟩⟩
 rw [if_pos h0];exact ⟨1,rfl,by simp; intro hv; exact absurd (hz.2 hv) h0⟩
def WOk (g:Gr) (w:List UInt8):Prop:=w.length≤65536∧∀ c∈w,c∈lets g
theorem qjN (g:Gr) (w:List UInt8):∃ e,qbA g w=some e∧(e=0↔VG g∧g.1≤16∧WOk g w):=by
 obtain ⟨e,he,hz⟩:=qnT g;obtain ⟨f,hf,hy⟩:=qqO g.1 w;unfold qbA;rw [he];simp only [Option.bind_some,hf];by_cases h0:e=0
 ·rw [if_neg (by omega)]
  obtain ⟨hv,h16⟩:=hz.1 h0;exact ⟨f,rfl,hy.trans ⟨fun h=>⟨hv,h16,h.2⟩,fun h=>⟨⟨hv.l1,h16⟩,h.2.2⟩⟩⟩
 rw [if_pos h0];exact ⟨e,rfl,⟨fun h=>absurd h h0,fun h=>absurd (hz.2 ⟨h.1,h.2.1⟩) h0⟩⟩
section
variable {g:Gr}
theorem qoT {c:UInt8} (h:c∈lets g):∃ (i:Nat) (hi:i<letters.length),(i:Int)<g.1∧letters[i]=c∧lab c=i:=by
 obtain ⟨i,hi,hg,rfl⟩:=qkD h;exact ⟨i,hi,hg,rfl,qgy hi⟩
theorem qmD (hv:VG g) {a:List Int} (ha:qd2 g a) {c:UInt8} (hc:c∈lets g):qbl g a (c.toNat:Int)=some (qff g a (lab c)):=by
 obtain ⟨i,hi,hg,rfl,e⟩:=qoT hc;rw [e];exact qkH hv ha hi hg
def qbP (g:Gr) (a:List Int) (w:List UInt8):List Int:=w.foldl (fun a c=>qff g a (lab c)) a
theorem qnW (a:List Int) (c:UInt8) (w:List UInt8):qbP g a (c::w)=qbP g (qff g a (lab c)) w:=rfl
theorem qec (a:List Int) (u v:List UInt8):qbP g a (u++v)=qbP g (qbP g a u) v:=List.foldl_append ..
theorem qk6 (c:Int):qff g [] c=[]:=by simp [qff]
theorem qlF:∀ w:List UInt8,qbP g [] w=[]
 | []=>rfl
 | c::w=>by rw [qnW,qk6,qlF w]
theorem qhw {a:List Int} (ha:qd2 g a):∀ w,qd2 g (qbP g a w):=fun w=>by
 induction w generalizing a with
 | nil=>exact ha
 | cons c w ih=>exact ih (qiG g a _)
theorem qrK (hv:VG g) {a:List Int} (ha:qd2 g a) {w:List UInt8} (hw:WOk g w):qcX g a w=some (qbP g a w):=by
 obtain ⟨hl,hc⟩:=hw;unfold qcX
 have hx:∃ x,loopW (S:=(List Int) × Int) (X:=(List Int)) (fun a1 =>
   jp (fun (a5:Bool) =>
    if a5=true then
     (idx w a1.2).bind fun x8 =>
     (qbl g a1.1 (x8.toNat:Int)).bind fun x10 =>
     some (Stp.next (x10,IntKind.wrap .i64 (a1.2+1)))
    else
     some (Stp.exit a1.1))
    fun k7 =>
    if a1.2<((w).length:Int) then
     k7 (decide (0<((a1.1).length:Int)))
    else
     k7 false) (a,0)=some x∧x=qbP g a w:=by
  refine qmf w.length (fun i s=>s=(qbP g a (w.take i),(i:Int))) ?_ ?_ 0 _ (Nat.zero_le _) rfl
  ·rintro i s hi rfl
   simp only [jp];rw [if_pos (qbJ hi)];by_cases h0:qbP g a (w.take i)=[]
   ·rw [if_neg (by rw [h0]; simp)]
    refine .inr ⟨_,rfl,?_⟩;rw [h0]
    conv=>rhs; rw [← List.take_append_drop i w,qec,h0,qlF]
   have hpos:=List.length_pos_iff.2 h0;rw [if_pos (decide_eq_true (by omega)),ix hi];simp only [Option.bind_some];rw [qmD hv (qhw ha _) (hc _ (List.getElem_mem hi))];refine .inl ⟨_,rfl,?_⟩;rw [nx (by omega:w.length≤_) hi,List.take_add_one,List.getElem?_eq_getElem hi,qec];rfl
  rintro s rfl
  simp only [jp];rw [if_neg (qaB _),if_neg (by simp)];exact ⟨_,rfl,by rw [List.take_length]⟩
 obtain ⟨x,hx,rfl⟩:=hx;rw [hx];rfl
theorem qgE (hv:VG g) (h16:g.1≤16) {w:List UInt8} (hw:WOk g w):qa5 g w=some (decide (qbP g (upto g.2.1) w≠[]),0):=by
 obtain ⟨e,he,hz⟩:=qjN g w;have h0:=hz.2 ⟨hv,h16,hw⟩;subst h0;unfold qa5;rw [he];simp only [Option.bind_some,ne_eq,not_true_eq_false,if_false,qi4 hv,qrK hv (qgY g) hw]
 congr 2
 by_cases h:qbP g (upto g.2.1) w=[]
 ·simp [h]
 have:=List.length_pos_iff.2 h;simp [h,this]
end
theorem qpC (g:Gr):∃ b,qdO g=some b∧(b=false→(g.2.1≤8∨64<g.2.1)∧(g.2.2.length≤30∨1024<g.2.2.length)∧g.2.2.length≤1027):=by
 unfold qdO;simp only [jp];by_cases h1:8<g.2.1
 ·rw [if_pos h1]
  by_cases h2:g.2.1≤64
  ·rw [if_pos h2]; exact ⟨true,rfl,by simp⟩
  rw [if_neg h2];by_cases h3:30<(g.2.2.length:Int)
  ·rw [if_pos h3]
   by_cases h4:(g.2.2.length:Int)≤1024
   ·rw [if_pos h4]; exact ⟨true,rfl,by simp⟩
   rw [if_neg h4]; exact ⟨_,rfl,by simp; omega⟩
  rw [if_neg h3]; exact ⟨_,rfl,by simp; omega⟩
 rw [if_neg h1];by_cases h3:30<(g.2.2.length:Int)
 ·rw [if_pos h3]
  by_cases h4:(g.2.2.length:Int)≤1024
  ·rw [if_pos h4]; exact ⟨true,rfl,by simp⟩
  rw [if_neg h4]; exact ⟨_,rfl,by simp; omega⟩
 rw [if_neg h3]; exact ⟨_,rfl,by simp; omega⟩
theorem qsL {a b:List Int} (hm:a.length≤9223372036854775807):qa0 a b=some (decide (a=b)):=by
 unfold qa0;by_cases hl:a.length=b.length
 ·rw [if_neg (by omega)]
  refine lpL (qhn (fun i=>(i:Int)) a.length (fun i=>decide (a.getD i 0≠b.getD i 0)) (Ou.ret false) (Ou.go ()) (fun i hi=>?_) (by rw [if_neg (qaB _)]) rfl) ?_
  ·have hi':i<b.length:=by omega
   have e1:a.getD i 0=a[i]:=by simp [List.getD,hi]
   have e2:b.getD i 0=b[i]:=by simp [List.getD,hi']
   rw [if_pos (qbJ hi),ix hi,ix hi'];simp only [Option.bind_some,nx hm hi,e1,e2,decide_eq_true_eq]
  by_cases he:a=b
  ·subst he
   rw [if_neg]
   ·simp [lpO]
   simp
  rw [if_pos]
  ·simp [lpO,he]
  refine List.any_eq_true.2 ?_;apply Classical.byContradiction;intro hno;refine he (List.ext_getElem hl fun i h1 h2=>?_);apply Classical.byContradiction;intro hne;refine hno ⟨i,List.mem_range.2 h1,decide_eq_true ?_⟩
  rwa [show a.getD i 0=a[i] by simp [List.getD,h1],show b.getD i 0=b[i] by simp [List.getD,h2]]
 rw [if_pos (by omega)];have:¬ a=b:=fun e=>hl (by rw [e]);simp [this]
theorem WOk.sub {g:Gr} {w u:List UInt8} (h:WOk g w) (hl:u.length≤w.length) (hs:∀ c∈u,c∈w):WOk g u:=⟨Nat.le_trans hl h.1,fun c hc=>h.2 c (hs c hc)⟩
section
variable {g:Gr}
def canB (g:Gr):List UInt8→List Bool
 | []=>List.replicate g.2.1.toNat true
 | c::w=>(upto g.2.1).map fun s=>g.2.2.any fun x=>decide (x.1=s∧x.2.1=lab c) && (canB g w).getD x.2.2.toNat false
def okE (g:Gr) (w:List UInt8) (c:UInt8) (prev:Option Int) (x:Ed):Bool:=decide (x.2.1=lab c) && (canB g w).getD x.2.2.toNat false && (match prev with
 | none=>true
 | some s=>decide (x.1=s))
def pick (g:Gr) (w:List UInt8) (c:UInt8) (prev:Option Int):Nat:=g.2.2.findIdx (okE g w c prev)
end
section
variable {g:Gr}
end
section
variable {g:Gr}
theorem qp8 {S X:Type} {body:S→Option (Stp S X)} (x0:X) (n:Nat) (I:Nat→S→Prop)
  (step:∀ i s,i<n→I i s→(∃ s',body s=some (.next s')∧I (i+1) s')∨∃ x,body s=some (.exit x)∧x=x0) (fin:∀ s,I n s→∃ x,body s=some (.exit x)∧x=x0) {s0:S} (h:I 0 s0):loopW body s0=some x0:=by
 obtain ⟨x,hx,rfl⟩:=qmf n I step fin 0 s0 (Nat.zero_le _) h;exact hx
end
def allW (cs:List UInt8):Nat→List (List UInt8)
 | 0=>[[]]
 | n+1=>(allW cs n).flatMap fun w=>cs.map fun c=>w++[c]
theorem qeq {cs:List UInt8}:∀ {n:Nat} {w:List UInt8},w∈allW cs n↔w.length=n∧∀ c∈w,c∈cs
 | 0,w=>by
  simp only [allW,List.mem_singleton];constructor
  ·rintro rfl; simp
  rintro ⟨h,_⟩; exact List.eq_nil_of_length_eq_zero h
 | n+1,w=>by
  simp only [allW,List.mem_flatMap,List.mem_map];constructor
  ·rintro ⟨u,hu,c,hc,rfl⟩
   obtain ⟨h1,h2⟩:=qeq.1 hu;refine ⟨by simp [h1],fun d hd=>?_⟩
   rcases List.mem_append.1 hd with h | h
   ·exact h2 d h
   simp at h; subst h; exact hc
  rintro ⟨h1,h2⟩
  rcases List.eq_nil_or_concat w with rfl | ⟨v,c,rfl⟩
  ·simp at h1
  rw [List.concat_eq_append] at h1 h2 ⊢;exact ⟨v,qeq.2 ⟨by simpa using h1,fun d hd=>h2 d (List.mem_append_left _ hd)⟩,c,h2 c (by simp),rfl⟩
theorem qhD (cs:List UInt8):∀ n,(allW cs n).length=cs.length ^ n
 | 0=>rfl
 | n+1=>by
  have h:∀ l:List (List UInt8),(l.flatMap fun w=>cs.map fun c=>w++[c]).length=l.length*cs.length:=by
   intro l
   induction l with
   | nil=>simp
   | cons x l ih=>rw [List.flatMap_cons,List.length_append,ih,List.length_map,List.length_cons,Nat.succ_mul]; omega
  simp only [allW];rw [h,qhD cs n,Nat.pow_succ]
theorem qiT {cs:List UInt8} (hcs:cs.Pairwise (· < ·)):∀ n,(allW cs n).Pairwise (· < ·)
 | 0=>by simp [allW]
 | n+1=>by
  simp only [allW];rw [List.pairwise_flatMap];refine ⟨fun x hx=>?_,(qiT hcs n).imp_of_mem fun {x y} hx hy hxy a ha b hb=>?_⟩
  ·rw [List.pairwise_map]
   exact hcs.imp fun hcd=>qps _ (List.cons_lt_cons_iff.2 (.inl hcd))
  obtain ⟨c,_,rfl⟩:=List.mem_map.1 ha;obtain ⟨d,_,rfl⟩:=List.mem_map.1 hb;exact qoM _ _ (by rw [(qeq.1 hx).1,(qeq.1 hy).1]) hxy
section
variable {g:Gr}
def accB (g:Gr) (w:List UInt8):Bool:=decide (qbP g (upto g.2.1) w≠[])
end
section
variable {β:Type}
theorem qli (k q:List UInt8) (v:β):∀ l:List (List UInt8 × β),qgd q (qiw k v l)=if q=k then some v else qgd q l
 | []=>by simp only [qiw,qgd]
 | (p,x)::l=>by
  simp only [qiw];by_cases h:k=p
  ·rw [if_pos h]
   simp only [qgd];by_cases e:q=p
   ·rw [if_pos e,if_pos (e.trans h.symm)]
   rw [if_neg e,if_neg (fun e'=>e (e'.trans h)),if_neg e]
  rw [if_neg h];simp only [qgd];by_cases e:q=p
  ·rw [if_pos e,if_neg (fun e'=>h (e'.symm.trans e)),if_pos e]
  rw [if_neg e,qli k q v l,if_neg e]
end
section
variable {g:Gr}
end
theorem qlj {f h:List Int→UInt8→List Int} {cs:List UInt8} {A:List Int→Prop} {set:List Int} (hs:A set) (hA:∀ a c,A a→c∈cs→A (f a c)) (he:∀ a c,A a→c∈cs→f a c=h a c):∀ n,lvl f cs set n=lvl h cs set n
 | 0=>rfl
 | n+1=>by
  simp only [lvl];rw [← qlj hs hA he n];have hall:∀ x∈lvl f cs set n,A x.2:=qkG hs hA n
  have hcs:∀ (cs':List UInt8),(∀ c∈cs',c∈cs)→∀ x∈lvl f cs set n,ext1 f cs' x=ext1 h cs' x:=by
   intro cs' hsub x hx;unfold ext1
   induction cs' with
   | nil=>rfl
   | cons c cs' ih =>
    rw [List.filterMap_cons,List.filterMap_cons,he x.2 c (hall x hx) (hsub c (List.mem_cons_self ..)),ih fun d hd=>hsub d (List.mem_cons_of_mem _ hd)]
  have:∀ l:List WS,(∀ x∈l,ext1 f cs x=ext1 h cs x)→l.flatMap (ext1 f cs)=l.flatMap (ext1 h cs):=by
   intro l hl
   induction l with
   | nil=>rfl
   | cons x l ih=>rw [List.flatMap_cons,List.flatMap_cons,hl x (List.mem_cons_self ..),ih fun y hy=>hl y (List.mem_cons_of_mem _ hy)]
  exact this _ (hcs cs fun _ h=>h)
section
variable {g:Gr}
def stpL (g:Gr) (a:List Int) (c:UInt8):List Int:=qff g a (lab c)
theorem qsJ (hv:VG g) {set:List Int} (hs:qd2 g set) (n:Nat):LV g set n=lvl (stpL g) (lets g) set n:=by
 refine qlj (A:=qd2 g) hs (fun a c ha hc=>qoo hv ha hc) (fun a c ha hc=>?_) n;unfold stpM;rw [qmD hv ha hc];rfl
theorem qqU (hv:VG g) {set:List Int} (hs:qd2 g set):∀ (n:Nat) (x:WS),x∈LV g set n↔x.1.length=n∧(∀ c∈x.1,c∈lets g)∧x.2=qbP g set x.1∧x.2≠[]:=by
 intro n;rw [qsJ hv hs]
 induction n with
 | zero =>
  rintro ⟨u,a⟩
  simp only [lvl];constructor
  ·intro h
   split at h
   ·cases h
   rename_i hne
   simp only [List.mem_singleton,Prod.mk.injEq] at h;obtain ⟨rfl,rfl⟩:=h;exact ⟨rfl,by simp,rfl,hne⟩
  rintro ⟨hl,_,he,hne⟩
  have hu:u=[]:=List.eq_nil_of_length_eq_zero hl;subst hu;have:a=set:=he;subst this;rw [if_neg hne];simp
 | succ n ih =>
  rintro ⟨u,a⟩
  simp only [lvl,List.mem_flatMap,qd3];constructor
  ·rintro ⟨y,hy,c,hc,hne,he⟩
   cases he;obtain ⟨h1,h2,h3,h4⟩:=(ih y).1 hy;refine ⟨by simp [h1],fun d hd=>?_,?_,hne⟩
   ·rcases List.mem_append.1 hd with hd | hd
    ·exact h2 d hd
    simp at hd; subst hd; exact hc
   show qff g y.2 (lab c)=_;rw [qec,← h3];rfl
  rintro ⟨hl,hc,he,hne⟩
  rcases List.eq_nil_or_concat u with rfl | ⟨v,c,rfl⟩
  ·simp at hl
  rw [List.concat_eq_append] at he hl hc ⊢;rw [qec] at he;have he':a=qff g (qbP g set v) (lab c):=he;have hne2:qbP g set v≠[]:=fun h0=>hne (by rw [he',h0,qk6]);exact ⟨(v,qbP g set v),(ih _).2 ⟨by simpa using hl,fun d hd=>hc d (List.mem_append_left _ hd),rfl,hne2⟩,c,hc c (by simp),by show qff g _ _≠[]; rw [← he']; exact hne,by rw [he']; rfl⟩
end
theorem qmY:∀ {u v:List UInt8},u<v→¬ v<u
 | [],[],h,_=>by cases h
 | [],_::_,_,h=>by cases h
 | _::_,[],h,_=>by cases h
 | a::u,b::v,h,h'=>by
  rcases List.cons_lt_cons_iff.1 h with h1 | ⟨h1,h2⟩
  ·rcases List.cons_lt_cons_iff.1 h' with h3 | ⟨h3,h4⟩
   ·exact absurd (UInt8.lt_trans h1 h3) (qmC a)
   subst h3; exact qmC _ h1
  subst h1
  rcases List.cons_lt_cons_iff.1 h' with h3 | ⟨h3,h4⟩
  ·exact qmC _ h3
  exact qmY h2 h4
theorem qpr {l m:List (List UInt8)} (hl:l.Pairwise (· < ·)) (hm:m.Pairwise (· < ·)) (h:∀ x,x∈l↔x∈m):l=m:=by
 have nl:l.Nodup:=hl.imp fun h e=>by subst e; exact qmX _ h
 have nm:m.Nodup:=hm.imp fun h e=>by subst e; exact qmX _ h
 have hp:l.Perm m:=(List.perm_ext_iff_of_nodup nl nm).2 h;exact hp.eq_of_pairwise (fun a b _ _ h1 h2=>absurd h2 (qmY h1)) hl hm
section
variable {g:Gr}
theorem qqb (g:Gr):(lets g).Pairwise (· < ·):=letters_asc.sublist (List.take_sublist _ _)
theorem qh5 (hv:VG g) (n:Nat):(LV g (upto g.2.1) n).map Prod.fst=(allW (lets g) n).filter (accB g):=by
 refine qpr (qrb g _ n) ((qiT (qqb g) n).filter _) fun w=>?_;simp only [List.mem_map,List.mem_filter,qeq,accB,decide_eq_true_eq];constructor
 ·rintro ⟨x,hx,rfl⟩
  obtain ⟨h1,h2,h3,h4⟩:=(qqU hv (qgY g) n x).1 hx;exact ⟨⟨h1,h2⟩,by rw [← h3]; exact h4⟩
 rintro ⟨⟨h1,h2⟩,h3⟩
 exact ⟨(w,qbP g (upto g.2.1) w),(qqU hv (qgY g) n _).2 ⟨h1,h2,rfl,h3⟩,rfl⟩
theorem qsH (hv:VG g) (h16:g.1≤16) (n:Nat):(LV g (upto g.2.1) n).length≤g.1.toNat ^ n:=by
 have h:=qh5 hv n;have h2:=congrArg List.length h;rw [List.length_map] at h2;rw [h2];refine Nat.le_trans (List.length_filter_le _ _) ?_;rw [qhD,qqa hv h16];exact Nat.le_refl _
end
theorem qqH {g:Gr} (hv:VG g) (h16:g.1≤16) {n:Nat} (hn:n≤4096) (hb:∀ j,1≤j→j≤n→g.1.toNat ^ j≤4096):qbt g (n:Int)=some ((allW (lets g) n).filter (accB g),0):=by
 obtain ⟨r,hr,_,h2,h3⟩:=qki g n;have h0:=h3 hv h16 (by omega) (by omega) (qjF.2 fun j j1 j2=>Nat.le_trans (qsH hv h16 j) (hb j j1 (by simpa using j2)));obtain ⟨_,hw⟩:=h2 h0;obtain ⟨r1,r2⟩:=r;dsimp only at h0 hw;rw [hr,h0,hw];unfold qod;rw [Int.toNat_natCast,qh5 hv]
section
variable {g:Gr}
end
theorem qr5 {a b:UInt8}:((a.toNat:Int)=(b.toNat:Int))↔a=b:=by
 constructor
 ·intro h
  exact UInt8.toNat_inj.1 (by omega)
 rintro rfl; rfl
theorem qmZ {c:UInt8} (h:c ∉ letters):lab c = -1:=by
 have h1:lab c<0:=qhr.2 h;have h2:=Lib.indexByte_ge letters c;show Lib.indexByte letters c = -1;have h1:Lib.indexByte letters c<0:=h1;omega
theorem qnj (c:UInt8):qes (c.toNat:Int)=some (lab c):=by
 unfold qes;refine lpL (qp8 (if c∈letters then .ret (lab c) else .go ()) 16 (fun i s=>s=(i:Int)∧∀ j (_:j<i) (h:j<letters.length),letters[j]≠c) ?_ ?_ ⟨rfl,fun j hj=>by omega⟩) ?_
 ·rintro i s hi ⟨rfl,hne⟩
  have hil:i<letters.length:=hi;have hx:idx ([48,49,50,51,52,53,54,55,56,57,97,98,99,100,101,102]:List UInt8) (i:Int)=some letters[i]:=ix (l:=letters) hil;rw [if_pos (by omega),hx];simp only [Option.bind_some,qr5];by_cases e:letters[i]=c
  ·rw [if_pos e]
   refine .inr ⟨_,rfl,?_⟩;rw [if_pos (by rw [← e]; exact List.getElem_mem hil)]
   congr 1
   rw [← e];exact (qgy hil).symm
  rw [if_neg e];refine .inl ⟨_,rfl,nx (by omega:(16:Nat)≤_) hi,fun j hj h=>?_⟩;by_cases hji:j=i
  ·subst hji; exact e
  exact hne j (by omega) h
 ·rintro s ⟨rfl,hne⟩
  rw [if_neg (by omega)];refine ⟨_,rfl,?_⟩;rw [if_neg];intro hm;obtain ⟨j,hj,e⟩:=List.getElem_of_mem hm;exact hne j hj hj e
 by_cases h:c∈letters
 ·rw [if_pos h]; rfl
 rw [if_neg h,qmZ h]; rfl
theorem qqc {L:Int} (h1:1≤L) (h16:L≤16) (c:UInt8):(c ∉ letters.take L.toNat)↔lab c<0∨L≤lab c:=by
 by_cases h:c∈letters
 ·obtain ⟨i,hi,rfl⟩:=List.getElem_of_mem h
  have e:lab letters[i]=(i:Int):=qgy hi;rw [e];constructor
  ·intro hn
   right;apply Classical.byContradiction;intro hlt;exact hn (List.mem_take_iff_getElem.2 ⟨i,by omega,rfl⟩)
  rintro (h0 | h0) hm
  ·omega
  obtain ⟨j,hj,e2⟩:=List.mem_take_iff_getElem.1 hm;have:=(List.getElem_inj (h₀:=by omega) (h₁:=hi) letters_nodup).1 e2;omega
 rw [qmZ h];exact ⟨fun _=>.inl (by omega),fun _ hm=>h (List.mem_of_mem_take hm)⟩
theorem qr7 (L:Int) (w:List UInt8):qfy L w=qbq L w:=by
 unfold qfy qbq;rw [qm1];simp only [jp,Option.bind_some];by_cases h1:1≤L∧L≤16
 case neg =>
  rw [if_pos (show (!decide (1≤L∧L≤16))=true by rw [decide_eq_false h1]; rfl)];by_cases h0:L<1
  ·rw [if_pos h0]; rfl
  rw [if_neg h0,if_pos (decide_eq_true (by omega))]
 rw [if_neg (show ¬ (!decide (1≤L∧L≤16))=true by rw [decide_eq_true h1]; decide),if_neg (by omega:¬ L<1),if_neg (show ¬ decide (16<L)=true by simp; omega)];by_cases h2:65536<(w.length:Int)
 ·rw [if_pos h2,if_pos h2]
 rw [if_neg h2,if_neg h2]
 congr 2
 funext a
 by_cases ha:a<(w.length:Int)
 case neg=>rw [if_neg ha,if_neg ha]
 have hc0:0≤(0:Int)∧(0:Int)≤L∧L≤(([48,49,50,51,52,53,54,55,56,57,97,98,99,100,101,102]:List UInt8).length:Int):=⟨by decide,by omega,by show L≤(16:Int); omega⟩;rw [if_pos ha,if_pos ha,if_pos hc0]
 cases hx:idx w a with
 | none=>rfl
 | some c =>
  simp only [Option.bind_some,qnj]
  have hs:qaH ((([48,49,50,51,52,53,54,55,56,57,97,98,99,100,101,102]:List UInt8).take L.toNat).drop (0:Int).toNat) (c.toNat:Int)=some (Lib.indexByte (letters.take L.toNat) c):=by
   unfold qaH;rw [qjy];rfl
  rw [hs];simp only [Option.bind_some];have hiff:=(qhr (l:=letters.take L.toNat) (c:=c)).trans (qqc h1.1 h1.2 c);by_cases h3:lab c<0
  ·rw [if_pos h3,if_pos (hiff.2 (.inl h3))]; rfl
  rw [if_neg h3];by_cases h4:L≤lab c
  ·rw [if_pos (decide_eq_true h4),if_pos (hiff.2 (.inr h4))]
  rw [if_neg (by simp; omega),if_neg (fun h=>by rcases hiff.1 h with h | h <;> omega)]
theorem qpf (g:Gr):qc4 g=qbg g:=by
 unfold qbg qc4;rw [qeg]
theorem qhy (g:Gr) (w:List UInt8):qd0 g w=qbA g w:=by
 unfold qd0 qbA;rw [qpf]
 congr 1
 funext x
 rw [qr7]
section
variable {g:Gr}
theorem qnL (hv:VG g) {a:List Int} (ha:qd2 g a) {w:List UInt8} (hl:w.length≤1000000):qge g a w=some (qbP g a w):=by
 unfold qge;refine qfn (qch (fun i=>(qbP g a (w.take i),(i:Int))) w.length (qbP g a w) (fun i hi=>?_) ?_ rfl) rfl
 ·dsimp only
  rw [if_pos (qbJ hi),ix hi];simp only [Option.bind_some,qnj];have hle:=qi7 hv (qhw ha (w.take i));rw [qjV hv (by omega)];simp only [Option.bind_some,nx (by omega:w.length≤_) hi];rw [List.take_add_one,List.getElem?_eq_getElem hi,qec];rfl
 dsimp only;rw [if_neg (qaB _),List.take_length]
theorem qlX (g:Gr) (w:List UInt8):∃ r,qa5 g w=some r∧qdP g w=some r:=by
 obtain ⟨e,he,hz⟩:=qjN g w;by_cases h0:e=0
 ·obtain ⟨hv,h16,hw⟩:=hz.1 h0
  subst h0;refine ⟨_,qgE hv h16 hw,?_⟩;unfold qdP;rw [qhy,he];have hl:=hw.1;simp only [Option.bind_some,ne_eq,not_true_eq_false,if_false,qrc hv,qnL hv (qgY g) (by omega:w.length≤1000000)]
  congr 2
  by_cases h:qbP g (upto g.2.1) w=[]
  ·simp [h]
  have:=List.length_pos_iff.2 h;simp [h,this]
 refine ⟨(false,e),?_,?_⟩
 ·unfold qa5
  rw [he];simp only [Option.bind_some];rw [if_pos h0]
 unfold qdP;rw [qhy,he];simp only [Option.bind_some];rw [if_pos h0]
end
section
variable {g:Gr}
end
section
variable {g:Gr}
end
section
variable {g:Gr}
end
abbrev Jn:=qaw
def fstN {X:Type} (p:Nat→Bool) (xr:Nat→X) (xf:X):Nat→Nat→X
 | 0,_=>xf
 | d+1,i=>if p i=true then xr i else fstN p xr xf d (i+1)
theorem qiO {S X:Type} {body:S→Option (Stp S X)} (st:Nat→S) (n:Nat) (p:Nat→Bool) (xr:Nat→X) (xf:X) (h:∀ i,i<n→body (st i)=if p i=true then some (.exit (xr i)) else some (.next (st (i+1)))) (hf:body (st n)=some (.exit xf)) {s0:S} (hs0:s0=st 0) :
  loopW body s0=some (fstN p xr xf n 0):=by
 subst hs0
 have:∀ d i,i+d=n→loopW body (st i)=some (fstN p xr xf d i):=by
  intro d
  induction d with
  | zero =>
   intro i hi
   have e:i=n:=by omega
   subst e;rw [qd1 hf];rfl
  | succ d ih =>
   intro i hi;have hb:=h i (by omega);unfold fstN;by_cases hp:p i=true
   ·rw [if_pos hp] at hb ⊢
    rw [qd1 hb]
   rw [if_neg hp] at hb ⊢;rw [qgx hb];exact ih (i+1) (by omega)
 exact this n 0 (by omega)
theorem qfk {X:Type} (p:Nat→Bool) (xr:Nat→X) (xf:X):∀ d i,(∃ j,i≤j∧j<i+d∧p j=true∧(∀ k,i≤k→k<j→p k=false)∧fstN p xr xf d i=xr j)∨((∀ j,i≤j→j<i+d→p j=false)∧fstN p xr xf d i=xf)
 | 0,i=>.inr ⟨fun j h1 h2=>by omega,rfl⟩
 | d+1,i=>by
  unfold fstN;by_cases hp:p i=true
  ·rw [if_pos hp]
   exact .inl ⟨i,by omega,by omega,hp,fun k h1 h2=>by omega,rfl⟩
  rw [if_neg hp]
  have hp':p i=false:=by simpa using hp
  rcases qfk p xr xf d (i+1) with ⟨j,h1,h2,h3,h4,h5⟩ | ⟨h1,h2⟩
  ·refine .inl ⟨j,by omega,by omega,h3,fun k hk1 hk2=>?_,h5⟩
   by_cases hk:k=i
   ·subst hk; exact hp'
   exact h4 k (by omega) hk2
  refine .inr ⟨fun j hj1 hj2=>?_,h2⟩;by_cases hj:j=i
  ·subst hj; exact hp'
  exact h1 j (by omega) (by omega)
theorem qqi {α X:Type} (l:List α) (P:α→Bool) {p:Nat→Bool} (hp:∀ i (h:i<l.length),p i=P l[i]) (xr xf:X):fstN p (fun _=>xr) xf l.length 0=if l.any P=true then xr else xf:=by
 rcases qfk p (fun _=>xr) xf l.length 0 with ⟨j,h1,h2,h3,h4,h5⟩ | ⟨h1,h2⟩
 ·rw [h5,if_pos]
  rw [List.any_eq_true];exact ⟨l[j],List.getElem_mem (by omega),by rw [← hp j (by omega)]; exact h3⟩
 rw [h2,if_neg];rw [List.any_eq_true]
 rintro ⟨x,hx,hP⟩
 obtain ⟨j,hj,rfl⟩:=List.getElem_of_mem hx;rw [← hp j hj,h1 j (by omega) (by omega)] at hP;cases hP
theorem qhm {α S X:Type} {body:S→Option (Stp S X)} (st:Nat→S) (l:List α) (P:α→Bool) (xr xf:X) (h:∀ i (hi:i<l.length),body (st i)=if P l[i]=true then some (.exit xr) else some (.next (st (i+1)))) (hf:body (st l.length)=some (.exit xf)) {s0:S} (hs0:s0=st 0) :
  loopW body s0=some (if l.any P=true then xr else xf):=by
 rw [← qqi l P (p:=fun i=>if h:i<l.length then P l[i] else false) (fun i hi=>by rw [dif_pos hi]) xr xf];exact qiO st l.length _ _ xf (fun i hi=>by rw [h i hi,dif_pos hi]) hf hs0
theorem qo2 {α X:Type} (l:List α) (P:α→Bool) {p:Nat→Bool} (hp:∀ i (h:i<l.length),p i=P l[i]) (xr:Nat→X) (xf:X):fstN p xr xf l.length 0=if l.any P=true then xr (l.findIdx P) else xf:=by
 rcases qfk p xr xf l.length 0 with ⟨j,h1,h2,h3,h4,h5⟩ | ⟨h1,h2⟩
 ·have hj:j<l.length:=by omega
  have hf:l.findIdx P=j:=by
   rw [List.findIdx_eq hj];exact ⟨by rw [← hp j hj]; exact h3,fun k hk=>by rw [← hp k (by omega)]; exact h4 k (by omega) hk⟩
  rw [h5,if_pos,hf];rw [List.any_eq_true];exact ⟨l[j],List.getElem_mem hj,by rw [← hp j hj]; exact h3⟩
 rw [h2,if_neg];rw [List.any_eq_true]
 rintro ⟨x,hx,hP⟩
 obtain ⟨j,hj,rfl⟩:=List.getElem_of_mem hx;rw [← hp j hj,h1 j (by omega) (by omega)] at hP;cases hP
theorem qhS {α S X:Type} {body:S→Option (Stp S X)} (st:Nat→S) (l:List α) (P:α→Bool) (xr:Nat→X) (xf:X) (h:∀ i (hi:i<l.length),body (st i)=if P l[i]=true then some (.exit (xr i)) else some (.next (st (i+1)))) (hf:body (st l.length)=some (.exit xf)) {s0:S} (hs0:s0=st 0) :
  loopW body s0=some (if l.any P=true then xr (l.findIdx P) else xf):=by
 rw [← qo2 l P (p:=fun i=>if h:i<l.length then P l[i] else false) (fun i hi=>by rw [dif_pos hi]) xr xf];exact qiO st l.length _ _ xf (fun i hi=>by rw [h i hi,dif_pos hi]) hf hs0
theorem lpE {V R Y:Type} {o:Option (Ou V R)} {x:Ou V R} {M:V→Option Y} {Rt:R→Option Y} {r:Option Y} (h:o=some x) (hr:lpO (some x) M Rt=r):lpO o M Rt=r:=by rw [h]; exact hr
def qe1 {α:Type} (l:List α) (P:α→Bool):Int:=if l.any P=true then (l.findIdx P:Nat) else -1
theorem qhu {α:Type} {l:List α} {P:α→Bool}:0≤qe1 l P↔l.any P=true:=by
 unfold qe1
 split <;> simp_all
theorem qn8 {l:List (List UInt8)} {p:List UInt8→Option Bool} (P:List UInt8→Bool) (hm:l.length≤9223372036854775807) (hp:∀ x∈l,p x=some (P x)):qaS l p=some (qe1 l P):=by
 unfold qaS;refine lpE (qhS (fun i=>(i:Int)) l P (fun i=>Ou.ret (i:Int)) (Ou.go ()) (fun i hi=>?_) (by rw [if_neg (qaB _)]) rfl) ?_
 ·rw [if_pos (qbJ hi),ix hi]
  simp only [Option.bind_some,hp _ (List.getElem_mem hi),nx hm hi]
 unfold qe1
 split <;> rfl
theorem qc9 {l:List (List UInt8)} {p:List UInt8→Option Bool} (P:List UInt8→Bool) (hm:l.length≤9223372036854775807) (hp:∀ x∈l,p x=some (P x)):qas l p=some (l.any P):=by
 unfold qas;rw [qn8 P hm hp];simp only [Option.bind_some,qhu,Bool.decide_eq_true]
def qam (l:List (List UInt8)):Nat:=(l.headD []).length
def unev (l:List (List UInt8)):Bool:=l.any fun w=>decide (w.length≠qam l)
def bitB (c:UInt8):Bool:=c == 48 || c == 49
def lett (l:List (List UInt8)):Bool:=l.any fun w=>w.any fun c=>!bitB c
def rept (l:List (List UInt8)):Bool:=!decide l.Nodup
theorem idx0 {l:List (List UInt8)} (h:l≠[]):idx l 0=some (l.headD []):=by
 cases l with
 | nil=>exact absurd rfl h
 | cons a l=>rfl
theorem hdl (l:List (List UInt8)):(l.headD []).length=qam l:=rfl
def Sm (l:List (List UInt8)):Prop:=l.length≤9223372036854775807∧∀ w∈l,w.length≤4611686018427387904
theorem qk3 {l:List (List UInt8)} (h:l≠[]) (hs:Sm l):qb9 l=some (unev l):=by
 unfold qb9;rw [qc9 (fun w=>decide (w.length≠qam l)) hs.1 fun w hw=>?_]
 ·rfl
 unfold qcN;rw [idx0 h];simp only [Option.bind_some,hdl]
 congr 1
 exact decide_eq_decide.2 (by omega)
theorem qq1:∀ w:List UInt8,w.count 48+w.count 49≤w.length∧(w.count 48+w.count 49=w.length↔∀ c∈w,bitB c=true)
 | []=>by simp
 | c::w=>by
  obtain ⟨h1,h2⟩:=qq1 w;by_cases h48:c=48
  ·subst h48
   simp [bitB] at h2 ⊢;refine ⟨by omega,?_⟩;rw [← h2]; omega
  by_cases h49:c=49
  ·subst h49
   simp [bitB] at h2 ⊢;refine ⟨by omega,?_⟩;rw [← h2]; omega
  have e1:(c::w).count 48=w.count 48:=by simp [List.count_cons,h48]
  have e2:(c::w).count 49=w.count 49:=by simp [List.count_cons,h49]
  rw [e1,e2,List.length_cons];refine ⟨by omega,⟨fun h=>by omega,fun h=>?_⟩⟩;have:=h c (List.mem_cons_self ..);simp [bitB,h48,h49] at this
theorem qj3 {l:List (List UInt8)} (hs:Sm l):qbV l=some (lett l):=by
 unfold qbV;rw [qc9 (fun w=>w.any fun c=>!bitB c) hs.1 fun w hw=>?_]
 ·rfl
 unfold qcE;have hl:=hs.2 w hw;obtain ⟨h1,h2⟩:=qq1 w;simp only [qb0,Option.bind_some,Lib.countByte]
 congr 1
 have e:IntKind.wrap .i64 (((w.count 48:Nat):Int)+((w.count 49:Nat):Int))=((w.count 48+w.count 49:Nat):Int):=by
  rw [w64 (by omega) (by omega)]; omega
 rw [e];by_cases hc:w.count 48+w.count 49=w.length
 ·have:=h2.1 hc
  rw [decide_eq_false (by omega),eq_comm];rw [Bool.eq_false_iff];intro ha;obtain ⟨c,hc',hb⟩:=List.any_eq_true.1 ha;rw [this c hc'] at hb;cases hb
 rw [decide_eq_true (by omega),eq_comm,List.any_eq_true];refine Classical.byContradiction fun hn=>hc (h2.2 fun c hc'=>Classical.byContradiction fun hb=>hn ⟨c,hc',by simpa using hb⟩)
theorem nodup_iff {α:Type} {l:List α}:l.Nodup↔∀ i (h:i<l.length),l[i] ∉ l.take i:=by
 rw [List.nodup_iff_pairwise_ne,List.pairwise_iff_getElem];constructor
 ·intro h i hi hm
  obtain ⟨j,hj,e⟩:=List.getElem_of_mem hm;rw [List.length_take] at hj;rw [List.getElem_take] at e;exact h j i (by omega) hi (by omega) e
 intro h i j hi hj hij e;refine h j hj ?_;rw [← e]
 have hq:i<(l.take j).length:=by rw [List.length_take]; omega
 have:=List.getElem_mem hq
 rwa [List.getElem_take] at this
theorem qpR {l:List (List UInt8)} {p:Nat→Bool} (hp:∀ i (h:i<l.length),p i=decide (l[i]∈l.take i)) {X:Type} (xr xf:X):fstN p (fun _=>xr) xf l.length 0=if rept l=true then xr else xf:=by
 rcases qfk p (fun _=>xr) xf l.length 0 with ⟨j,h1,h2,h3,h4,h5⟩ | ⟨h1,h2⟩
 ·rw [h5,if_pos]
  have hj:j<l.length:=by omega
  rw [hp j hj,decide_eq_true_eq] at h3;simp only [rept,Bool.not_eq_true',decide_eq_false_iff_not,nodup_iff];exact fun hn=>hn j hj h3
 rw [h2,if_neg];simp only [rept,Bool.not_eq_true',decide_eq_false_iff_not,nodup_iff,Classical.not_not];intro i hi hm;have:=h1 i (by omega) (by omega);rw [hp i hi] at this;exact of_decide_eq_false this hm
def qnG (l:List (List UInt8)) (i:Nat):List (List UInt8 × Bool):=(l.take i).foldl (fun m w=>qiw w true m) []
theorem qjQ {l:List (List UInt8)} {i:Nat} (hi:i<l.length):qnG l (i+1)=qiw l[i] true (qnG l i):=by
 unfold qnG;rw [← List.take_append_getElem hi,List.foldl_append];rfl
theorem qnF {l:List (List UInt8)} (q:List UInt8):∀ i,i≤l.length→(qgd q (qnG l i)).getD false=decide (q∈l.take i):=by
 intro i
 induction i with
 | zero=>intro _; simp [qnG,qgd]
 | succ i ih =>
  intro hi
  have hi':i<l.length:=by omega
  have e2:(q∈l.take (i+1))↔q∈l.take i∨q=l[i]:=by rw [← List.take_append_getElem hi',List.mem_append,List.mem_singleton]
  rw [qjQ hi',qli];by_cases e:q=l[i]
  ·rw [if_pos e,decide_eq_true (e2.2 (.inr e))]; rfl
  rw [if_neg e,ih (by omega)]; simp [e2,e]
theorem qjU {l:List (List UInt8)} (hs:Sm l):qbU l=some (rept l):=by
 unfold qbU;refine lpE (qiO (fun i=>((i:Int),qnG l i)) l.length (fun i=>if h:i<l.length then decide (l[i]∈l.take i) else false) (fun _=>Ou.ret true) (Ou.go ()) (fun i hi=>?_) (by simp only; rw [if_neg (qaB _)]) rfl) ?_
 ·simp only
  rw [if_pos (qbJ hi),ix hi];simp only [Option.bind_some,dif_pos hi,qnF l[i] i (Nat.le_of_lt hi),nx hs.1 hi,qjQ hi]
 rw [qpR (fun i hi=>by rw [dif_pos hi])];split
 ·rename_i h; rw [h]; rfl
 rename_i h; rw [Bool.not_eq_true] at h; rw [h]; rfl
def qgi (j:Jn):Int :=
 if j.1=[]∨j.2=[] then 5 else if 256<j.1.length∨256<j.2.length then 4 else if unev j.1=true∨unev j.2=true then 11
 else if qam j.1<1∨16<qam j.1∨16<qam j.2 then 2 else if lett j.1=true∨lett j.2=true then 13 else if rept j.1=true∨rept j.2=true then 7 else 0
def SmJ (j:Jn):Prop:=Sm j.1∧Sm j.2
theorem i256 (n:Nat):(256<(n:Int))↔256<n:=by omega
theorem i16 (n:Nat):(16<(n:Int))↔16<n:=by omega
theorem i1 (n:Nat):((n:Int)<1)↔n<1:=by omega
theorem qo4 {j:Jn} (hs:SmJ j):qcL j=some (qgi j):=by
 obtain ⟨h1,h2⟩:=hs;unfold qcL qgi;simp only [jp];by_cases e1:j.1=[]
 ·simp [e1]
 by_cases e2:j.2=[]
 ·simp [e1,e2]
 have l1:¬ (j.1.length:Int)=0:=by have:=List.length_pos_iff.2 e1; omega
 have l2:¬ (j.2.length:Int)=0:=by have:=List.length_pos_iff.2 e2; omega
 rw [if_neg l1,decide_eq_false l2,if_neg Bool.false_ne_true,qk3 e1 h1,qk3 e2 h2,qj3 h1,qj3 h2,qjU h1,qjU h2,idx0 e1,idx0 e2];simp only [Option.bind_some,hdl,i256,i16,i1,e1,e2,or_self,if_false];by_cases c1:256<j.1.length
 ·simp [c1]
 by_cases c2:256<j.2.length
 ·simp [c1,c2]
 by_cases u1:unev j.1=true
 ·simp [c1,c2,u1]
 by_cases u2:unev j.2=true
 ·simp [c1,c2,u1,u2]
 by_cases f1:qam j.1<1
 ·simp only [c1,c2,u1,u2,f1,decide_true,decide_false,if_true,if_false,Bool.false_eq_true,or_self,true_or,not_false_eq_true,Bool.not_true,Bool.not_false]
 by_cases f2:16<qam j.1
 ·simp only [c1,c2,u1,u2,f1,f2,decide_true,decide_false,if_true,if_false,Bool.false_eq_true,or_self,true_or,or_true,not_false_eq_true,Bool.not_true,Bool.not_false]
 by_cases f3:16<qam j.2
 ·simp only [c1,c2,u1,u2,f1,f2,f3,decide_true,decide_false,if_true,if_false,Bool.false_eq_true,or_self,true_or,or_true,not_false_eq_true,Bool.not_true,Bool.not_false]
 have b1:=Bool.eq_false_iff.2 u1;have b2:=Bool.eq_false_iff.2 u2;simp only [c1,c2,b1,b2,f1,f2,f3,decide_true,decide_false,if_true,if_false,Bool.false_eq_true,or_self,not_false_eq_true,Bool.not_true,Bool.not_false]
 cases lett j.1 <;> cases lett j.2 <;> cases rept j.1 <;> cases rept j.2 <;> rfl
def inW (g:Gr) (w:List UInt8):Bool:=decide (qbP g (upto g.2.1) w≠[])
def bitW (w:List UInt8):Prop:=∀ c∈w,bitB c=true
theorem qe2 {u v:List UInt8}:bitW (u++v)↔bitW u∧bitW v:=by
 constructor
 ·exact fun h=>⟨fun c hc=>h c (List.mem_append.2 (.inl hc)),fun c hc=>h c (List.mem_append.2 (.inr hc))⟩
 intro h c hc
 rcases List.mem_append.1 hc with hc | hc
 ·exact h.1 c hc
 exact h.2 c hc
theorem qnm {g:Gr} (h2:g.1=2) {c:UInt8} (h:bitB c=true):c∈lets g:=by
 have e:lets g=[48,49]:=by simp only [lets,h2]; decide
 rw [e]
 simpa [bitB] using h
theorem qmx {g:Gr} (h2:g.1=2) {w:List UInt8} (hb:bitW w) (hl:w.length≤65536):WOk g w:=⟨hl,fun c hc=>qnm h2 (hb c hc)⟩
section
variable {g:Gr}
theorem qkh (hv:VG g) (h2:g.1=2) {w:List UInt8} (hb:bitW w) (hl:w.length≤65536):qbW g w=some (inW g w):=by
 unfold qbW;rw [qgE hv (by omega) (qmx h2 hb hl)];rfl
theorem qkz (hv:VG g) (h2:g.1=2) {w:List UInt8} (hb:bitW w) (hl:w.length≤65536):qeH g w=some (inW g w):=by
 unfold qeH;obtain ⟨r,h1,h2'⟩:=qlX g w;rw [qgE hv (by omega) (qmx h2 hb hl)] at h1;cases h1;rw [h2'];rfl
structure FormOk (j:Jn):Prop where
 ne1:j.1≠[]
 ne2:j.2≠[]
 l1:j.1.length≤256
 l2:j.2.length≤256
 n:∀ w∈j.1,w.length=qam j.1
 r:∀ w∈j.2,w.length=qam j.2
 n1:1≤qam j.1
 n16:qam j.1≤16
 r16:qam j.2≤16
 b1:∀ w∈j.1,bitW w
 b2:∀ w∈j.2,bitW w
 d1:j.1.Nodup
 d2:j.2.Nodup
theorem qkq {l:List (List UInt8)}:unev l=true↔¬ ∀ w∈l,w.length=qam l:=by
 simp [unev]
theorem qkK {l:List (List UInt8)}:lett l=true↔¬ ∀ w∈l,bitW w:=by
 simp [lett,bitW]
theorem qky {l:List (List UInt8)}:rept l=true↔¬ l.Nodup:=by
 simp [rept]
theorem qhW {j:Jn} (h:qgi j=0):FormOk j:=by
 unfold qgi at h;split at h
 ·cases h
 rename_i h1
 split at h
 ·cases h
 rename_i h2
 split at h
 ·cases h
 rename_i h3
 split at h
 ·cases h
 rename_i h4
 split at h
 ·cases h
 rename_i h5
 split at h
 ·cases h
 rename_i h6
 simp only [qkq,qkK,qky,not_or,Classical.not_not] at h1 h2 h3 h4 h5 h6;exact ⟨h1.1,h1.2,by omega,by omega,h3.1,h3.2,by omega,by omega,by omega,h5.1,h5.2,h6.1,h6.2⟩
theorem FormOk.sm {j:Jn} (h:FormOk j):SmJ j:=by
 have:=h.l1; have:=h.l2; have:=h.n16; have:=h.r16;exact ⟨⟨by omega,fun w hw=>by rw [h.n w hw]; omega⟩,⟨by omega,fun w hw=>by rw [h.r w hw]; omega⟩⟩
def qbw (g:Gr) (ms:List (List UInt8)) (a b:List UInt8):Bool:=ms.any fun m=>inW g (a++m++b)
theorem qlo (hv:VG g) (h2:g.1=2) {a m b:List UInt8} (ha:bitW a) (hm:bitW m) (hb:bitW b) (la:a.length≤16) (lm:m.length≤16) (lb:b.length≤16):qct m g a b=some (inW g (a++m++b)):=by
 unfold qct;rw [if_pos (by simp only [maxLen]; omega),if_pos (by simp only [maxLen,List.length_append]; omega),qkh hv h2 (qe2.2 ⟨qe2.2 ⟨ha,hm⟩,hb⟩) (by simp only [List.length_append]; omega)];rfl
theorem qqd (hv:VG g) (h2:g.1=2) {j:Jn} (hj:FormOk j) {a b:List UInt8} (ha:a∈j.1) (hb:b∈j.1):qbf g j.2 a b=some (qbw g j.2 a b):=by
 unfold qbf;have:=hj.l2;rw [qc9 (fun m=>inW g (a++m++b)) (by omega) fun m hm=>qlo hv h2 (hj.b1 a ha) (hj.b2 m hm) (hj.b1 b hb) (by rw [hj.n a ha]; exact hj.n16) (by rw [hj.r m hm]; exact hj.r16) (by rw [hj.n b hb]; exact hj.n16)];rfl
def badW (g:Gr) (j:Jn):Bool:=j.1.any fun w=>!inW g w
def badP (g:Gr) (j:Jn):Bool:=j.1.any fun a=>j.1.any fun b=>!qbw g j.2 a b
open Classical in
def qfm (j:Jn) (g:Gr):Int :=
 if ¬ VG g then 1 else if g.1≠2 then 12 else if qgi j≠0 then qgi j else if badW g j=true then 13 else if badP g j=true then 15 else 0
theorem qkj {j:Jn} (hs:SmJ j):qcu j g=some (qfm j g):=by
 unfold qcu qfm;rw [qeg];obtain ⟨e,he,hv⟩:=qgt g;rw [he];simp only [Option.bind_some];by_cases h0:e=0
 ·have hvg:=hv.1 h0
  rw [if_neg (show ¬ (e≠0) from fun h=>h h0),if_neg (show ¬ ¬ VG g from fun h=>h hvg)];by_cases h2:g.1=2
  ·rw [if_neg (show ¬ (g.1≠2) from fun h=>h h2),if_neg (show ¬ (g.1≠2) from fun h=>h h2),qo4 hs]
   simp only [Option.bind_some];by_cases hf:qgi j=0
   ·rw [if_neg (show ¬ (qgi j≠0) from fun h=>h hf),if_neg (show ¬ (qgi j≠0) from fun h=>h hf)]
    have hj:=qhW hf;have h256:=hj.l1
    have hm:j.1.length≤9223372036854775807:=by omega
    rw [qc9 (fun w=>!inW g w) hm fun w hw=>by
     unfold qc5;rw [qkh hvg h2 (hj.b1 w hw) (by rw [hj.n w hw]; have:=hj.n16; omega)]
     rfl]
    simp only [Option.bind_some,show (j.1.any fun w=>!inW g w)=badW g j from rfl];by_cases hw:badW g j=true
    ·rw [if_pos hw,if_pos hw]
    rw [if_neg hw,if_neg hw];refine lpE (qhm (fun i=>(i:Int)) j.1 (fun a=>j.1.any fun b=>!qbw g j.2 a b) (Ou.ret 15) (Ou.go ()) (fun i hi=>?_) (by rw [if_neg (qaB _)]) rfl) ?_
    ·rw [if_pos (qbJ hi),ix hi]
     simp only [Option.bind_some];refine lpE (qhm (fun k=>(k:Int)) j.1 (fun b=>!qbw g j.2 j.1[i] b) (Ou.ret 15) (Ou.go ()) (fun k hk=>?_) (by rw [if_neg (qaB _)]) rfl) ?_
     ·rw [if_pos (qbJ hk),ix hk]
      simp only [Option.bind_some,qqd hvg h2 hj (List.getElem_mem hi) (List.getElem_mem hk),nx hm hk]
     split
     ·rename_i h; simp only [h,if_true,lpO]
     rename_i h; simp only [h,if_false,lpO,nx hm hi,Bool.false_eq_true]
    unfold badP;split
    ·rename_i h; simp only [lpO,h,if_true]
    rename_i h; simp only [lpO,h,if_false,Bool.false_eq_true]
   rw [if_pos (show qgi j≠0 from hf),if_pos (show qgi j≠0 from hf)]
  rw [if_pos (show g.1≠2 from h2),if_pos (show g.1≠2 from h2)]
 have hvg:¬ VG g:=fun h=>h0 (hv.2 h);rw [if_pos (show e≠0 from h0),if_pos (show ¬ VG g from hvg)]
structure VJ (j:Jn) (g:Gr):Prop where
 hv:VG g
 h2:g.1=2
 f:FormOk j
 w:∀ x∈j.1,inW g x=true
 p:∀ a∈j.1,∀ b∈j.1,qbw g j.2 a b=true
theorem qjx {j:Jn} (h:qfm j g=0):VJ j g:=by
 unfold qfm at h;split at h
 ·cases h
 rename_i h1
 split at h
 ·cases h
 rename_i h2
 split at h
 ·rename_i h3; exact absurd h h3
 rename_i h3
 split at h
 ·cases h
 rename_i h4
 split at h
 ·cases h
 rename_i h5
 simp only [Classical.not_not] at h1 h2 h3;refine ⟨h1,h2,qhW h3,fun x hx=>?_,fun a ha b hb=>?_⟩
 ·simp only [badW,List.any_eq_true,not_exists,not_and] at h4
  have:=h4 x hx
  simpa using this
 simp only [badP,List.any_eq_true,not_exists,not_and] at h5;have:=h5 a ha b hb
 simpa using this
structure qti (j:Jn):Prop where
 sm:SmJ j
 w:j.1.length≤6∨256<j.1.length
 m:j.2.length≤8∨256<j.2.length
 lw:∀ w∈j.1,w.length≤8∨16<w.length
 lm:∀ w∈j.2,w.length≤8∨16<w.length
structure VS (j:Jn) (g:Gr):Prop extends VJ j g where
 w6:j.1.length≤6
 m8:j.2.length≤8
 n8:qam j.1≤8
 r8:qam j.2≤8
 g8:g.2.1≤8
 e30:g.2.2.length≤30
theorem qo1 {l:List (List UInt8)} (h:l≠[]):l.headD []∈l:=by
 cases l with
 | nil=>exact absurd rfl h
 | cons a l=>exact List.mem_cons_self ..
theorem FormOk.small {j:Jn} (h:FormOk j) (hs:qti j):j.1.length≤6∧j.2.length≤8∧qam j.1≤8∧qam j.2≤8:=by
 have:=h.l1; have:=h.l2; have:=h.n16; have:=h.r16;have h1:=hs.w;have h2:=hs.m;have h3:=hs.lw _ (qo1 h.ne1);have h4:=hs.lm _ (qo1 h.ne2);rw [hdl] at h3 h4;omega
end
theorem qn9 {l:List Int} {p:Int→Option Bool} (P:Int→Bool) (hm:l.length≤9223372036854775807) (hp:∀ x∈l,p x=some (P x)):qa9 l p=some (qe1 l P):=by
 unfold qa9;refine lpE (qhS (fun i=>(i:Int)) l P (fun i=>Ou.ret (i:Int)) (Ou.go ()) (fun i hi=>?_) (by rw [if_neg (qaB _)]) rfl) ?_
 ·rw [if_pos (qbJ hi),ix hi]
  simp only [Option.bind_some,hp _ (List.getElem_mem hi),nx hm hi]
 unfold qe1
 split <;> rfl
theorem qhF {l:List Int} {p:Int→Option Bool} (P:Int→Bool) (hm:l.length≤9223372036854775807) (hp:∀ x∈l,p x=some (P x)):qaQ l p=some (l.any P):=by
 unfold qaQ;rw [qn9 P hm hp];simp only [Option.bind_some,qhu,Bool.decide_eq_true]
def badI (j:Jn) (n:Int):Bool:=decide (n<0∨(j.1.length:Int)≤n)
def inpE (j:Jn) (g:Gr) (l:List Int):Int:=if qfm j g≠0 then 1 else if l.any (badI j)=true then 2 else 0
theorem qoW {j:Jn} {g:Gr} {l:List Int} (hs:SmJ j) (hm:l.length≤9223372036854775807):qcH j g l=some (inpE j g l):=by
 unfold qcH inpE;rw [qkj hs];simp only [Option.bind_some];by_cases hc:qfm j g=0
 ·rw [if_neg (show ¬ (qfm j g≠0) from fun h=>h hc),if_neg (show ¬ (qfm j g≠0) from fun h=>h hc),qhF (badI j) hm fun n _=>?_]
  ·simp only [Option.bind_some]
   split <;> rfl
  unfold qcO badI;simp only [jp];by_cases h0:n<0
  ·rw [if_pos h0,decide_eq_true (.inl h0)]
  rw [if_neg h0]; congr 1; exact decide_eq_decide.2 (by omega)
 rw [if_pos (show qfm j g≠0 from hc),if_pos (show qfm j g≠0 from hc)]
def wd (j:Jn) (n:Int):List UInt8:=j.1.getD n.toNat []
theorem qrU {j:Jn} {n:Int} (h:¬ badI j n=true):0≤n∧n.toNat<j.1.length:=by
 simp only [badI,decide_eq_true_eq] at h;omega
theorem qof {j:Jn} {n:Int} (h:0≤n∧n.toNat<j.1.length):idx j.1 n=some (wd j n):=by
 obtain ⟨k,rfl⟩:=Int.eq_ofNat_of_zero_le h.1;rw [ix (show k<j.1.length by simpa using h.2)];simp [wd,List.getD_eq_getElem?_getD,List.getElem?_eq_getElem (show k<j.1.length by simpa using h.2)]
theorem qeP {j:Jn} {n:Int} (h:0≤n∧n.toNat<j.1.length):wd j n∈j.1:=by
 simp only [wd,List.getD_eq_getElem?_getD,List.getElem?_eq_getElem h.2,Option.getD_some];exact List.getElem_mem h.2
section
variable {g:Gr}
theorem qqe {j:Jn} {l:List Int} (h:inpE j g l=0):VJ j g∧∀ n∈l,0≤n∧n.toNat<j.1.length:=by
 unfold inpE at h;split at h
 ·cases h
 rename_i h1
 split at h
 ·cases h
 rename_i h2
 refine ⟨qjx (Classical.not_not.1 h1),fun n hn=>qrU fun hb=>h2 (List.any_eq_true.2 ⟨n,hn,hb⟩)⟩
theorem qlY {j:Jn} (hj:FormOk j) {a:List UInt8} (ha:a∈j.1):bitW a∧a.length≤16:=⟨hj.b1 a ha,by rw [hj.n a ha]; exact hj.n16⟩
theorem qmU {j:Jn} (hj:FormOk j) {a:List UInt8} (ha:a∈j.2):bitW a∧a.length≤16:=⟨hj.b2 a ha,by rw [hj.r a ha]; exact hj.r16⟩
theorem qqh {α:Type} {l:List α} {i:Nat} (h:i<l.length) (d:α):l.getD i d=l[i]:=by simp [List.getD_eq_getElem?_getD,List.getElem?_eq_getElem h]
end
abbrev qri:qa4:=(2,3,bs4,sw4)
theorem enc1 (a:Int):qbM a qri=some (decide (a<0∨(4:Int)≤a)):=by
 unfold qbM jp;dsimp only;by_cases h:a<0
 ·rw [if_pos h]; simp [h]
 rw [if_neg h]
 congr 1
 exact decide_eq_decide.2 ⟨fun h2=>.inr h2,fun h2=>h2.resolve_left h⟩
theorem qte:Pure Tryz.prog 54 [slE eInt [0,0,1],HV.fn (.func 55) [] [HV.fptr [.int .i64 2,.int .i64 3,slE eStr bs4,slE swE sw4] 0]] (· = HV.bool false):=by
 have h:qaQ [0,0,1] (fun b=>qbM b qri)=some false:=by
  rw [qhF (fun a=>decide (a<0∨(4:Int)≤a)) (by decide) (fun a _=>enc1 a)];decide
 exact qcx h (z1:=[HV.fptr [.int .i64 2,.int .i64 3,slE eStr bs4,slE swE sw4] 0]) (fun _ _ h=>qgF (c0:=qri) h)
theorem qo7:Pure Tryz.prog 22 [tabH,slE eInt [0,0,1]] (· = .tup [.str [49,48,49,48,48,48,49,48,48],.int .i64 0]):=qqq qte
def qbr:Option Bool:=some true
set_option maxHeartbeats 6400000 in
set_option maxRecDepth 100000 in
theorem qrh:Pure Tryz.prog 23 [] (· = tabH):=by
 refine zaj Tryz.func23 rfl rfl (lb rfl) fun hf=>?_;clear hf;unfold Tryz.f23;dsimp only [qaL,Nat.reduceAdd];refine zaa rfl fun K hK=>b_op rfl (qaC (fid:=23) (zs:=[hI 0,hI 0,.v (.slice none 0 0),.v (.slice none 0 0)]) 23000 rfl rfl ty60 rfl (fun v1=>?_));refine qab (hK _ ?_);refine zaa rfl fun K hK=>b_op rfl (qdx rfl rfl (qdp (cs:=[.str [49,48,49],.str [49,48,48],.str [48,48,49],.str [48,49,48]]) ty22 ty9 rfl rfl rfl rfl rfl) ?_);refine b_op rfl (qcC (cs:=[hI 0,hI 0,.str [49,48,49,48,48,48]]) rfl (qfM qeD rfl rfl rfl rfl) ?_);refine b_op rfl (qcC (cs:=[hI 0,hI 1,.str [49,48,48,48,48,48]]) rfl (qfM qeD rfl rfl rfl rfl) ?_);refine b_op rfl (qcC (cs:=[hI 2,hI 0,.str [48,48,49,48,48,48]]) rfl (qfM qeD rfl rfl rfl rfl) ?_);refine b_op rfl (qcC (cs:=[hI 2,hI 1,.str [48,49,48,48,48,48]]) rfl (qfM qeD rfl rfl rfl rfl) ?_);refine b_op rfl (qdx rfl rfl (qdp (cs:=[hI 0,hI 0,.str [49,48,49,48,48,48],hI 0,hI 1,.str [49,48,48,48,48,48],hI 2,hI 0,.str [48,48,49,48,48,48],hI 2,hI 1,.str [48,49,48,48,48,48]]) ty58 qeD rfl rfl rfl rfl rfl) ?_);refine b_op rfl (qcC (cs:=[hI 2,hI 3,slE eStr ([[49,48,49],[49,48,48],[48,48,49],[48,49,48]]:List (List UInt8)),slE qa2 ([(0,0,[49,48,49,48,48,48]),(0,1,[49,48,48,48,48,48]),(2,0,[48,48,49,48,48,48]),(2,1,[48,49,48,48,48,48])]:List qaM)]) rfl (qfM ty60 rfl rfl rfl rfl) ?_);refine b_op rfl (qax (cs:=[hI 2,hI 3,slE eStr ([[49,48,49],[49,48,48],[48,48,49],[48,49,48]]:List (List UInt8)),slE qa2 ([(0,0,[49,48,49,48,48,48]),(0,1,[49,48,48,48,48,48]),(2,0,[48,48,49,48,48,48]),(2,1,[48,49,48,48,48,48])]:List qaM)]) (zs:=[hI 2,hI 3,slE eStr ([[49,48,49],[49,48,48],[48,48,49],[48,49,48]]:List (List UInt8)),slE qa2 ([(0,0,[49,48,49,48,48,48]),(0,1,[49,48,48,48,48,48]),(2,0,[48,48,49,48,48,48]),(2,1,[48,49,48,48,48,48])]:List qaM)]) rfl rfl rfl ty60 rfl rfl rfl rfl rfl ?_);refine qab (hK _ ?_);refine AW.to (qaZ (s':=⟨[(0,.ptr 23000 v1 0)],[(23000,v1,.arr 4 60 [hI 2,hI 3,slE eStr ([[49,48,49],[49,48,48],[48,48,49],[48,49,48]]:List (List UInt8)),slE qa2 ([(0,0,[49,48,49,48,48,48]),(0,1,[49,48,48,48,48,48]),(2,0,[48,48,49,48,48,48]),(2,1,[48,49,48,48,48,48])]:List qaM)])]⟩) (le_q rfl rfl) ?_);refine AW.ret ?_;exact qae (.inr rfl) (resP ty60 rfl rfl (qao rfl (lb rfl) rfl) rfl) rfl ⟨trivial,trivial,(qar fun _ _=>⟨trivial,trivial⟩),(qar fun _ _=>⟨trivial,trivial,trivial,trivial⟩),trivial⟩
set_option maxHeartbeats 6400000 in
set_option maxRecDepth 100000 in
theorem qqy:Pure Tryz.prog 8 [] (· = .bool true):=by
 refine zaj Tryz.func8 rfl rfl (lb rfl) fun hf=>?_;clear hf;unfold Tryz.f8;dsimp only [qaL,Nat.reduceAdd];refine zaa rfl fun K hK=>mv rfl rfl ?_;refine qab (hK _ ?_);refine zaa rfl fun K hK=>b_op rfl (qat rfl rfl rfl rfl (zai qrh) ?_);refine b_op rfl (qdx rfl rfl (qdp (cs:=[hI 0,hI 0,hI 1]) ty36 ty3 rfl rfl rfl rfl rfl) ?_);refine b_op rfl (qat rfl rfl rfl rfl (zai qo7) ?_);refine mv rfl rfl (bv rfl (qak rfl rfl) (bv rfl (qak rfl rfl) (mv rfl rfl (mv rfl rfl ?_))));refine qab (hK _ ?_);refine zaa rfl fun K hK=>b_op rfl (qdx rfl rfl (qdp (cs:=[.str [48],.str [48,48,49]]) ty22 ty9 rfl rfl rfl rfl rfl) ?_);refine b_op rfl (qcC (cs:=[hI 2,slE eStr ([[48],[48,48,49]]:List (List UInt8))]) rfl (qfM ty65 rfl rfl rfl rfl) ?_);refine b_op rfl (qat rfl rfl rfl rfl (zai qrL) ?_);refine mv rfl rfl (bv rfl (qak rfl rfl) (bv rfl (qak rfl rfl) (bv rfl (qak rfl rfl) (mv rfl rfl (mv rfl rfl ?_)))));refine mv rfl rfl ?_;refine qab (hK _ ?_);refine zaa rfl fun K hK=>mv rfl rfl (bv rfl (qag rfl rfl qdT) (mv rfl rfl ?_));refine b_T rfl rfl rfl rfl rfl (qai rfl (qaE rfl rfl).2 ?_);refine b_T rfl rfl rfl rfl rfl (qai rfl (qag rfl rfl qdT) ?_);refine bv rfl (qan rfl rfl rfl) (mv rfl rfl ?_);refine b_T rfl rfl rfl rfl rfl (qai rfl (qaE rfl rfl).2 ?_);refine b_T rfl rfl rfl rfl rfl (qai rfl (qag rfl rfl qlP) ?_);refine bv rfl (qan rfl rfl rfl) (mv rfl rfl ?_);refine b_T rfl rfl rfl rfl rfl (qai rfl (qaE rfl rfl).2 ?_);refine b_T rfl rfl rfl rfl rfl (qai rfl (qag rfl rfl qdT) ?_);refine bv rfl (qan rfl rfl rfl) (mv rfl rfl ?_);refine b_T rfl rfl rfl rfl rfl (qai rfl (qaE rfl rfl).2 ?_);refine bv rfl (qan rfl rfl rfl) (mv rfl rfl ?_);refine qab (hK _ ?_);refine AW.to (qaZ (s':=⟨[(0,.bool true)],[]⟩) (le_q rfl rfl) ?_);refine AW.ret ?_;exact qae (.inr rfl) (resT rfl rfl) rfl trivial
theorem qb8 {r:Bool} (h:qbr=some r):Pure Tryz.prog 8 [] (· = HV.bool r):=by
 unfold qbr at h;cases h;exact qqy
end Go.AW
namespace Go.Proofs
open Go
def zaK:Go.Shelf.Ren:=⟨fun | 138=>45 | 195=>76 | 218=>77 | 143=>78 | 219=>105 | 217=>96 | 225=>119 | 224=>120 | 267=>121 | 266=>113 | 314=>146 | n=>n,fun | 9=>9 | 3=>3 | 4=>4 | 5=>5 | 0=>0 | 46=>154 | 146=>169 | 51=>168 | n=>n,fun | 1=>0 | n=>n⟩
theorem Tryz.count:Go.Proofs.Lays.n138 Tryz.prog zaK where
 mixed:=by kernel_rfl
 f138:=Tryz.func45.trans (congrArg some (by kernel_rfl))
 f143:=Tryz.func78.trans (congrArg some (by kernel_rfl))
 f195:=Tryz.func76.trans (congrArg some (by kernel_rfl))
 f217:=Tryz.func96.trans (congrArg some (by kernel_rfl))
 f218:=Tryz.func77.trans (congrArg some (by kernel_rfl))
 f219:=Tryz.func105.trans (congrArg some (by kernel_rfl))
 f224:=Tryz.func120.trans (congrArg some (by kernel_rfl))
 f225:=Tryz.func119.trans (congrArg some (by kernel_rfl))
 f266:=Tryz.func113.trans (congrArg some (by kernel_rfl))
 f267:=Tryz.func121.trans (congrArg some (by kernel_rfl))
 f314:=Tryz.func146.trans (congrArg some (by kernel_rfl))
 t0:=Tryz.underlying0
 a0:=Tryz.isAgg0
 z0:=Tryz.sizeOf0
 v0:=Tryz.zeroValue0
 t3:=Tryz.underlying3
 a3:=Tryz.isAgg3
 z3:=Tryz.sizeOf3
 v3:=Tryz.zeroValue3
 t4:=Tryz.underlying4
 a4:=Tryz.isAgg4
 z4:=Tryz.sizeOf4
 v4:=Tryz.zeroValue4
 t5:=Tryz.underlying5
 a5:=Tryz.isAgg5
 z5:=Tryz.sizeOf5
 v5:=Tryz.zeroValue5
 t9:=Tryz.underlying9
 a9:=Tryz.isAgg9
 z9:=Tryz.sizeOf9
 v9:=Tryz.zeroValue9
 t46:=Tryz.underlying154
 a46:=Tryz.isAgg154
 z46:=Tryz.sizeOf154
 v46:=Tryz.zeroValue154
 t51:=Tryz.underlying168
 a51:=Tryz.isAgg168
 z51:=Tryz.sizeOf168
 v51:=Tryz.zeroValue168
 t146:=Tryz.underlying169
 a146:=Tryz.isAgg169
 z146:=Tryz.sizeOf169
 v146:=Tryz.zeroValue169
 g1:=by kernel_rfl
end Go.Proofs
namespace Go.AW
open Go Go.Proofs
theorem qpd (l:List UInt8) (c:UInt8):Lib.countByte l c≤l.length:=List.count_le_length
theorem qpc (l:List UInt8) (c:UInt8) (hl:l.length≤maxLen):(Lit.int .i64 ((Lib.countByte l c:Nat):Int)).wf=true:=by
 have:=qpd l c;simp only [maxLen] at hl;simp only [Lit.wf,IntKind.min,IntKind.max,IntKind.signed,IntKind.bits,Bool.and_eq_true,decide_eq_true_eq];simp;omega
theorem qeB {a0 a1:List UInt8} {r:Int} (h:qb0 a0 a1=some r):Pure Tryz.prog 45 [HV.str a0,HV.str a1] (· = HV.int .i64 r):=by
 unfold qb0 at h;split at h
 ·rename_i c
  cases h;refine ⟨qde Tryz.func45 rfl rfl,fun μ w vs hs hr _=>?_⟩;obtain ⟨x,xs,rfl,⟨rfl,hl⟩,y,ys,rfl,⟨rfl,_⟩,hn⟩:=hr;cases hn;refine (Any.strings_Count_one Tryz.count ⟨a0.toArray⟩ c w).mono ?_
  rintro e w' ⟨rfl,rfl⟩
  exact ⟨_,_,[],μ,rfl,⟨rfl,trivial,rfl⟩,hs,⟨by simp,qpc a0 c hl⟩,Evo.refl _ _⟩
 cases h
end Go.AW
namespace Go.AW
open Go
def qcD (p0:List UInt8) (c0:qaa) (c1:List (List UInt8)) (c2:List UInt8):Option (Bool) :=
 jp (fun (a1:Bool) =>
   some a1)
   fun k3 =>
  (qbf c0 c1 p0 c2).bind fun x4 =>
  if (!x4)=true then
   k3 true
  else
   (qbf c0 c1 c2 p0).bind fun x6 =>
   k3 (!x6)
end Go.AW
namespace Go.AW
def qnX (g:qaa) (ms:List (List UInt8)) (out:List (List UInt8)) (w:List UInt8):Option Bool :=
 (qbf g ms w w).bind fun j=>if (!j)=true then some true else qas out (fun v=>qcD v g ms w)
def tkW (c:List (List UInt8)→List UInt8→Option Bool):List (List UInt8)→List (List UInt8)→Option (List (List UInt8))
 | [],out=>some out
 | w::ws,out=>(c out w).bind fun b=>if b=true then tkW c ws out else tkW c ws (out++[w])
def qco (all:List (List UInt8)) (g:qaa) (ms:List (List UInt8)):Option (List (List UInt8)) :=
 if all.length≤1000000 then tkW (qnX g ms) all [] else none
theorem ql2 {c:List (List UInt8)→List UInt8→Option Bool}:∀ {ws out L:List (List UInt8)},tkW c ws out=some L→∃ l,L=out++l
 | [],out,L,h=>⟨[],by rw [List.append_nil]; exact (Option.some.inj h).symm⟩
 | w::ws,out,L,h=>by
  simp only [tkW] at h;obtain ⟨b,_,h⟩:=Option.bind_eq_some_iff.1 h;split at h
  ·exact ql2 h
  obtain ⟨l,hl⟩:=ql2 h;exact ⟨w::l,by rw [hl,List.append_assoc]; rfl⟩
end Go.AW
namespace Go.AW
open Go Go.Proofs
set_option maxHeartbeats 1600000
set_option maxRecDepth 100000
theorem qdH {p0:List (List UInt8)} {p1:(List UInt8)→Option (Bool)} {g1:FuncId} {z1:List HV} {r:Int} (h:qaS p0 p1=some r) (hf1:∀ a0 b,p1 a0=some b→Pure Tryz.prog g1 ([.str a0]++z1) (· = HV.bool b)):Pure Tryz.prog 51 [slE eStr p0,.fn (.func g1) [] z1] (· = hI r):=by
 unfold qaS at h;refine zaj Tryz.func51 rfl rfl (lb rfl) fun hf=>?_;unfold Tryz.f51;dsimp only [qaL,Nat.reduceAdd];refine zaa rfl fun K hK=>mv rfl rfl ?_;let E1:Nat × HV:=(1,.fn (.func g1) [] z1);let P1:ASf:=fun t H=>⟨(0,slE eStr p0)::E1::t,H⟩;refine bf hK (P1 [] []) ?_;refine zad ?_;refine zaa rfl fun K hK=>mv rfl rfl (bv rfl (qav rfl rfl ty22 rfl) (mv rfl rfl ?_));let E2:Nat × HV:=(7,hI ((p0).length:Int));refine bf hK (P1 [E2,(8,hI 0)] []) ?_;refine AW.lpR h (by first | exact qa8 | exact qc3) (S:=Int) (V:=Unit) (fun a v=>(P1 [E2,(8,hI a)] [])) ?_ (X:=Unit) (W:=Unit) (fun a v=>⟨[],[]⟩) (fun a9 w10 h=>?_) (fun a1 w2 st3 h hr4=> ?_)
 ·exact to_L ⟨(),rfl⟩
 ·refine zaa rfl fun K hK=>mv rfl rfl ?_
  refine bf hK ⟨[(4,hI (-1))],[]⟩ ?_;obtain rfl:=oi h;exact AW.ret (qae (.inr rfl) (resT rfl rfl) rfl trivial)
 refine zaa rfl fun K hK=>bv rfl (qag rfl rfl qaF) ?_;refine bf hK (P1 [E2,(8,hI a1),(9,.bool (decide (a1<((p0).length:Int))))] []) ?_;refine zak rfl (fun hc=>?_) (fun hc=>?_)
 ·obtain ⟨hc,h⟩:=cT hc h
  refine zac ?_;refine zad (zaf ?_);refine zaa rfl fun K hK=>mv rfl rfl (mv rfl rfl ?_);refine bf hK (P1 [(5,hI a1),E2,(8,hI a1)] []) ?_;refine zaa rfl fun K hK=>mv rfl rfl (mv rfl rfl (mv rfl rfl ?_));obtain ⟨x5,h6,h⟩:=bS h;refine bv rfl (qaI ty22 es22 rfl rfl (qay h6)) (bv rfl (qad ty9 rfl (qaW eStr h6 (o:=0) rfl rfl)) ?_);obtain ⟨x7,h8,h⟩:=bS h;refine b_op rfl (qat rfl rfl rfl rfl (zai (hf1 _ _ h8)) ?_);refine bf hK (P1 [(5,hI a1),E2,(8,hI a1),(16,.bool x7)] []) ?_;refine zae rfl (fun hc=>?_) (fun hc=>?_)
  ·have h:=ifT hc h
   refine zaa rfl fun K hK=>mv rfl rfl (mv rfl rfl ?_);refine bf hK ⟨[(4,hI a1)],[]⟩ ?_;have h:=hr4 _ h;obtain rfl:=oi h;exact AW.ret (qae (.inr rfl) (resT rfl rfl) rfl trivial)
  have h:=ifF (bF' hc) h;refine zac ?_;refine zab rfl fun K hK=>bv rfl (qag rfl rfl qaX) (mv rfl rfl ?_);refine qab (hK _ ?_);exact to_L ⟨IntKind.wrap .i64 (a1+1),(),h,rfl⟩
 obtain ⟨hc,h⟩:=cF hc h;refine AW.exit ?_;exact to_L ⟨(),(),h,rfl⟩
theorem qaO {p0:List (List UInt8)} {p1:(List UInt8)→Option (Bool)} {g1:FuncId} {z1:List HV} {r:Bool} (h:qas p0 p1=some r) (hf1:∀ a0 b,p1 a0=some b→Pure Tryz.prog g1 ([.str a0]++z1) (· = HV.bool b)):Pure Tryz.prog 18 [slE eStr p0,.fn (.func g1) [] z1] (· = HV.bool r):=by
 unfold qas at h;refine zaj Tryz.func18 rfl rfl (lb rfl) fun hf=>?_;unfold Tryz.f18;dsimp only [qaL,Nat.reduceAdd];refine zaa rfl fun K hK=>mv rfl rfl ?_;refine bf hK ⟨[(0,slE eStr p0),(1,.fn (.func g1) [] z1)],[]⟩ ?_;refine zaa rfl fun K hK=>mv rfl rfl (mv rfl rfl ?_);obtain ⟨x1,h2,h⟩:=bS h;refine b_op rfl (qat rfl rfl rfl rfl (zai (qdH h2 hf1)) ?_);refine bv rfl (qag rfl rfl qgL) (mv rfl rfl ?_);refine bf hK ⟨[(4,.bool (decide (0≤x1)))],[]⟩ ?_;obtain rfl:=oi h;exact AW.ret (qae (.inr rfl) (resT rfl rfl) rfl trivial)
theorem qiX {p0:qaa} {p1:List (Int)} {p2:List UInt8} {r:(List (Int))} (h:qcX p0 p1 p2=some r):Pure Tryz.prog 42 [gA p0,slE eInt p1,.str p2] (· = slE eInt r):=by
 unfold qcX at h;refine zaj Tryz.func42 rfl rfl (lb rfl) fun hf=>?_;unfold Tryz.f42;dsimp only [qaL,Nat.reduceAdd];refine zaa rfl fun K hK=>b_op rfl (qbh rfl rfl rfl ?_);refine mv rfl rfl ?_;refine bf hK ⟨[(1,slE eInt p1),(2,.str p2),(3,gF p0)],[]⟩ ?_;refine zad ?_;refine zaa rfl fun K hK=>mv rfl rfl ?_;refine bf hK ⟨[(1,slE eInt p1),(2,.str p2),(3,gF p0),(7,hI 0)],[]⟩ ?_;refine AW.lpX h (by first | exact qa8 | exact qc3) (S:=(List Int) × Int) (V:=Unit) (fun a v=>⟨[(1,slE eInt a.1),(2,.str p2),(3,gF p0),(7,hI a.2)],[]⟩) ?_ (X:=(List Int)) (W:=Unit) (fun a v=>⟨[(1,slE eInt a)],[]⟩) (fun a13 w14 h=>?_) (fun a1 w2 st3 h=>?_)
 ·exact to_L ⟨(),rfl⟩
 ·refine zaa rfl fun K hK=>mv rfl rfl (mv rfl rfl ?_)
  refine bf hK ⟨[(6,slE eInt a13)],[]⟩ ?_;obtain rfl:=oi h;exact AW.ret (qae (.inr rfl) (resT rfl rfl) rfl (qar fun _ _=>⟨trivial,trivial⟩))
 refine zad ?_;refine zag h (S:=Bool) (V:=Unit) (fun a v=>⟨[(1,slE eInt a1.1),(2,.str p2),(3,gF p0),(7,hI a1.2),(16,.bool a)],[]⟩) (fun a5 w6 h=>?_) (fun k7 h=>?_)
 ·refine zae rfl (fun hc=>?_) (fun hc=>?_)
  ·have h:=ifT hc h
   refine zac ?_;refine zad (zaf ?_);refine AW.dg 7 follows rfl rfl fun K hK=>?_;refine sv rfl (qad ty27 rfl (qao rfl (lb rfl) rfl)) ?_
   iterate 3 refine sm rfl rfl ?_
   obtain ⟨x8,h9,h⟩:=bS h;refine sv rfl (qen ty9 rfl rfl h9) ?_;obtain ⟨x10,h11,h⟩:=bS h;refine s_op rfl rfl (qaV rfl rfl rfl rfl (zai (qf0 h11)) ?_);refine sm rfl rfl ?_;refine qb7 ?_;refine bf hK ⟨[(1,slE eInt x10),(2,.str p2),(3,gF p0),(7,hI a1.2)],[]⟩ ?_;refine zab rfl fun K hK=>mv rfl rfl (bv rfl (qag rfl rfl qaX) (mv rfl rfl ?_));refine qab (hK _ ?_);exact to_L ⟨(x10,IntKind.wrap .i64 (a1.2+1)),(),h,rfl⟩
  have h:=ifF (bF' hc) h;refine AW.exit ?_;exact to_L ⟨a1.1,(),h,rfl⟩
 refine zab rfl fun K hK=>mv rfl rfl (mv rfl rfl (bv rfl (qcb rfl rfl ty9 rfl) (bv rfl (qag rfl rfl qaF) (mv rfl rfl ?_))));by_cases hg12:a1.2<((p2).length:Int)
 ·have h:=ifT hg12 h
  refine b_T rfl rfl rfl rfl (decide_eq_true hg12) (qai rfl (qaE rfl rfl).2 ?_);refine b_T rfl rfl rfl rfl rfl (qai rfl (qav rfl rfl ty36 rfl) ?_);refine b_T rfl rfl rfl rfl rfl (qai rfl (qag rfl rfl qbB) ?_);refine bv rfl (qan rfl rfl rfl) ?_;refine qab (hK _ ?_);exact to_L ⟨decide (0<((a1.1).length:Int)),(),h,rfl⟩
 have h:=ifF hg12 h;refine b_F rfl rfl rfl rfl rfl (decide_eq_false hg12) ?_
 iterate 2 refine b_F rfl rfl rfl rfl rfl rfl ?_
 refine bv rfl (qau rfl rfl rfl) ?_;refine qab (hK _ ?_);exact to_L ⟨false,(),h,rfl⟩
theorem qeR {p0:qaa} {p1:List UInt8} {r:Bool × Int} (h:qa5 p0 p1=some r):Pure Tryz.prog 14 [gA p0,.str p1] (· = HV.tup [.bool r.1,hI r.2]):=by
 unfold qa5 at h;refine zaj Tryz.func14 rfl rfl (lb rfl) fun hf=>?_;unfold Tryz.f14;dsimp only [qaL,Nat.reduceAdd];refine zaa rfl fun K hK=>b_op rfl (qbh rfl rfl rfl ?_);refine mv rfl rfl (mv rfl rfl ?_);refine bf hK ⟨[(1,.str p1),(2,gF p0)],[]⟩ ?_;refine zad ?_;refine zaa rfl fun K hK=>bv rfl (qad ty27 rfl (qao rfl (lb rfl) rfl)) (mv rfl rfl ?_);obtain ⟨x1,h2,h⟩:=bS h;refine b_op rfl (qat rfl rfl rfl rfl (zai (qhK h2)) ?_);refine mv rfl rfl ?_;refine bf hK ⟨[(1,.str p1),(2,gF p0),(6,hI x1)],[]⟩ ?_;refine zaa rfl fun K hK=>mv rfl rfl (bv rfl (qag rfl rfl qcv) ?_);refine bf hK ⟨[(1,.str p1),(2,gF p0),(6,hI x1),(11,.bool (decide (x1≠0)))],[]⟩ ?_;refine zae rfl (fun hc=>?_) (fun hc=>?_)
 ·obtain ⟨hc,h⟩:=cT hc h
  refine zaa rfl fun K hK=>mv rfl rfl (mv rfl rfl (mv rfl rfl ?_));refine bf hK ⟨[(4,.bool false),(5,hI x1)],[]⟩ ?_;obtain rfl:=oi h;exact AW.ret (qae (.inr rfl) (resT rfl (resT rfl rfl)) rfl ⟨trivial,trivial,trivial⟩)
 obtain ⟨hc,h⟩:=cF hc h;refine zac ?_;refine zao 9 follows rfl rfl fun K hK=>?_;refine sv rfl (qad ty27 rfl (qao rfl (lb rfl) rfl)) ?_;refine sv rfl (qad ty27 rfl (qao rfl (lb rfl) rfl)) ?_;obtain ⟨x3,h4,h⟩:=bS h;refine s_op rfl rfl (qaV rfl rfl rfl rfl (zai (qfe h4)) ?_);refine sm rfl rfl ?_;obtain ⟨x5,h6,h⟩:=bS h;refine s_op rfl rfl (qaV rfl rfl rfl rfl (zai (qiX h6)) ?_);refine sv rfl (qav rfl rfl ty36 rfl) ?_;refine sv rfl (qag rfl rfl qbB) ?_
 iterate 2 refine sm rfl rfl ?_
 refine qb7 ?_;refine bf hK ⟨[(4,.bool (decide (0<((x5).length:Int)))),(5,hI 0)],[]⟩ ?_;obtain rfl:=oi h;exact AW.ret (qae (.inr rfl) (resT rfl (resT rfl rfl)) rfl ⟨trivial,trivial,trivial⟩)
theorem qfc {p0:qaa} {p1:List UInt8} {r:Bool} (h:qbW p0 p1=some r):Pure Tryz.prog 20 [gA p0,.str p1] (· = HV.bool r):=by
 unfold qbW at h;refine zaj Tryz.func20 rfl rfl (lb rfl) fun hf=>?_;unfold Tryz.f20;dsimp only [qaL,Nat.reduceAdd];refine zaa rfl fun K hK=>b_op rfl (qbh rfl rfl rfl ?_);refine mv rfl rfl ?_;refine bf hK ⟨[(1,.str p1),(2,gF p0)],[]⟩ ?_;refine zaa rfl fun K hK=>bv rfl (qad ty27 rfl (qao rfl (lb rfl) rfl)) (mv rfl rfl ?_);obtain ⟨x1,h2,h⟩:=bS h;refine b_op rfl (qat rfl rfl rfl rfl (zai (qeR h2)) ?_);refine mv rfl rfl (bv rfl (qak rfl rfl) (bv rfl (qak rfl rfl) (mv rfl rfl (mv rfl rfl ?_))));refine bf hK ⟨[(5,.bool x1.1),(6,hI x1.2)],[]⟩ ?_;refine zag h (S:=Bool) (V:=Unit) (fun a v=>⟨[(4,.bool a)],[]⟩) (fun a3 w4 h=>?_) (fun k5 h=>?_)
 ·obtain rfl:=oi h
  exact AW.ret (qae (.inr rfl) (resT rfl rfl) rfl trivial)
 refine zab rfl fun K hK=>mv rfl rfl (bv rfl (qag rfl rfl qdT) (mv rfl rfl ?_));by_cases hg6:x1.2=0
 ·have h:=ifT hg6 h
  refine b_T rfl rfl rfl rfl (decide_eq_true hg6) (qai rfl (qaE rfl rfl).2 ?_);refine bv rfl (qan rfl rfl rfl) (mv rfl rfl ?_);refine qab (hK _ ?_);exact to_L ⟨x1.1,(),h,rfl⟩
 have h:=ifF hg6 h;refine b_F rfl rfl rfl rfl rfl (decide_eq_false hg6) ?_;refine bv rfl (qau rfl rfl rfl) (mv rfl rfl ?_);refine qab (hK _ ?_);exact to_L ⟨false,(),h,rfl⟩
theorem qhI {p0:List UInt8} {c0:qaa} {c1:List UInt8} {c2:List UInt8} {r:Bool} (h:qct p0 c0 c1 c2=some r):Pure Tryz.prog 52 [.str p0,gF c0,.fptr [.str c1] 0,.fptr [.str c2] 0] (· = HV.bool r):=by
 unfold qct at h;refine zaj Tryz.func52 rfl rfl (lb rfl) fun hf=>?_;unfold Tryz.f52;dsimp only [qaL,Nat.reduceAdd];refine zaa rfl fun K hK=>mv rfl rfl ?_;refine bf hK ⟨[(0,.str p0),(1,gF c0),(2,.fptr [.str c1] 0),(3,.fptr [.str c2] 0)],[]⟩ ?_;refine zaa rfl fun K hK=>bv rfl (qad ty27 rfl (qao rfl (lb rfl) rfl)) (bv rfl (qad ty9 rfl (qaj rfl rfl)) (mv rfl rfl ?_));obtain ⟨h1,h⟩:=ifN h;refine bv rfl (qag rfl rfl (qkd h1)) (bv rfl (qad ty9 rfl (qaj rfl rfl)) ?_);obtain ⟨h2,h⟩:=ifN h;refine bv rfl (qag rfl rfl (qkd h2)) ?_;obtain ⟨x3,h4,h⟩:=bS h;refine b_op rfl (qat rfl rfl rfl rfl (zai (qfc h4)) ?_);refine mv rfl rfl ?_;refine bf hK ⟨[(5,.bool x3)],[]⟩ ?_;obtain rfl:=oi h;exact AW.ret (qae (.inr rfl) (resT rfl rfl) rfl trivial)
theorem qdM {p0:qaa} {p1:List (List UInt8)} {p2:List UInt8} {p3:List UInt8} {r:Bool} (h:qbf p0 p1 p2 p3=some r):Pure Tryz.prog 21 [gA p0,slE eStr p1,.str p2,.str p3] (· = HV.bool r):=by
 unfold qbf at h;refine zaj Tryz.func21 rfl rfl (lb rfl) fun hf=>?_;unfold Tryz.f21;dsimp only [qaL,Nat.reduceAdd];refine zaa rfl fun K hK=>b_op rfl (qbh rfl rfl rfl ?_);refine b_op rfl (qbh rfl rfl rfl ?_);refine b_op rfl (qbh rfl rfl rfl ?_);refine mv rfl rfl ?_;refine bf hK ⟨[(1,slE eStr p1),(4,gF p0),(6,.fptr [.str p2] 0),(7,.fptr [.str p3] 0)],[]⟩ ?_;refine zaa rfl fun K hK=>mv rfl rfl (bv rfl (qeT rfl rfl) ?_);obtain ⟨x1,h2,h⟩:=bS h;refine b_op rfl (qat rfl rfl rfl rfl (zai (qaO h2 (fun _ _ h=>qhI h))) ?_);refine mv rfl rfl ?_;refine bf hK ⟨[(8,.bool x1)],[]⟩ ?_;obtain rfl:=oi h;exact AW.ret (qae (.inr rfl) (resT rfl rfl) rfl trivial)
theorem qgU {p0:List UInt8} {c0:qaa} {c1:List (List UInt8)} {c2:List UInt8} {r:Bool} (h:qcD p0 c0 c1 c2=some r):Pure Tryz.prog 73 [.str p0,gF c0,.fptr [slE eStr c1] 0,.fptr [.str c2] 0] (· = HV.bool r):=by
 unfold qcD at h;refine zaj Tryz.func73 rfl rfl (lb rfl) fun hf=>?_;unfold Tryz.f73;dsimp only [qaL,Nat.reduceAdd];refine zaa rfl fun K hK=>mv rfl rfl ?_;refine bf hK ⟨[(0,.str p0),(1,gF c0),(2,.fptr [slE eStr c1] 0),(3,.fptr [.str c2] 0)],[]⟩ ?_;refine zag h (S:=Bool) (V:=Unit) (fun a v=>⟨[(5,.bool a)],[]⟩) (fun a1 w2 h=>?_) (fun k3 h=>?_)
 ·obtain rfl:=oi h
  exact AW.ret (qae (.inr rfl) (resT rfl rfl) rfl trivial)
 refine zab rfl fun K hK=>bv rfl (qad ty27 rfl (qao rfl (lb rfl) rfl)) (bv rfl (qad ty22 rfl (qaj rfl rfl)) (mv rfl rfl (bv rfl (qad ty9 rfl (qaj rfl rfl)) ?_)));obtain ⟨x4,h5,h⟩:=bS h;refine b_op rfl (qat rfl rfl rfl rfl (zai (qdM h5)) ?_);refine bv rfl (qdX rfl) (mv rfl rfl ?_);by_cases hg8:(!x4)=true
 ·have h:=ifT hg8 h
  refine b_F rfl rfl rfl rfl rfl hg8 ?_
  iterate 5 refine b_F rfl rfl rfl rfl rfl rfl ?_
  refine bv rfl (qan rfl rfl rfl) (mv rfl rfl ?_);refine qab (hK _ ?_);exact to_L ⟨true,(),h,rfl⟩
 have h:=ifF hg8 h;refine b_T rfl rfl rfl rfl (bF hg8) (qai rfl (qad ty27 rfl (qao rfl (lb rfl) rfl)) ?_);refine b_T rfl rfl rfl rfl rfl (qai rfl (qad ty22 rfl (qaj rfl rfl)) ?_);refine b_T rfl rfl rfl rfl rfl (qai rfl (qad ty9 rfl (qaj rfl rfl)) ?_);refine b_T rfl rfl rfl rfl rfl (qai rfl (qaE rfl rfl).2 ?_);obtain ⟨x6,h7,h⟩:=bS h;refine b_T rfl rfl rfl rfl rfl (qat rfl rfl rfl rfl (zai (qdM h7)) ?_);refine b_T rfl rfl rfl rfl rfl (qai rfl (qdX rfl) ?_);refine bv rfl (qau rfl rfl rfl) (mv rfl rfl ?_);refine qab (hK _ ?_);exact to_L ⟨!x6,(),h,rfl⟩
end Go.AW

namespace Go.AW
open Go
section
variable {P:Program} {ro:Option Nat} {N:Nat} {s:AS} {ops:Array Oper} {K:AS→Prop} {F:List Nat→AS→Prop} {L:List Nat}
theorem AOpI.mono {i:Nat} {G G':AS→Prop} (h:AOpI P ro N ops i G s) (hg:∀ s',G s'→G' s'):AOpI P ro N ops i G' s:=fun w0 μ0 μ a w next Q hs hE hK =>
 h w0 μ0 μ a w next Q hs hE fun μ2 s2 a2 w2 hk hs2 hE2=>hK μ2 s2 a2 w2 (hg s2 hk) hs2 hE2
theorem qrC (hF:F=AnyL P ro N ops K) (hda:daOk ops=true) (p:Nat) (hp:p≤ops.size) (hw:((List.range ops.size).all fun i=>decide (i<p) || (List.range p).all fun k=>(da ops i).contains k)=true)
  (Inv:List Nat→AS→Prop) (hstep:∀ L s i,Inv L s→i<p→i ∉ L→(∀ k∈da ops i,k∈L)→AOpI P ro N ops i (Inv (i::L)) s)
  (hend:∀ L s,Inv L s→(∀ k,k<p↔k∈L)→F L s):∀ (d:Nat) (L:List Nat) (s:AS),Inv L s→(∀ k∈L,k<p)→L.Nodup→L.length+d=p→F L s
 | 0,L,s,hI,hL,hn,hd=>by
  refine hend L s hI fun k=>⟨fun hk=>Classical.byContradiction fun hkn=>?_,hL k⟩
  have hsub:(k::L) ⊆ List.range p:=fun x hx=>by
   rcases List.mem_cons.1 hx with rfl | hx
   ·exact List.mem_range.2 hk
   exact List.mem_range.2 (hL x hx)
  have:=(List.nodup_cons.2 ⟨hkn,hn⟩).length_le_of_subset hsub;simp only [List.length_cons,List.length_range] at this;omega
 | d + 1,L,s,hI,hL,hn,hd=>by
  have hex:∃ k,k<p∧k ∉ L:=Classical.byContradiction fun hno=>by
   have hsub:List.range p ⊆ L:=fun x hx=>Classical.byContradiction fun hx'=>hno ⟨x,List.mem_range.1 hx,hx'⟩;have:=(List.nodup_range (n:=p)).length_le_of_subset hsub;simp only [List.length_range] at this;omega
  obtain ⟨k0,hk0,hkL⟩:=hex
  have hlt:∀ i,i∈qga ops L→i<p∧i ∉ L∧∀ k∈da ops i,k∈L:=fun i hi=>by
   simp only [qga,List.mem_filter,List.mem_range,Bool.and_eq_true,Bool.not_eq_true',List.all_eq_true] at hi;obtain ⟨h1,h2,h3⟩:=hi
   have h2':i ∉ L:=fun h=>by rw [List.contains_iff_mem.2 h] at h2; cases h2
   refine ⟨Classical.byContradiction fun hip=>?_,h2',fun k hk=>List.contains_iff_mem.1 (h3 k hk)⟩;have:=List.all_eq_true.1 hw i (List.mem_range.2 h1);rw [Bool.or_eq_true,decide_eq_true_eq] at this
   rcases this with h | h
   ·exact hip h
   have:=List.all_eq_true.1 h k0 (List.mem_range.2 hk0);exact hkL (List.contains_iff_mem.1 (h3 k0 (List.contains_iff_mem.1 this)))
  -- some operation is ready
  have hready:(qga ops L).isEmpty=false:=by
   have hdak:=qed hda
   -- the qfA that is not done
   have hmin:∃ m,m<p∧m ∉ L∧∀ k,k<m→k∈L:=by
    have:∀ n,(∃ m,m<n∧m<p∧m ∉ L)→∃ m,m<p∧m ∉ L∧∀ k,k<m→k∈L:=by
     intro n
     induction n with
     | zero=>rintro ⟨m,h,_⟩; omega
     | succ n ih =>
      rintro ⟨m,h1,h2,h3⟩
      by_cases hc:∃ m,m<n∧m<p∧m ∉ L
      ·exact ih hc
      refine ⟨m,h2,h3,fun k hk=>Classical.byContradiction fun hkn=>hc ⟨k,by omega,by omega,hkn⟩⟩
    exact this p ⟨k0,hk0,hk0,hkL⟩
   obtain ⟨m,hm,hmL,hmin⟩:=hmin
   have:m∈qga ops L:=by
    simp only [qga,List.mem_filter,List.mem_range,Bool.and_eq_true,Bool.not_eq_true',List.all_eq_true];refine ⟨by omega,?_,fun k hk=>List.contains_iff_mem.2 (hmin k (hdak m (by omega) k hk))⟩
    cases h:L.contains m with
    | false=>rfl
    | true=>exact absurd (List.contains_iff_mem.1 h) hmL
   cases hl:qga ops L with
   | nil=>rw [hl] at this; cases this
   | cons a l=>rfl
  refine qaT hF hda (qga ops L) rfl hready ?_
  have hall:∀ l:List Nat,(∀ i∈l,i∈qga ops L)→allR l fun i=>AOpI P ro N ops i (F (i::L)) s:=by
   intro l
   induction l with
   | nil=>intro _; exact trivial
   | cons i l ih =>
    intro hl;obtain ⟨h1,h2,h3⟩:=hlt i (hl i (List.mem_cons_self ..));refine ⟨(hstep L s i hI h1 h2 h3).mono fun s' h'=>?_,ih fun j hj=>hl j (List.mem_cons_of_mem _ hj)⟩;refine qrC hF hda p hp hw Inv hstep hend d (i::L) s' h' (fun k hk=>?_) (List.nodup_cons.2 ⟨h2,hn⟩) (by simp only [List.length_cons]; omega)
    rcases List.mem_cons.1 hk with rfl | hk
    ·exact h1
    exact hL k hk
  exact hall _ fun i hi=>hi
end
def rid (i:Nat):Nat:=(1000000+i)*1000+30
theorem ql7 {i j:Nat} (h:rid i=rid j):i=j:=by unfold rid at h; omega
theorem qa6 {id v:Nat} {o:AObj} {H:Heap}:hget ((id,v,o)::H) id=some (v,o):=by simp [hget]
theorem qaD {id j v:Nat} {o:AObj} {H:Heap} (h:id≠j):hget ((j,v,o)::H) id=hget H id:=by simp [hget,h]
theorem qll {id v v':Nat} {o o':AObj} {H:Heap}:∀ j x,hget ((id,v,o)::H) j=some x→hget ((id,v,o)::(id,v',o')::H) j=some x:=fun j x h=>by
 by_cases e:j=id
 ·subst e; rw [qa6] at h ⊢; exact h
 rw [qaD e] at h ⊢; rw [qaD e]; exact h
abbrev Rws:=List (Nat × List Int)
def qfg:Nat→Rws→Heap
 | _,[]=>[]
 | k,(v,l)::t=>(rid k,v,.arr 1 3 (eInt.E l))::qfg (k+1) t
def hdr:Nat→Rws→List HV
 | _,[]=>[]
 | k,(v,l)::t=>.ar (rid k) v 1 0 l.length::hdr (k+1) t
theorem qhU:∀ (k:Nat) (rs:Rws),(hdr k rs).length=rs.length
 | _,[]=>rfl
 | k,(v,l)::t=>by simp [hdr,qhU (k+1) t]
theorem qoY:∀ (k:Nat) (rs:Rws) (v:Nat) (l:List Int),hdr k (rs++[(v,l)])=hdr k rs++[.ar (rid (k+rs.length)) v 1 0 l.length]
 | _,[],_,_=>rfl
 | k,(v,l)::t,v',l'=>by
  simp only [List.cons_append,hdr,qoY (k+1) t v' l',List.length_cons];rw [show k+1+t.length=k+(t.length+1) by omega]
theorem qmp:∀ {rs:Rws} (k:Nat) {i v:Nat} {l:List Int},rs[i]?=some (v,l)→(hdr k rs)[i]?=some (.ar (rid (k+i)) v 1 0 l.length)
 | [],_,i,_,_,h=>by simp at h
 | (v,l)::t,k,0,_,_,h=>by
  simp at h;obtain ⟨rfl,rfl⟩:=h;simp [hdr]
 | (v,l)::t,k,i+1,_,_,h=>by
  simp only [List.getElem?_cons_succ] at h;have:=qmp (k+1) h;simp only [hdr,List.getElem?_cons_succ,this];rw [show k+1+i=k+(i+1) by omega]
theorem qdn:∀ {rs:Rws} (k:Nat) {i v:Nat} {l:List Int},rs[i]?=some (v,l)→hget (qfg k rs) (rid (k+i))=some (v,.arr 1 3 (eInt.E l))
 | [],_,i,_,_,h=>by simp at h
 | (v,l)::t,k,0,_,_,h=>by
  simp at h;obtain ⟨rfl,rfl⟩:=h;exact qa6
 | (v,l)::t,k,i+1,_,_,h=>by
  simp only [List.getElem?_cons_succ] at h;have:=qdn (k+1) h;show hget ((rid k,v,_)::qfg (k+1) t) (rid (k+(i+1)))=_;rw [qaD (fun e=>by have:=ql7 e; omega),← this,show k+1+i=k+(i+1) by omega]
theorem qih:∀ (rs:Rws) (k:Nat) {id:Nat},(∀ i,i<rs.length→id≠rid (k+i))→hget (qfg k rs) id=none
 | [],_,_,_=>rfl
 | (v,l)::t,k,id,h=>by
  show hget ((rid k,v,_)::qfg (k+1) t) id=none;rw [qaD (show id≠rid k from h 0 (by simp))]
  exact qih t (k+1) fun i hi=>by
   have:=h (i+1) (by simp; omega)
   rwa [show k+(i+1)=k+1+i by omega] at this
theorem qfC {H:Heap}:∀ (rs:Rws) (k:Nat),(∀ i v l,rs[i]?=some (v,l)→hget H (rid (k+i))=some (v,.arr 1 3 (eInt.E l)))→leH H (qfg k rs)
 | [],_,_=>trivial
 | (v,l)::t,k,h=>⟨h 0 v l rfl,qfC t (k+1) fun i v' l' hi=>by
  have:=h (i+1) v' l' (by simpa using hi)
  rwa [show k+(i+1)=k+1+i by omega] at this⟩
theorem qrl {rs:Rws} {v:Nat} {l:List Int} {H:Heap} (hH:∀ i,hget H (rid i)=none):∀ id x,hget (qfg 0 (rs++[(v,l)])) id=some x→hget ((rid rs.length,v,.arr 1 3 (eInt.E l))::(H++qfg 0 rs)) id=some x:=by
 refine qcF (qfC _ 0 fun i v' l' hi=>?_)
 have happ:∀ (A B:Heap) (id:Nat),hget A id=none→hget (A++B) id=hget B id:=by
  intro A B id
  induction A with
  | nil=>intro _; rfl
  | cons a A ih =>
   obtain ⟨j,u,o⟩:=a;intro h;by_cases e:id=j
   ·subst e; rw [qa6] at h; cases h
   rw [qaD e] at h;rw [List.cons_append,qaD e];exact ih h
 rw [Nat.zero_add];by_cases hlt:i<rs.length
 ·rw [List.getElem?_append_left hlt] at hi
  rw [qaD (fun e=>by have:=ql7 e; omega),happ _ _ _ (hH i)];have:=qdn 0 hi
  rwa [Nat.zero_add] at this
 have hi2:i=rs.length:=by
  have:=(List.getElem?_eq_some_iff.1 hi).1;simp at this;omega
 subst hi2;simp at hi;obtain ⟨rfl,rfl⟩:=hi;exact qa6
abbrev eHd:EncL HV:=⟨1,fun h=>[h],fun l=>l,fun l=>by induction l with
 | nil=>rfl
 | cons a l ih=>exact congrArg (a :: ·) ih,fun _=>rfl⟩
theorem qoX:∀ (rs:Rws) (k i v:Nat) (l:List Int),hdr k (rs.set i (v,l))=(hdr k rs).set i (.ar (rid (k+i)) v 1 0 l.length)
 | [],_,_,_,_=>rfl
 | (u,m)::t,k,0,v,l=>rfl
 | (u,m)::t,k,i+1,v,l=>by
  simp only [List.set_cons_succ,hdr,qoX t (k+1) i v l];rw [show k+1+i=k+(i+1) by omega]
theorem qmG {rs:Rws} {i v v':Nat} {l l':List Int} (h:rs[i]?=some (v,l)):∀ id x,hget (qfg 0 (rs.set i (v',l'))) id=some x→hget ((rid i,v',.arr 1 3 (eInt.E l'))::qfg 0 rs) id=some x:=by
 refine qcF (qfC _ 0 fun j w m hm=>?_);rw [Nat.zero_add];by_cases e:i=j
 ·subst e
  have hi:=(List.getElem?_eq_some_iff.1 h).1;rw [List.getElem?_set_self hi] at hm;cases hm;exact qa6
 rw [List.getElem?_set_ne e] at hm;rw [qaD (fun x=>e (ql7 x).symm)];have:=qdn 0 hm
 rwa [Nat.zero_add] at this
theorem qog {s:AS} {G:AS→Prop} (oid ov:Nat) (e':TypeId) (H:Heap) (n:Nat) (hoid:∀ i,oid≠rid i) (hH:∀ i,hget H (rid i)=none) (ho:hget H oid=none) :
  ∀ (m:Nat) (rs:Rws),rs.length+m=n→(∀ (i v:Nat) (l:List Int),rs[i]?=some (v,l)→l=[])→(∀ id x,hget ((oid,ov,.arr 1 e' (hdr 0 rs++List.replicate m (.v (.slice none 0 0))))::(H++qfg 0 rs)) id=some x→hget s.heap id=some x) →
   (∀ rs:Rws,rs.length=n→(∀ (i v:Nat) (l:List Int),rs[i]?=some (v,l)→l=[])→G ⟨s.slots,(oid,ov,.arr 1 e' (hdr 0 rs))::(H++qfg 0 rs)⟩)→s.to G
 | 0,rs,hn,hl,hs,h=>by
  refine qaZ (s':=⟨s.slots,(oid,ov,.arr 1 e' (hdr 0 rs))::(H++qfg 0 rs)⟩) ⟨fun _ _ h=>h,fun id x hx=>hs id x ?_⟩ (h rs (by omega) hl)
  simpa using hx
 | m + 1,rs,hn,hl,hs,h=>by
  have hc:(hdr 0 rs++List.replicate (m+1) (HV.v (.slice none 0 0)))[rs.length]?=some (.v (.slice none 0 0)):=by
   rw [List.getElem?_append_right (by rw [qhU]; omega),qhU,Nat.sub_self];rfl
  refine qeE (qhM (rid rs.length) oid ov 1 rs.length 1 3 e' (hs _ _ qa6) hc (hoid _) fun ver=>?_)
  have happ:∀ (A B:Heap) (id:Nat),hget A id=none→hget (A++B) id=hget B id:=by
   intro A B id
   induction A with
   | nil=>intro _; rfl
   | cons a A ih =>
    obtain ⟨j,u,o⟩:=a;intro h;by_cases e:id=j
    ·subst e; rw [qa6] at h; cases h
    rw [qaD e] at h;rw [List.cons_append,qaD e];exact ih h
  refine qeE (qaZ (s':=⟨s.slots,(oid,ov,.arr 1 e' (hdr 0 (rs++[(ver,[])])++List.replicate m (.v (.slice none 0 0))))::(H++qfg 0 (rs++[(ver,[])]))⟩) ⟨fun _ _ h=>h,fun id x hx=>?_⟩ ?_)
  ·have ecell:(hdr 0 rs++List.replicate (m+1) (HV.v (.slice none 0 0))).set rs.length (.ar (rid rs.length) ver 1 0 0)=hdr 0 (rs++[(ver,[])])++List.replicate m (.v (.slice none 0 0)):=by
    rw [qoY,Nat.zero_add,List.set_append_right _ _ (by rw [qhU]; omega),qhU,Nat.sub_self,List.replicate_succ,List.set_cons_zero,List.append_assoc];rfl
   by_cases e1:id=oid
   ·subst e1
    rw [qa6] at hx;rw [qaD (hoid _),qa6,ecell];exact hx
   rw [qaD e1] at hx;by_cases e2:id=rid rs.length
   ·subst e2
    rw [happ _ _ _ (hH _)] at hx;have:=qdn (rs:=rs++[(ver,[])]) 0 (i:=rs.length) (v:=ver) (l:=[]) (by simp);rw [Nat.zero_add] at this;rw [this] at hx;rw [qa6];exact hx
   rw [qaD e2,qaD e1];refine hs id x ?_;rw [qaD e1]
   -- not among the new rows
   by_cases e3:∃ y,hget H id=some y
   ·obtain ⟨y,hy⟩:=e3
    have hk:∀ (A B:Heap),hget A id=some y→hget (A++B) id=some y:=by
     intro A B
     induction A with
     | nil=>intro h; cases h
     | cons a A ih =>
      obtain ⟨j,u,o⟩:=a;intro h;by_cases e:id=j
      ·subst e; rw [qa6] at h; rw [List.cons_append,qa6]; exact h
      rw [qaD e] at h;rw [List.cons_append,qaD e];exact ih h
    rw [hk _ _ hy] at hx ⊢;exact hx
   have hno:hget H id=none:=by
    cases hh:hget H id with
    | none=>rfl
    | some y=>exact absurd ⟨y,hh⟩ e3
   rw [happ _ _ _ hno] at hx ⊢;have:=qrl (rs:=rs) (v:=ver) (l:=[]) (H:=[]) (fun _=>rfl) id x hx;rw [qaD e2] at this;exact this
  refine qog oid ov e' H n hoid hH ho m (rs++[(ver,[])]) (by simp; omega) (fun i v l hi=>?_) (fun id x hx=>hx) h;by_cases hlt:i<rs.length
  ·rw [List.getElem?_append_left hlt] at hi
   exact hl i v l hi
  have hi2:=(List.getElem?_eq_some_iff.1 hi).1;simp at hi2
  have:i=rs.length:=by omega
  subst this;simp at hi
  first | exact hi.2 | exact hi.2.symm
section
variable {α:Type} {en:EncL α} {et:TypeId}
structure InvG (b np sp:Nat) (base:List (Nat × HV)) (val:Nat→Nat→HV) (H0:Heap) (H1:Nat→Heap) (v':Nat) (L:List Nat) (s:AS):Prop where
 base:∀ p∈base,sget s.slots p.1=some p.2
 val:∀ k∈L,k<np→sget s.slots (b+k)=some (val v' k)
 heap:∀ id x,hget (if sp∈L then H1 v' else H0) id=some x→hget s.heap id=some x
theorem qhd {b i:Nat} {hv:HV} {sl:List (Nat × HV)} {t:Nat} (h:t≠b+i):sget ((b+i,hv)::sl) t=sget sl t:=by simp only [sget]; rw [if_neg h]
theorem InvG.put {b np sp:Nat} {base:List (Nat × HV)} {val:Nat→Nat→HV} {H0:Heap} {H1:Nat→Heap} {v':Nat} {L:List Nat} {sl:List (Nat × HV)} {H:Heap} (h:InvG b np sp base val H0 H1 v' L ⟨sl,H⟩) (hb:∀ p∈base,p.1<b) {i:Nat} (hi:i≠sp) {hv:HV} (hval:val v' i=hv):InvG b np sp base val H0 H1 v' (i::L) ⟨(b+i,hv)::sl,H⟩ where
 base:=fun p hp=>by
  have:=hb p hp;show sget ((b+i,hv)::sl) p.1=_;rw [qhd (by omega)];exact h.base p hp
 val:=fun k hk h12=>by
  show sget ((b+i,hv)::sl) (b+k)=_;by_cases e:k=i
  ·subst e
   simp only [sget,if_true,hval]
  rw [qhd (by omega)]
  rcases List.mem_cons.1 hk with h1 | h1
  ·exact absurd h1 e
  exact h.val k h1 h12
 heap:=fun id x hx=>by
  refine h.heap id x ?_
  have:(sp∈i::L)↔sp∈L:=by
   rw [List.mem_cons];exact ⟨fun h=>h.elim (fun e=>absurd e.symm hi) (fun h=>h),.inr⟩
  by_cases h11:sp∈L
  ·rw [if_pos (this.2 h11)] at hx
   rw [if_pos h11]; exact hx
  rw [if_neg (fun h=>h11 (this.1 h))] at hx;rw [if_neg h11]; exact hx
theorem qpu {p n:Nat} {L:List Nat} (hall:∀ k,k<p↔k∈L):(List.range n).all (fun i=>L.contains i == (List.range p).contains i)=true:=by
 rw [List.all_eq_true];intro i _
 have e:L.contains i=(List.range p).contains i:=by
  rw [Bool.eq_iff_iff,List.contains_iff_mem,List.contains_iff_mem,List.mem_range];exact (hall i).symm
 rw [e];simp
end
end Go.AW
namespace Go.AW
open Go
structure InvT (b np:Nat) (base:List (Nat × HV)) (val:Nat→HV) (Hp:Heap→Prop) (L:List Nat) (s:AS):Prop where
 base:∀ p∈base,sget s.slots p.1=some p.2
 val:∀ k∈L,k<np→sget s.slots (b+k)=some (val k)
 heap:Hp s.heap
theorem InvT.put {b np:Nat} {base:List (Nat × HV)} {val:Nat→HV} {Hp:Heap→Prop} {L:List Nat} {sl:List (Nat × HV)} {H H':Heap} (h:InvT b np base val Hp L ⟨sl,H⟩) (hb:∀ p∈base,p.1<b) {i:Nat} {hv:HV} (hval:val i=hv) (hH:Hp H'):InvT b np base val Hp (i::L) ⟨(b+i,hv)::sl,H'⟩ where
 base:=fun p hp=>by
  have:=hb p hp;show sget ((b+i,hv)::sl) p.1=_;rw [qhd (by omega)];exact h.base p hp
 val:=fun k hk h12=>by
  show sget ((b+i,hv)::sl) (b+k)=_;by_cases e:k=i
  ·subst e
   simp only [sget,if_true,hval]
  rw [qhd (by omega)]
  rcases List.mem_cons.1 hk with h1 | h1
  ·exact absurd h1 e
  exact h.val k h1 h12
 heap:=hH
theorem AW.seqGr {P:Program} {ro:Option Nat} {N:Nat} {s:AS} {Q:Exit→AS→Prop} {x y:Code} (G:AS→Prop) (hx:AW P ro N x (fun e s'=>(e=.normal∧G s')∨(e=.ret∧Q .ret s')) s) (hy:∀ s',G s'→AW P ro N y Q s'):AW P ro N (.seq x y) Q s :=
 zad (hx.mono fun e s' h=>by
  rcases h with ⟨rfl,hg⟩ | ⟨rfl,hr⟩
  ·exact hy s' hg
  exact hr)
theorem AW.seqG {P:Program} {ro:Option Nat} {N:Nat} {s:AS} {Q:Exit→AS→Prop} {x y:Code} (G:AS→Prop) (hx:AW P ro N x (fun e s'=>e=.normal∧G s') s) (hy:∀ s',G s'→AW P ro N y Q s'):AW P ro N (.seq x y) Q s :=
 zad (hx.mono fun e s' h=>by
  obtain ⟨rfl,hg⟩:=h
  exact hy s' hg)
end Go.AW
namespace Go.AW
open Go
def qht:Heap→Nat
 | []=>0
 | (i,_)::H=>i+1+qht H
theorem qlt:∀ {H:Heap} {j:Nat} {x:Nat × AObj},hget H j=some x→j<qht H
 | [],_,_,h=>by cases h
 | (i,v,o)::H,j,x,h=>by
  simp only [hget] at h;show j<i+1+qht H;split at h
  ·omega
  have:=qlt h;omega
theorem qfF (H:Heap):hget H (qht H)=none:=by
 cases h:hget H (qht H) with
 | none=>rfl
 | some x=>exact absurd (qlt h) (Nat.lt_irrefl _)
theorem qfB {i v:Nat} {o:AObj} {H:Heap} (h:hget H i=none):∀ j x,hget H j=some x→hget ((i,v,o)::H) j=some x:=by
 intro j x hx;by_cases e:j=i
 ·subst e; rw [h] at hx; cases hx
 simp only [hget]; rw [if_neg e]; exact hx
theorem qkM {i v v2:Nat} {o o2:AObj} {H:Heap}:∀ j x,hget ((i,v2,o2)::H) j=some x→hget ((i,v2,o2)::(i,v,o)::H) j=some x:=by
 intro j x hx;by_cases e:j=i
 ·subst e; simp only [hget,if_true] at hx ⊢; exact hx
 simp only [hget] at hx ⊢; rw [if_neg e] at hx; rw [if_neg e,if_neg e]; exact hx
theorem qmj {i v:Nat} {o:AObj} {H:Heap}:∀ j x,hget ((i,v,o)::H) j=some x→hget (hset H i v o) j=some x:=by
 intro j x hx;rw [qap];simp only [hget] at hx;exact hx
theorem qoh {s:AS} {G:AS→Prop} (n:Nat) (D:Heap) (s':AS) (h1:leF n D s.slots s'.slots) (h2:∀ id x,hget s'.heap id=some x→hget s.heap id=some x) (h3:∀ id x,hget D id=some x→hget s.heap id=some x) (h4:∀ id x,hget D id=some x→hget s'.heap id=none) (h:G s'):s.to G:=by
 intro ro N B μ a w hs;refine ⟨μ.cut s'.heap,s',h,⟨hs.size,hs.sr.sub h2,fun t hv ht=>?_,hs.marks.evo (Evo.cut w μ s'.heap),hs.ro.evo (Evo.cut w μ s'.heap)⟩,Evo.cut w μ s'.heap⟩;obtain ⟨g,hg,rfl⟩:=qkN h1 t hv ht;exact ⟨(hs.slot t g hg).1,qfE hs.sr (fun id x hx=>⟨h3 id x hx,h4 id x hx⟩) n g _ (hs.slot t g hg).2⟩
end Go.AW
namespace Go.AW
open Go
section
variable {w:World} {μ μ':Mu}
structure Near (μ μ':Mu):Prop where
 live:∀ id ver b,μ.loc id=some (ver,b)→μ'.loc id=some (ver,b)∨μ'.dead id ver
 dead:∀ id ver,μ.dead id ver→μ'.dead id ver
 owns:∀ b,¬ μ.owns b→¬ μ'.owns b
 back:∀ id ver b,μ'.loc id=some (ver,b)→ver<μ.nx→μ.loc id=some (ver,b)
 nx:μ.nx≤μ'.nx
mutual
theorem Rep.near (N:Near μ μ'):∀ (hv:HV) (val:Value),Rep w μ hv val→Rep w μ' hv val
 | .int _ _,_,h=>h
 | .bool _,_,h=>h
 | .str _,_,h=>h
 | .v _,_,h=>h
 | .agg cs,_,⟨h1,vs,e,h⟩=>⟨h1,vs,e,RepL.near N cs vs h⟩
 | .tup cs,_,⟨vs,e,h⟩=>⟨vs,e,RepL.near N cs vs h⟩
 | .sl _ _ cs,_,⟨h1,hl,hm,h⟩=>⟨h1,hl,hm,h.imp id fun ⟨b,off,cap,vs,e,hn,ho,hs,hr⟩=>⟨b,off,cap,vs,e,hn,N.owns b ho,hs,RepL.near N cs vs hr⟩⟩
 | .ar id ver k off n,val,h=>by
  rcases h with ⟨l,hl,h⟩ | ⟨hd,h⟩
  ·rcases N.live id ver l hl with hl' | hd
   ·exact .inl ⟨l,hl',h⟩
   refine .inr ⟨hd,?_⟩
   rcases h with ⟨_,rfl,_⟩ | ⟨b,cap,cur,e,rfl,rfl,_⟩
   ·exact ⟨_,_,_,rfl⟩
   exact ⟨_,_,_,rfl⟩
  exact .inr ⟨N.dead _ _ hd,h⟩
 | .ptr id ver off,val,h=>by
  rcases h with ⟨b,hl,rfl⟩ | ⟨hd,h⟩
  ·rcases N.live id ver _ hl with hl' | hd
   ·exact .inl ⟨b,hl',rfl⟩
   exact .inr ⟨hd,_,rfl⟩
  exact .inr ⟨N.dead _ _ hd,h⟩
 | .fptr cs _,_,⟨h1,b,base,vs,e,ho,hs,hr⟩=>⟨h1,b,base,vs,e,N.owns b ho,hs,RepL.near N cs vs hr⟩
 | .fn _ fs cs,_,⟨us,vs,e,h1,h2⟩=>⟨us,vs,e,RepL.near N fs us h1,RepL.near N cs vs h2⟩
 | .mp id ver,val,h=>by
  rcases h with ⟨b,hl,rfl⟩ | ⟨hd,h⟩
  ·rcases N.live id ver _ hl with hl' | hd
   ·exact .inl ⟨b,hl',rfl⟩
   exact .inr ⟨hd,_,rfl⟩
  exact .inr ⟨N.dead _ _ hd,h⟩
 | .yl id ver,val,h=>by
  rcases h with ⟨b,hl,rfl⟩ | ⟨hd,h⟩
  ·rcases N.live id ver _ hl with hl' | hd
   ·exact .inl ⟨b,hl',rfl⟩
   exact .inr ⟨hd,_,rfl⟩
  exact .inr ⟨N.dead _ _ hd,h⟩
 | .it id ver,val,h=>by
  rcases h with ⟨b,hl,rfl⟩ | ⟨hd,h⟩
  ·rcases N.live id ver _ hl with hl' | hd
   ·exact .inl ⟨b,hl',rfl⟩
   exact .inr ⟨hd,_,rfl⟩
  exact .inr ⟨N.dead _ _ hd,h⟩
theorem RepL.near (N:Near μ μ'):∀ (cs:List HV) (vs:List Value),RepL w μ cs vs→RepL w μ' cs vs
 | [],_,h=>h
 | c::cs,_,⟨x,xs,e,h1,h2⟩=>⟨x,xs,e,Rep.near N c x h1,RepL.near N cs xs h2⟩
end
theorem OR.near (N:Near μ μ') {o:AObj} {l:Option Nat} (h:OR w μ o l):OR w μ' o l:=by
 cases l with
 | none=>cases o <;> exact h
 | some b =>
  cases o with
  | arr k e cs =>
   obtain ⟨h0,cur,vs,rest,h1,h2,h3⟩:=h;exact ⟨h0,cur,vs,rest,h1,h2,RepL.near N _ _ h3⟩
  | map es =>
   obtain ⟨ents,clock,h1,h2,h3,h4,h5⟩:=h;exact ⟨ents,clock,h1,h2,RepL.near N _ _ h3,h4,h5⟩
  | iter mid mver seen cur =>
   obtain ⟨h0,mb,since,sn,last,h1,h2⟩:=h;exact ⟨Nat.lt_of_lt_of_le h0 N.nx,mb,since,sn,last,h1,fun l hl'=>h2 l (N.back _ _ _ hl' h0)⟩
  | loop st pend f n snap ps assign body =>
   obtain ⟨tmps,dfr,h1,h2,h3⟩:=h;exact ⟨tmps,dfr,h1,h2,fun t hv ht=>⟨(h3 t hv ht).1,Rep.near N _ _ (h3 t hv ht).2⟩⟩
  | kmap es=>exact h
  | gmap es pe =>
   obtain ⟨ents,clock,h1,h2,h3,h4⟩:=h;exact ⟨ents,clock,h1,h2,RepL.near N _ _ h3,h4⟩
end
section
variable {P:Program} {ro:Option Nat} {N:Nat}
theorem AOp.yieldH {o:Oper} {K:AS→Prop} {c:Call} {g:Operand} {id ver:Nat} {hs:List HV} {sl:List (Nat × HV)} {H:Heap} {t iO v k n:Nat} {e:TypeId} {cs:List HV} (hop:o.op=.call c) (hc:c.callee=.value g) (hN:okd N o.dst=true)
  (hg:(⟨sl,(iO,v,.arr k e cs)::H⟩:AS).ev g=some (.yl id ver)) (ha:c.args.toList.mapM (⟨sl,(iO,v,.arr k e cs)::H⟩:AS).ev=some hs) (ht:sget sl t=some (.ar iO v k 0 n)) (hf:hget H iO=none)
  (h:YCall P id ver hs H fun r H'=>∀ iN v2,hget H' iN=none→K (({ slots:=sset sl t (.ar iN v2 k 0 n),heap:=(iN,v2,.arr k e cs)::H' }:AS).put o.dst r)):AOp P ro N o K ⟨sl,(iO,v,.arr k e cs)::H⟩:=by
 intro w0 μ0 μ a w next Q hsr hE hK
 refine ⟨fun f _=>trivial,?_⟩;rw [Oper.semAt_eq _ _ _ (fun c e=>by rw [hop] at e; cases e)];obtain ⟨f,n',snap,ps,assign,body,hgl,hps,hpn,hround⟩:=h;have hlt:∀ {j x},hget H j=some x→hget ((iO,v,.arr k e cs)::H) j=some x:=fun {j x} hx=>qfB hf j x hx;obtain ⟨l1,hl1,hor1⟩:=hsr.sr.has iO v _ qa6
 -- the one that owns less
 let μc:Mu:={ nx:=μ.nx,loc:=fun i=>if i=iO then none else μ.loc i,held:=fun b=>μ.held b∨l1=some b }
 have hcl:∀ {i x},μc.loc i=some x→i≠iO∧μ.loc i=some x:=fun {i x} hx=>by
  simp only [μc] at hx;split at hx
  ·cases hx
  exact ⟨by assumption,hx⟩
 have hcl':∀ {i x},i≠iO→μ.loc i=some x→μc.loc i=some x:=fun {i x} hi hx=>by
  simp only [μc];rw [if_neg hi];exact hx
 have hco:∀ b,μc.owned b→μ.owned b:=fun b ⟨i,u,hx⟩=>⟨i,u,(hcl hx).2⟩
 have hcw:∀ b,μc.owns b→μ.owns b:=fun b hb=>by
  rcases hb with hb | hb | hb
  ·exact .inl (hco b hb)
  ·exact .inr hb
  exact .inl ⟨iO,v,by rw [hl1,hb]⟩
 have hnear:Near μ μc:=by
  refine ⟨fun i u b hx=>?_,fun i u ⟨h1,h2⟩=>⟨h1,fun b hx=>h2 b (hcl hx).2⟩,fun b hb hx=>hb (hcw b hx),fun i u b hx _=>(hcl hx).2,Nat.le_refl _⟩;by_cases ei:i=iO
  ·refine .inr ⟨hsr.sr.ok i u b hx,fun b' hx'=>(hcl hx').1 ei⟩
  exact .inl (hcl' ei hx)
 have hsc:SR w μc H:=by
  refine ⟨fun i u b hx=>hsr.sr.ok i u b (hcl hx).2,fun i u o ho=>?_,fun i x hx=>?_,fun i j u u' b h1 h2=>hsr.sr.inj i j u u' b (hcl h1).2 (hcl h2).2,fun b hb=>?_⟩
  ·obtain ⟨l,hl,hor⟩:=hsr.sr.has i u o (hlt ho)
   have ei:i≠iO:=fun ei=>by subst ei; rw [hf] at ho; cases ho
   exact ⟨l,hcl' ei hl,OR.near hnear hor⟩
  ·obtain ⟨ei,hx⟩:=hcl hx
   obtain ⟨y,hy⟩:=hsr.sr.only i x hx;rw [qaD ei] at hy;exact ⟨y,hy⟩
  rcases hb with hb | hb
  ·exact ⟨(hsr.sr.held b hb).1,fun ho=>(hsr.sr.held b hb).2 (hco b ho)⟩
  subst hb;refine ⟨hsr.sr.blk hl1,fun ⟨i,u,hx⟩=>?_⟩;obtain ⟨ei,hx⟩:=hcl hx;exact ei (hsr.sr.inj i iO u v b hx hl1)
 have hvs0:=qhR hsr ha;have hvs:RepL w μc hs (c.args.toList.map a.eval):=RepL.near hnear _ _ hvs0;obtain ⟨l0,hl0,hor0⟩:=hsc.has id ver _ hgl
 have hlive:∃ l,μc.loc id=some (ver,some l)∧a.eval g=.func (.yield l) #[] #[]:=by
  rcases Rep.near hnear _ _ (hsr.ev hg) with ⟨b,hb,hv⟩ | ⟨hd,_⟩
  ·exact ⟨b,hb,hv⟩
  exact absurd hl0 (hd.2 l0)
 obtain ⟨l,hl,hv⟩:=hlive;rw [hl] at hl0;cases hl0;obtain ⟨tmps,dfr,hb,hz,hsn⟩:=hor0;have hvl:=hvs.length
 have hrun:(execOp a.eval o).run P w=.ok (.round l f ((ps.zip (c.args.map a.eval)).foldl (fun tmps (x:Tmp × Value)=>tmps.setIfInBounds x.1 x.2) tmps) assign body) w:=by
  have hlen:c.args.size=ps.size:=by
   have h1:hs.length=(c.args.toList.map a.eval).length:=hvl.symm;simp only [List.length_map,Array.length_toList] at h1;omega
  simp [execOp,hop,resolve,hc,hv,Deferred.ofValue,invoke,Instr.yield,qbY hb,hlen,Result.andThen]
 rw [hrun];refine ⟨fun hd=>absurd (qfH ro hd) (by omega),?_⟩;obtain ⟨hsz,hslot⟩:=qi5 ps.toList hs (c.args.toList.map a.eval) snap tmps n' (by simpa using hps) hpn hz hvs hsn
 have htm:(ps.zip (c.args.map a.eval)).foldl (fun tmps (x:Tmp × Value)=>tmps.setIfInBounds x.1 x.2) tmps=(ps.toList.zip (c.args.toList.map a.eval)).foldl (fun tmps (x:Tmp × Value)=>tmps.setIfInBounds x.1 x.2) tmps:=by
  rw [← Array.foldl_toList];simp
 rw [htm];have hroc:RoOk ro w μc:=GlOk.less hsr.ro fun b hb=>hco b hb
 have hs0:SRel (some l) n' w.heap.size μc { slots:=qi6 snap ps.toList hs,heap:=H } { tmps:=(ps.toList.zip (c.args.toList.map a.eval)).foldl (fun tmps (x:Tmp × Value)=>tmps.setIfInBounds x.1 x.2) tmps,defers:=[] } w :=
  ⟨hsz,hsc,hslot,Marks.nil _ _ _,hroc⟩
 -- what follows when the round is over
 have fin:∀ (w4:World) (μ3:Mu) (H3:Heap) (r:HV) (rv:Value),SR w4 μ3 H3→Evo w μc w4 μ3→(∀ μ,Rep w4 μ r rv)→(∀ iN v2,hget H3 iN=none→K (({ slots:=sset sl t (.ar iN v2 k 0 n),heap:=(iN,v2,.arr k e cs)::H3 }:AS).put o.dst r))→next (a.put o.dst rv) w4:=by
  intro w4 μ3 H3 r rv hs3 E hr hq;have hfr:=qfF H3;generalize qht H3=iN at hfr
  have hN3:μ3.loc iN=none:=by
   cases hx:μ3.loc iN with
   | none=>rfl
   | some x =>
    obtain ⟨y,hy⟩:=hs3.only iN x hx;rw [hfr] at hy;cases hy
  let μ2:Mu:={ nx:=μ3.nx+1,loc:=fun i=>if i=iN then some (μ3.nx,l1) else μ3.loc i,held:=μ.held };have h2N:μ2.loc iN=some (μ3.nx,l1):=if_pos rfl;have h2o:∀ {i},i≠iN→μ2.loc i=μ3.loc i:=fun {i} hi=>if_neg hi
  have hheld:∀ b,μ3.held b↔μ.held b∨l1=some b:=fun b=>by
   have:=E.held;rw [this]
  have hown2:∀ b,μ2.owned b→μ3.owned b∨l1=some b:=fun b ⟨i,u,hx⟩=>by
   by_cases ei:i=iN
   ·subst ei; rw [h2N] at hx; cases hx; exact .inr rfl
   rw [h2o ei] at hx; exact .inl ⟨i,u,hx⟩
  have hown3:∀ b,μ3.owned b→μ2.owned b:=fun b ⟨i,u,hx⟩=>by
   have ei:i≠iN:=fun ei=>by subst ei; rw [hN3] at hx; cases hx
   exact ⟨i,u,by rw [h2o ei]; exact hx⟩
  have hmu3:∀ b,l1=some b→¬ μ3.owned b:=fun b hb ho=>(hs3.held b ((hheld b).2 (.inr hb))).2 ho
  have hnear2:Near μ3 μ2:=by
   refine ⟨fun i u b hx=>.inl ?_,fun i u ⟨h1,h2⟩=>⟨Nat.lt_succ_of_lt h1,fun b hx=>?_⟩,fun b hb hx=>hb ?_,fun i u b hx hlt'=>?_,Nat.le_succ _⟩
   ·have ei:i≠iN:=fun ei=>by subst ei; rw [hN3] at hx; cases hx
    rw [h2o ei]; exact hx
   ·by_cases ei:i=iN
    ·subst ei; rw [h2N] at hx; cases hx; omega
    rw [h2o ei] at hx; exact h2 b hx
   ·rcases hx with hx | hx
    ·rcases hown2 b hx with h | h
     ·exact .inl h
     exact .inr ((hheld b).2 (.inr h))
    exact .inr ((hheld b).2 (.inl hx))
   by_cases ei:i=iN
   ·subst ei; rw [h2N] at hx; cases hx; omega
   rw [h2o ei] at hx; exact hx
  have hnx:μ.nx≤μ3.nx:=E.nx
  have E2:Evo w μ w4 μ2:=by
   refine ⟨E.os,E.tape,E.output,E.size,Nat.le_succ_of_le hnx,fun b hb ho=>E.keep b hb fun hc=>ho (hco b hc),fun i u b hx hlt'=>?_,fun i u b hx hlt' cur e' hr'=>?_,fun i u b hx hb=>?_,rfl⟩
   ·by_cases ei:i=iN
    ·subst ei; rw [h2N] at hx; cases hx; omega
    rw [h2o ei] at hx; exact (hcl (E.loc i u b hx hlt')).2
   ·by_cases ei:i=iN
    ·subst ei; rw [h2N] at hx; cases hx; omega
    rw [h2o ei] at hx; exact E.row i u b hx hlt' cur e' hr'
   by_cases ei:i=iN
   ·subst ei; rw [h2N] at hx; cases hx; exact ⟨iO,v,hl1⟩
   rw [h2o ei] at hx; exact hco b (E.own i u b hx hb)
  have hor4:OR w4 μ2 (.arr k e cs) l1:=by
   cases l1 with
   | none=>exact hor1
   | some b1 =>
    obtain ⟨h0,cur,vs,rest,⟨lo,hi,h1,h1'⟩,h2,h3⟩:=hor1;have hb1:=hsr.sr.blk hl1
    have hk:=E.keep b1 hb1 fun ⟨i,u,hx⟩=>by
     obtain ⟨ei,hx⟩:=hcl hx;exact ei (hsr.sr.inj i iO u v b1 hx hl1)
    exact ⟨h0,cur,vs,rest,⟨lo,hi,hk.trans h1,h1'⟩,h2,RepL.evo E2 hsr.sr.ok _ _ h3⟩
  have hs2:SR w4 μ2 ((iN,μ3.nx,.arr k e cs)::H3):=by
   refine ⟨fun i u b hx=>?_,fun i u o ho=>?_,fun i x hx=>?_,fun i j u u' b h1 h2=>?_,fun b hb=>?_⟩
   ·by_cases ei:i=iN
    ·subst ei; rw [h2N] at hx; cases hx; exact Nat.lt_succ_self _
    rw [h2o ei] at hx; exact Nat.lt_succ_of_lt (hs3.ok i u b hx)
   ·by_cases ei:i=iN
    ·subst ei; rw [qa6] at ho; cases ho; exact ⟨l1,h2N,hor4⟩
    rw [qaD ei] at ho;obtain ⟨l',hl',hor'⟩:=hs3.has i u o ho;exact ⟨l',by rw [h2o ei]; exact hl',OR.near hnear2 hor'⟩
   ·by_cases ei:i=iN
    ·subst ei; exact ⟨_,qa6⟩
    rw [h2o ei] at hx;obtain ⟨y,hy⟩:=hs3.only i x hx;exact ⟨y,by rw [qaD ei]; exact hy⟩
   ·by_cases ei:i=iN
    ·subst ei
     rw [h2N] at h1;cases h1;by_cases ej:j=i
     ·exact ej.symm
     rw [h2o ej] at h2;exact absurd ⟨j,u',h2⟩ (hmu3 b rfl)
    rw [h2o ei] at h1;by_cases ej:j=iN
    ·subst ej
     rw [h2N] at h2;cases h2;exact absurd ⟨i,u,h1⟩ (hmu3 b rfl)
    rw [h2o ej] at h2;exact hs3.inj i j u u' b h1 h2
   obtain ⟨hb1,hb2⟩:=hs3.held b ((hheld b).2 (.inl hb));refine ⟨hb1,fun ho=>?_⟩
   rcases hown2 b ho with h | h
   ·exact hb2 h
   exact (hsr.sr.held b hb).2 ⟨iO,v,by rw [hl1,h]⟩
  have hsr2:SRel ro N w0.heap.size μ2 ⟨sset sl t (.ar iN μ3.nx k 0 n),(iN,μ3.nx,.arr k e cs)::H3⟩ a w4:=by
   refine ⟨hsr.size,hs2,fun t' hv' ht'=>?_,hsr.marks.evo E2,hsr.ro.evo E2⟩;simp only [qdk] at ht';split at ht'
   ·rename_i e'
    subst e';cases ht';obtain ⟨hlt',hrep⟩:=hsr.slot _ _ ht;refine ⟨hlt',?_⟩
    rcases hrep with ⟨l',hl',hrep⟩ | ⟨hd,_⟩
    ·rw [hl1] at hl'
     cases hl';refine .inl ⟨l1,h2N,?_⟩
     rcases hrep with hrep | ⟨b,cap,cur,e',hb',hv',hn',hc',⟨lo,hi,h1,h1'⟩,hsz'⟩
     ·exact .inl hrep
     subst hb';have hb1:=hsr.sr.blk hl1
     have hk:=E.keep b hb1 fun ⟨i,u,hx⟩=>by
      obtain ⟨ei,hx⟩:=hcl hx;exact ei (hsr.sr.inj i iO u v b hx hl1)
     exact .inr ⟨b,cap,cur,e',rfl,hv',hn',hc',⟨lo,hi,hk.trans h1,h1'⟩,hsz'⟩
    exact absurd hl1 (hd.2 _)
   obtain ⟨hlt',hrep⟩:=hsr.slot t' hv' ht';exact ⟨hlt',Rep.evo E2 hsr.sr.ok _ _ hrep⟩
  exact hK μ2 _ _ _ (hq iN μ3.nx hfr) (hsr2.put (Evo.refl w4 μ2) hs2 hN (hr μ2)) (hE.trans E2)
 refine RoundIn.mono (R:=fun e w2=>match e with
  | .returned v=>next (a.put o.dst v) w2
  | _=>False) (roundIn_of_wpIn (F:=qet ro) trivial ?_) ?_
 ·refine wpIn_mono (hround l w μc μc _ w hs0 (Evo.refl w μc)) ?_
  rintro e1 a1 w1 ⟨_,_,μ1,s1,⟨rfl,hg1,hbody⟩,hs1,E1⟩
  have hl1':μ1.loc id=some (ver,some l):=by
   obtain ⟨l1,hl1,_⟩:=hs1.sr.has id ver _ hg1;have:=E1.loc id ver l1 hl1 (hsc.ok _ _ _ hl);rw [hl] at this;cases this;exact hl1
  obtain ⟨t1,d1,hb1,hz1,hsn1,hsr2,E2⟩:=hs1.sr.updLoop (st':=.busy) (pend':=none) hg1 hl1';refine ⟨_,by simp [Instr.beginRound,qbY hb1,qcB hb1,Result.andThen]; rfl,?_⟩;have hs2:=hs1.heap E2 hsr2;refine wpIn_mono (hbody w μc μ1 a1 _ hs2 (E1.trans E2)) ?_
  rintro e3 a3 w3 ⟨_,_,μ3,s3,⟨hg3,hq3⟩,hs3,E3⟩
  have hl3:μ3.loc id=some (ver,some l):=by
   obtain ⟨l3,hl3,_⟩:=hs3.sr.has id ver _ hg3;have:=E3.loc id ver l3 hl3 (hsc.ok _ _ _ hl);rw [hl] at this;cases this;exact hl3
  cases e3 with
  | normal =>
   obtain ⟨t4,d4,hb4,hz4,hsn4,hsr4,E4⟩:=hs3.sr.updLoop (st':=.ready) (pend':=none) hg3 hl3;refine ⟨.bool true,_,by simp [Instr.endRound,qbY hb4,qcB hb4,Result.andThen]; rfl,?_⟩;exact fin _ _ _ (.bool true) (.bool true) hsr4 (E3.trans E4) (fun _=>rfl) hq3
  | ret =>
   obtain ⟨t4,d4,hb4,hz4,hsn4,hsr4,E4⟩:=hs3.sr.updLoop (st':=.done) (pend':=some .ret) hg3 hl3;refine ⟨.bool false,_,by simp [Instr.endRound,qbY hb4,qcB hb4,Result.andThen]; rfl,?_⟩;exact fin _ _ _ (.bool false) (.bool false) hsr4 (E3.trans E4) (fun _=>rfl) hq3
  | exit i =>
   obtain ⟨t4,d4,hb4,hz4,hsn4,hsr4,E4⟩:=hs3.sr.updLoop (st':=.done) (pend':=some (.exit i)) hg3 hl3;refine ⟨.bool false,_,by simp [Instr.endRound,qbY hb4,qcB hb4,Result.andThen]; rfl,?_⟩;exact fin _ _ _ (.bool false) (.bool false) hsr4 (E3.trans E4) (fun _=>rfl) hq3
  | goto l=>exact hq3.elim
  | panic ch=>exact hq3.elim
  | outgrown=>exact hq3.elim
 intro e w2 he
 cases e with
 | returned v=>exact he
 | _=>exact he.elim
end
end Go.AW
namespace Go.AW
open Go
theorem qqv {P:Program} {ro:Option Nat} {N:Nat} {o:Oper} {all:Array Oper} {rest:List Oper} {K:AS→Prop} {d:Nat} {aa:Array Operand} {ts:Array TypeId} {f:Operand} {id ver:Nat} {hs:List HV} {sl:List (Nat × HV)} {H:Heap} {t iO v k n:Nat} {e:TypeId} {cs:List HV}
  (h0:(o.guard,o.dst,o.op)=(none,some d,.call ⟨.value f,aa,ts⟩)) (hf:(⟨sl,(iO,v,.arr k e cs)::H⟩:AS).ev f=some (.yl id ver)) (ha:aa.toList.mapM (⟨sl,(iO,v,.arr k e cs)::H⟩:AS).ev=some hs) (ht:sget sl t=some (.ar iO v k 0 n)) (hO:hget H iO=none)
  (h:YCall P id ver hs H fun r H'=>∀ iN v2,hget H' iN=none→bops P ro N all rest K ⟨(d,r)::sset sl t (.ar iN v2 k 0 n),(iN,v2,.arr k e cs)::H'⟩):bops P ro N all (o::rest) K ⟨sl,(iO,v,.arr k e cs)::H⟩:=by
 obtain ⟨e1,h0⟩:=Prod.mk.inj h0;obtain ⟨e2,e3⟩:=Prod.mk.inj h0;refine qgq e1 fun hN=>AOp.yieldH (t:=t) (n:=n) e3 rfl hN hf ha ht hO (h.mono fun r H' hk iN v2 hi=>?_);rw [e2];exact qaG (qcd (s:=⟨sset sl t (.ar iN v2 k 0 n),(iN,v2,.arr k e cs)::H'⟩) d r) (hk iN v2 hi)
end Go.AW
namespace Go.AW
open Go Go.Proofs
abbrev oTx (l:List (List UInt8)):AObj:=.arr 1 9 (eStr.E l)
set_option maxHeartbeats 8000000 in
set_option maxRecDepth 100000 in
theorem qiy {all:List (List UInt8)} {p0:qaa} {ms L:List (List UInt8)} (h:qco all p0 ms=some L):qnt Tryz.prog 72 [] [HV.fptr [slE eStr all] 0,HV.fptr [HV.int .i64 p0.1,HV.int .i64 p0.2.1,slE eFromLabelTo p0.2.2] 0,HV.fptr [slE eStr ms] 0] (L.map fun x=>[HV.str x]):=by
 unfold qco at h;split at h
 case isFalse=>cases h
 rename_i hal
 intro id ver H J Stop K hmn h0 hstep hdone hstop;refine ACall.of_body Tryz.func72 rfl rfl (Nat.le_of_ble_eq_true rfl) ?_;unfold Tryz.f72;dsimp only [qaL,Nat.reduceAdd];generalize hFA:HV.fptr [slE eStr all] 0=FA;generalize hFM:HV.fptr [slE eStr ms] 0=FM;generalize hFG:HV.fptr [HV.int .i64 p0.1,HV.int .i64 p0.2.1,slE eFromLabelTo p0.2.2] 0=FG;refine zaa rfl fun K1 hK=>?_;refine mv rfl rfl ?_;refine qab (hK _ (AW.to (qaZ (s':=⟨[(0,.yl id ver),(1,FA),(2,FG),(3,FM),(5,HV.v (.slice none 0 0))],H⟩) (qcY ⟨rfl,rfl,rfl,rfl,rfl,trivial⟩) ?_)));clear hK K1;refine zaa rfl fun K1 hK=>?_;refine bv rfl (qad ty22 (by rw [← hFA]; rfl) (qaj rfl rfl)) ?_;refine bv rfl (qav rfl rfl ty22 rfl) ?_;refine mv rfl rfl ?_;refine qab (hK _ (AW.to (qaZ (s':=⟨[(0,.yl id ver),(1,FA),(2,FG),(3,FM),(5,HV.v (.slice none 0 0)),(8,slE eStr all),(9,.int .i64 (all.length:Int)),(10,.int .i64 0)],H⟩) (qcY ⟨rfl,rfl,rfl,rfl,rfl,rfl,rfl,rfl,trivial⟩) ?_)));clear hK K1;have hiO:=qfF H;generalize qht H=iO0 at hiO;refine AW.to (qha iO0 5 1 9 rfl fun v0=>?_);refine zaf ?_
 refine AW.loopS (fun p:Nat × List (List UInt8) × Nat × Nat × Heap=>⟨[(0,.yl id ver),(1,FA),(2,FG),(3,FM),(5,.ar p.2.2.1 p.2.2.2.1 1 0 p.2.1.length),(8,slE eStr all),(9,.int .i64 (all.length:Int)),(10,.int .i64 (p.1:Int))],(p.2.2.1,p.2.2.2.1,oTx p.2.1)::p.2.2.2.2⟩)
  (fun p=>p.1≤all.length∧tkW (qnX p0 ms) (all.drop p.1) p.2.1=some L∧hget p.2.2.2.2 p.2.2.1=none∧J p.2.1.length p.2.2.2.2∧p.2.1.length≤p.1) (fun p=>all.length - p.1) (0,[],iO0,v0,H) ⟨qaP ⟨rfl,rfl,rfl,rfl,rfl,rfl,rfl,rfl,trivial⟩,qmj⟩ ⟨Nat.zero_le _,h,hiO,h0,Nat.le_refl _⟩ ?_
 clear h0 hiO iO0 v0 h H
 rintro ⟨i,out,iO,v,H⟩ ⟨hi,h,hiO,hj,hlo⟩
 dsimp only at hi h hiO hj hlo ⊢
 have hnxt:IntKind.wrap .i64 ((i:Int)+1)=((i+1:Nat):Int):=by rw [w64 (by omega) (by omega)]; omega
 refine zaa rfl fun K1 hK=>?_;refine bv rfl (qag rfl rfl qaF) ?_;refine qab (hK _ (AW.to (qaZ (s':=⟨[(0,.yl id ver),(1,FA),(2,FG),(3,FM),(5,.ar iO v 1 0 out.length),(8,slE eStr all),(9,.int .i64 (all.length:Int)),(10,.int .i64 (i:Int)),(11,.bool (decide ((i:Int)<(all.length:Int))))],(iO,v,oTx out)::H⟩) (qcY ⟨rfl,rfl,rfl,rfl,rfl,rfl,rfl,rfl,rfl,trivial⟩) ?_)));clear hK K1;refine zak rfl (fun hc=>?_) (fun hc=>?_)
 ·have hc:=of_decide_eq_true hc
  have hil:i<all.length:=by omega
  have hix:idx all (i:Int)=some all[i]:=by rw [qgh,List.getElem?_eq_getElem hil]
  rw [List.drop_eq_getElem_cons hil] at h;generalize all[i]=w at hix h;simp only [tkW] at h;obtain ⟨b,hb,h⟩:=Option.bind_eq_some_iff.1 h;refine zac ?_;refine AW.seqGr (fun s'=>∃ (out':List (List UInt8)) (iN vN:Nat) (H2:Heap),tkW (qnX p0 ms) (all.drop (i+1)) out'=some L∧hget H2 iN=none∧J out'.length H2∧out'.length≤i+1∧AS.le s' ⟨[(0,.yl id ver),(1,FA),(2,FG),(3,FM),(5,.ar iN vN 1 0 out'.length),(8,slE eStr all),(9,.int .i64 (all.length:Int)),(10,.int .i64 (i:Int))],(iN,vN,oTx out')::H2⟩) ?_ ?_
  ·refine zaf ?_
   refine zaa rfl fun K1 hK=>?_;refine bv rfl (qaI ty22 es22 rfl rfl (qay hix)) ?_;refine bv rfl (qad ty9 rfl (qaW eStr hix (o:=0) rfl rfl)) ?_;obtain ⟨f7,hf7⟩:=qm5 ((iO,v,oTx out)::H) 7;refine b_op rfl (qaC (fid:=f7) (zs:=[HV.str []]) (f7*1000+7) rfl rfl ty9 rfl (fun v7=>?_));refine b_op rfl (qax (cs:=[HV.str w]) (zs:=[HV.str w]) rfl rfl rfl ty9 rfl qa6 rfl rfl rfl ?_);generalize f7*1000+7=i7 at hf7;refine qab (hK _ (AW.to (qaZ (s':=⟨[(0,.yl id ver),(1,FA),(2,FG),(3,FM),(5,.ar iO v 1 0 out.length),(7,.ptr i7 v7 0),(8,slE eStr all),(9,.int .i64 (all.length:Int)),(10,.int .i64 (i:Int))],(i7,v7,.arr 1 9 [HV.str w])::(iO,v,oTx out)::H⟩) ⟨qaP ⟨rfl,rfl,rfl,rfl,rfl,rfl,rfl,rfl,rfl,trivial⟩,qkM⟩ ?_)));clear hK K1;have hdrop:=qfB (v:=v7) (o:=.arr 1 9 [HV.str w]) hf7;have hgO:hget ((i7,v7,.arr 1 9 [HV.str w])::(iO,v,oTx out)::H) iO=some (v,oTx out):=hdrop _ _ qa6
   have hne7:i7≠iO:=fun e=>by subst e; rw [qa6] at hf7; cases hf7
   obtain ⟨jw,hjw,hb⟩:=Option.bind_eq_some_iff.1 hb;refine zad ?_;refine zaa rfl fun K1 hK=>?_
   have fin:K1 ⟨[(0,.yl id ver),(1,FA),(2,FG),(3,FM),(5,.ar iO v 1 0 out.length),(7,.ptr i7 v7 0),(8,slE eStr all),(9,.int .i64 (all.length:Int)),(10,.int .i64 (i:Int)),(24,.bool b)],(i7,v7,.arr 1 9 [HV.str w])::(iO,v,oTx out)::H⟩:=by
    refine hK _ ?_;clear hK K1;refine zae rfl (fun hc=>?_) (fun hc=>?_)
    ·subst hc
     rw [if_pos rfl] at h;refine AW.exit ?_;exact .inl ⟨rfl,out,iO,v,H,h,hiO,hj,by omega,qaP ⟨rfl,rfl,rfl,rfl,rfl,rfl,rfl,rfl,trivial⟩,hdrop⟩
    subst hc;rw [if_neg (by decide)] at h;obtain ⟨l2,hl2⟩:=ql2 h;refine zac ?_;refine zaa rfl fun K1 hK=>?_;refine mv rfl rfl ?_;refine bv rfl (qaf ty9 rfl qa6 (qaj rfl rfl)) ?_;refine b_op rfl (qdx rfl rfl (qdp (cs:=[HV.str w]) ty22 ty9 rfl rfl rfl rfl rfl) ?_);refine b_op rfl (qeF eStr (l:=out) (m:=[w]) rfl rfl ty22 ty22 ty9 rfl hgO rfl rfl rfl ⟨by simp; omega,by simp only [maxLen,List.length_singleton]; omega⟩ (fun v2=>?_));refine mv rfl rfl ?_;refine qab (hK _ (AW.to (qaZ (s':=⟨[(0,.yl id ver),(1,FA),(2,FG),(3,FM),(5,.ar iO v2 1 0 (out++[w]).length),(7,.ptr i7 v7 0),(8,slE eStr all),(9,.int .i64 (all.length:Int)),(10,.int .i64 (i:Int))],(i7,v7,.arr 1 9 [HV.str w])::(iO,v2,oTx (out++[w]))::H⟩) ⟨qaP ⟨rfl,rfl,rfl,rfl,rfl,rfl,rfl,rfl,rfl,trivial⟩,fun j x hx=>?_⟩ ?_)))
    ·by_cases e7:j=i7
     ·subst e7
      rw [qa6] at hx;rw [qaD hne7,qa6];exact hx
     rw [qaD e7] at hx;by_cases eO:j=iO
     ·subst eO
      rw [qa6] at hx ⊢;exact hx
     rw [qaD eO] at hx;rw [qaD eO,qaD e7,qaD eO];exact hx
    clear hK K1
    have hf7':hget ((iO,v2,oTx (out++[w]))::H) i7=none:=by
     rw [qaD hne7] at hf7 ⊢;exact hf7
    refine zaa rfl fun K1 hK=>?_;refine mv rfl rfl ?_;refine bv rfl (qaf ty9 rfl qa6 (qaj rfl rfl)) ?_;refine qaG (s':=⟨[(0,.yl id ver),(1,FA),(2,FG),(3,FM),(5,.ar iO v2 1 0 (out++[w]).length),(8,slE eStr all),(9,.int .i64 (all.length:Int)),(10,.int .i64 (i:Int)),(29,.yl id ver),(30,.str w)],(iO,v2,oTx (out++[w]))::H⟩) ⟨qaP ⟨rfl,rfl,rfl,rfl,rfl,rfl,rfl,rfl,rfl,rfl,trivial⟩,qfB hf7'⟩ ?_;refine qqv (t:=5) (n:=(out++[w]).length) (hs:=[HV.str w]) rfl rfl rfl rfl hiO ?_;refine (hstep out.length [HV.str w] H ?_ hj).mono ?_
    ·rw [List.getElem?_map,hl2,List.append_assoc,List.getElem?_append_right (Nat.le_refl _),Nat.sub_self]
     rfl
    rintro r H2 ⟨bb,rfl,h3,h4⟩ iN v3 hiN
    refine bv rfl (qdX rfl) ?_;refine qab (hK _ (AW.to (qaZ (s':=⟨[(0,.yl id ver),(1,FA),(2,FG),(3,FM),(5,.ar iN v3 1 0 (out++[w]).length),(8,slE eStr all),(9,.int .i64 (all.length:Int)),(10,.int .i64 (i:Int)),(32,.bool (!bb))],(iN,v3,oTx (out++[w]))::H2⟩) ⟨qaP ⟨rfl,rfl,rfl,rfl,rfl,rfl,rfl,rfl,rfl,trivial⟩,fun _ _ h=>h⟩ ?_)));clear hK K1;refine zae rfl (fun hc=>?_) (fun hc=>?_)
    ·have hbb:bb=false:=by simpa using hc
     refine AW.to (qaZ (s':=⟨[],H2⟩) ⟨(fun _ _ h=>by cases h),qfB hiN⟩ ?_);refine AW.ret (.inr ⟨rfl,?_⟩);refine And.intro (.inr rfl) ?_;simp only [go_sem,reduceIte,Nat.reduceEqDiff];exact ⟨_,_,Conv.refl _ _,hstop _ (h4 hbb)⟩
    have hbb:bb=true:=by simpa using hc
    refine zac (.inl ⟨rfl,out++[w],iN,v3,H2,h,hiN,?_,by rw [List.length_append,List.length_singleton]; omega,qaP ⟨rfl,rfl,rfl,rfl,rfl,rfl,rfl,rfl,trivial⟩,fun _ _ h=>h⟩);rw [List.length_append];exact h3 hbb
   refine bv rfl (qad ty27 (by rw [← hFG]; rfl) (qao rfl (Nat.le_of_ble_eq_true rfl) rfl)) ?_;refine bv rfl (qad ty22 (by rw [← hFM]; rfl) (qaj rfl rfl)) ?_;refine bv rfl (qaf ty9 rfl qa6 (qaj rfl rfl)) ?_;refine bv rfl (qaf ty9 rfl qa6 (qaj rfl rfl)) ?_;refine b_op rfl (qat rfl rfl rfl rfl (zai (qdM hjw)) ?_);refine bv rfl (qdX rfl) ?_;refine mv rfl rfl ?_;by_cases hj1:jw=true
   ·subst hj1
    rw [if_neg (by decide)] at hb;refine b_T rfl rfl rfl rfl rfl (qai rfl (qaE rfl rfl).2 ?_);refine b_T rfl rfl rfl rfl rfl (qai rfl (qeT rfl rfl) ?_)
    have hfr:[HV.ar iO v 1 0 out.length,HV.fn (.func 73) [] [FG,FM,.ptr i7 v7 0]].map (frz 2 ((i7,v7,.arr 1 9 [HV.str w])::(iO,v,oTx out)::H))=[slE eStr out,HV.fn (.func 73) [] [FG,FM,HV.fptr [HV.str w] 0]]:=by
     have e1:=qci eStr (l:=out) hgO fun _ _=>rfl
     have e2:frz 1 ((i7,v7,.arr 1 9 [HV.str w])::(iO,v,oTx out)::H) (.ptr i7 v7 0)=HV.fptr [HV.str w] 0:=by
      simp only [frz,qa6,if_true,List.map_cons,List.map_nil]
     simp only [List.map_cons,List.map_nil];rw [show frz 2 ((i7,v7,.arr 1 9 [HV.str w])::(iO,v,oTx out)::H) (.ar iO v 1 0 out.length)=slE eStr out from e1];rw [show frz 2 ((i7,v7,.arr 1 9 [HV.str w])::(iO,v,oTx out)::H) (HV.fn (.func 73) [] [FG,FM,.ptr i7 v7 0])=HV.fn (.func 73) [] [frz 1 ((i7,v7,.arr 1 9 [HV.str w])::(iO,v,oTx out)::H) FG,frz 1 ((i7,v7,.arr 1 9 [HV.str w])::(iO,v,oTx out)::H) FM,frz 1 ((i7,v7,.arr 1 9 [HV.str w])::(iO,v,oTx out)::H) (.ptr i7 v7 0)] from rfl,e2];rw [← hFG,← hFM];rfl
    have hcf:=qaO (g1:=73) (z1:=[FG,FM,HV.fptr [HV.str w] 0]) hb (fun a0 b0 h0=>by rw [← hFG,← hFM]; exact qgU h0);refine b_T rfl rfl rfl rfl rfl (qat rfl rfl rfl rfl (Fresh.callD 2 (hcf.fresh trivial rfl) hfr) ?_);refine bv rfl (qau rfl rfl rfl) ?_;refine qaG (s':=⟨[(0,.yl id ver),(1,FA),(2,FG),(3,FM),(5,.ar iO v 1 0 out.length),(7,.ptr i7 v7 0),(8,slE eStr all),(9,.int .i64 (all.length:Int)),(10,.int .i64 (i:Int)),(24,.bool b)],(i7,v7,.arr 1 9 [HV.str w])::(iO,v,oTx out)::H⟩) ⟨qaP ⟨rfl,rfl,rfl,rfl,rfl,rfl,rfl,rfl,rfl,rfl,trivial⟩,fun _ _ h=>h⟩ ?_;exact qab fin
   obtain rfl:jw=false:=by simpa using hj1
   rw [if_pos (by decide)] at hb;obtain rfl:b=true:=(Option.some.inj hb).symm;refine b_F rfl rfl rfl rfl rfl rfl ?_;refine b_F rfl rfl rfl rfl rfl rfl ?_;refine b_F rfl rfl rfl rfl rfl rfl ?_;refine bv rfl (qan rfl rfl rfl) ?_;refine qaG (s':=⟨[(0,.yl id ver),(1,FA),(2,FG),(3,FM),(5,.ar iO v 1 0 out.length),(7,.ptr i7 v7 0),(8,slE eStr all),(9,.int .i64 (all.length:Int)),(10,.int .i64 (i:Int)),(24,.bool true)],(i7,v7,.arr 1 9 [HV.str w])::(iO,v,oTx out)::H⟩) ⟨qaP ⟨rfl,rfl,rfl,rfl,rfl,rfl,rfl,rfl,rfl,rfl,trivial⟩,fun _ _ h=>h⟩ ?_;exact qab fin
  rintro s' ⟨out',iN,vN,H2,h1,h2,h3,h4,hle⟩
  refine AW.to (qaZ hle ?_);refine zab rfl fun K1 hK=>?_;refine bv rfl (qag rfl rfl qaX) ?_;rw [hnxt];refine mv rfl rfl ?_;refine qab (hK _ ?_);exact ⟨(i+1,out',iN,vN,H2),⟨by dsimp only; omega,h1,h2,h3,h4⟩,by dsimp only; omega,⟨qaP ⟨rfl,rfl,rfl,rfl,rfl,rfl,rfl,rfl,trivial⟩,fun _ _ h=>h⟩⟩
 have hc:=of_decide_eq_false hc
 have hie:i=all.length:=by omega
 subst hie;rw [List.drop_length] at h;have h:out=L:=Option.some.inj h;refine AW.exit ?_;refine ⟨.inl rfl,?_⟩;simp only [go_sem,reduceIte,Nat.reduceEqDiff];refine ⟨_,_,Conv.refl _ _,hdone _ ?_⟩;rw [List.length_map,← h];exact hmn _ _ _ hj (qfB hiO)
def qeO (E:List qaq) (i:Nat):List Int:=(E.filter fun e=>decide (e.1=(i:Int))).map (·.2.2)
def qcy (nx:Nat→List Int):Nat→List Bool→Nat→List Bool
 | 0,seen,_=>seen
 | n+1,seen,s=>(nx s).foldl (fun sn t=>if sn.getD t.toNat true=true then sn else qcy nx n sn t.toNat) (seen.set s true)
def qow (g:qaa) (s:Int):Prop:=(0≤g.2.1∧g.2.1≤1000)∧g.2.2.length≤100000∧(0≤s∧s<g.2.1)∧∀ e∈g.2.2,(0≤e.1∧e.1<g.2.1)∧(0≤e.2.2∧e.2.2<g.2.1)
open Classical in
def qc6 (g:qaa) (s:Int):Option (List Bool) :=
 if qow g s then some (qcy (qeO g.2.2) g.2.1.toNat (List.replicate g.2.1.toNat false) s.toNat) else none
theorem qey (nx:Nat→List Int):∀ (n:Nat) (seen:List Bool) (s:Nat),(qcy nx n seen s).length=seen.length
 | 0,_,_=>rfl
 | n+1,seen,s=>by
  have:∀ (l:List Int) (sn:List Bool),sn.length=seen.length→(l.foldl (fun sn t=>if sn.getD t.toNat true=true then sn else qcy nx n sn t.toNat) sn).length=seen.length:=by
   intro l
   induction l with
   | nil=>exact fun _ h=>h
   | cons t l ih =>
    intro sn h;refine ih _ ?_;dsimp only;split
    ·exact h
    rw [qey nx n]; exact h
  exact this _ _ (by simp)
theorem qdo {l:List Bool} {i:Nat} (h:l.getD i true=false):(l.set i true).count false+1=l.count false:=by
 induction l generalizing i with
 | nil=>simp at h
 | cons a l ih =>
  cases i with
  | zero =>
   simp at h;subst h;simp
  | succ i =>
   have:=ih (i:=i) (by simpa using h);simp only [List.set_cons_succ,List.count_cons];omega
theorem qlH (l:List Bool) (i:Nat):(l.set i true).count false≤l.count false:=by
 induction l generalizing i with
 | nil=>simp
 | cons a l ih =>
  cases i with
  | zero=>simp only [List.set_cons_zero,List.count_cons]; simp
  | succ i =>
   have:=ih i;simp only [List.set_cons_succ,List.count_cons];omega
theorem qf4 (nx:Nat→List Int):∀ (n:Nat) (seen:List Bool) (s:Nat),(qcy nx n seen s).count false≤seen.count false
 | 0,_,_=>Nat.le_refl _
 | n+1,seen,s=>by
  have:∀ (l:List Int) (sn:List Bool),sn.count false≤seen.count false→(l.foldl (fun sn t=>if sn.getD t.toNat true=true then sn else qcy nx n sn t.toNat) sn).count false≤seen.count false:=by
   intro l
   induction l with
   | nil=>exact fun _ h=>h
   | cons t l ih =>
    intro sn h;refine ih _ ?_;dsimp only;split
    ·exact h
    exact Nat.le_trans (qf4 nx n _ _) h
  exact this _ _ (qlH _ _)
def qfV (nx:Nat→List Int) (n:Nat) (seen:List Bool) (s i:Nat):List Bool:=((nx s).take i).foldl (fun sn t=>if sn.getD t.toNat true=true then sn else qcy nx n sn t.toNat) (seen.set s true)
theorem qor (nx:Nat→List Int) (n:Nat) (seen:List Bool) (s i:Nat):(qfV nx n seen s i).length=seen.length:=by
 unfold qfV
 have:∀ (l:List Int) (sn:List Bool),sn.length=seen.length→(l.foldl (fun sn t=>if sn.getD t.toNat true=true then sn else qcy nx n sn t.toNat) sn).length=seen.length:=by
  intro l
  induction l with
  | nil=>exact fun _ h=>h
  | cons t l ih =>
   intro sn h;refine ih _ ?_;dsimp only;split
   ·exact h
   rw [qey]; exact h
 exact this _ _ (by simp)
theorem ql6 {nx:Nat→List Int} {n:Nat} {seen:List Bool} {s i:Nat} (h:seen.getD s true=false) (hc:seen.count false≤n+1):(qfV nx n seen s i).count false≤n:=by
 unfold qfV;have h1:=qdo h
 have:∀ (l:List Int) (sn:List Bool),sn.count false≤n→(l.foldl (fun sn t=>if sn.getD t.toNat true=true then sn else qcy nx n sn t.toNat) sn).count false≤n:=by
  intro l
  induction l with
  | nil=>exact fun _ h=>h
  | cons t l ih =>
   intro sn h;refine ih _ ?_;dsimp only;split
   ·exact h
   exact Nat.le_trans (qf4 nx n _ _) h
 exact this _ _ (by omega)
theorem qnH (nx:Nat→List Int) (n:Nat) (seen:List Bool) (s:Nat) {i:Nat} (hi:i<(nx s).length):qfV nx n seen s (i+1)=if (qfV nx n seen s i).getD (nx s)[i].toNat true=true then qfV nx n seen s i else qcy nx n (qfV nx n seen s i) (nx s)[i].toNat:=by
 unfold qfV;rw [← List.take_append_getElem hi,List.foldl_append];rfl
end Go.AW
end
